/- Printed, and by hand: the functions that FnExactList reaches come to their end; the program's answer as the reference's. -/
import Derived.Test.YtljkbknnnpjmgaaXEList2
import Derived.KernelRfl
set_option linter.unusedVariables false
set_option linter.unusedSimpArgs false
namespace Go.Proofs.Ytljkbknnnpjmgaa
open Go Go.T Go.Proofs
theorem ZaW (n : Int) : n = 1 ∨ n = 2 ∨ n = 3 ∨ n = 4 ∨ n = 5 ∨ ((n == 1) = false ∧ (n == 2) = false ∧ (n == 3) = false ∧ (n == 4) = false ∧ (n == 5) = false) := by
 simp only [beq_eq_false_iff_ne]
 omega
theorem Yr.f_of {β : Type} {k : Nat} {a0 : LD} {a1 z0 : Int} (h : Yr.t k a0 a1 = some z0) (K : Int → Option β) : Yr.f k a0 a1 K = K z0 := by
 unfold Yr.f
 rw [h]
theorem Yr.tm {ι α : Type} {ok : ι → Prop} {ψ : α → Prop} {p : ι → Nat} {B : Nat} (hp : ∀ i, ok i → B ≤ p i) {a0 : LD} {a1 : Int} {φ : Int → Prop} (h : Tm (fun k => B ≤ k) (fun k => Yr.t k a0 a1) φ) {G : ι → Int → Option α} (hG : ∀ z0, φ z0 → Tm ok (fun ι0 => G ι0 z0) ψ) : Tm ok (fun ι0 => Yr.f (p ι0) a0 a1 (G ι0)) ψ := by
 obtain ⟨z0, h1, h2⟩ := h
 exact (hG z0 h1).congr fun i0 hi0 => Yr.f_of (h2 (p i0) (hp i0 hi0)) _
def RS (B : Nat) (r : List D) : Prop := ∃ (c0 : BA), r = [.str c0] ∧ c0.size ≤ B ∧ True
theorem RS.open {B : Nat} {r : List D} (h : RS B r) : ∃ (c0 : BA), r = [.str c0] ∧ c0.size ≤ B ∧ True := h
theorem RS.mono {B B' : Nat} (hb : B ≤ B') {r : List D} (h : RS B r) : RS B' r := by
 obtain ⟨c0, rfl, k0, _⟩ := h
 exact ⟨_, rfl, (Nat.le_trans k0 hb), trivial⟩
theorem RS.wide {xs : LD} (h : Zm RS lim xs) : Zm RS 2097152 xs := ⟨Nat.le_trans h.1 (by decide), fun r hr => (h.2 r hr).mono (by decide)⟩
theorem RS.len {B : Nat} {r : List D} (h : RS B r) : r.length = 1 := by
 obtain ⟨c0, rfl, _⟩ := h.open
 rfl
theorem RS.flat {B : Nat} {xs : LD} (h : ∀ r ∈ xs, RS B r) : Zcm 1 xs := fun r hr => by
 obtain ⟨c0, rfl, _⟩ := (h r hr).open
 exact ⟨rfl, by simp [Zaq]⟩
theorem RS.wt {B : Nat} {xs : LD} (h : ∀ r ∈ xs, RS B r) : ZE xs = 1 * xs.length := wt_flat (R := RS B) (fun r h => by obtain ⟨c0, rfl, _⟩ := h; rfl) xs h
theorem RS.deep {B : Nat} {xs : LD} (h : ∀ r ∈ xs, RS B r) : Zs xs = xs.map (·.map C.d) := deep_flat (R := RS B) (fun r h => by obtain ⟨c0, rfl, _⟩ := h; rfl) xs h
theorem RS.gets {B : Nat} {xs : LD} (h : ∀ r ∈ xs, RS B r) {v : Int} (h0 : 0 ≤ v) (h1 : v < xs.length) : gR xs v = [.str (gS xs v 0)] ∧ (gS xs v 0).size ≤ B ∧ True := by
 obtain ⟨c0, e, k0, _⟩ := (h (gR xs v) (gR_mem h0 h1)).open
 unfold gS
 rw [e]
 exact ⟨rfl, k0, trivial⟩
theorem RS.rows {B : Nat} {xs : LD} (h : ∀ r ∈ xs, RS B r) {v : Int} (h0 : 0 ≤ v) (h1 : v < xs.length) {β : Type} (F : List D → Option β) : ZX xs v F = F [.str (gS xs v 0)] := by
 rw [← (RS.gets h h0 h1).1]
 exact ZbB h0 h1 F
theorem RS.get {B : Nat} {xs : LD} (h : Zm RS B xs) {v : Int} (h0 : 0 ≤ v) (h1 : v < xs.length) : gR xs v = [.str (gS xs v 0)] ∧ (gS xs v 0).size ≤ B ∧ True := RS.gets h.2 h0 h1
theorem RS.row {B : Nat} {xs : LD} (h : Zm RS B xs) {v : Int} (h0 : 0 ≤ v) (h1 : v < xs.length) {β : Type} (F : List D → Option β) : ZX xs v F = F [.str (gS xs v 0)] := RS.rows h.2 h0 h1 F
theorem Yr.T {a0 : LD} {a1 : Int} (h0 : 0 ≤ a1) (h1 : a1 ≤ 1048576) (ga0 : Zm RS maxLen a0) : Tm Zar (fun k => Yr.t k a0 a1) (fun r => r < 0 ∨ 0 ≤ r ∧ r ≤ a1 ∧ Zm RS lim a0 ∧ ((ZE a0 : Nat) : Int) ≤ 64 * (a1 - r) ∧ True) := by
 unfold Yr.t Yr.g
 have hm := Za
 have hlim : lim = 1048576 := rfl
 have hlen := ga0.1
 try rw [ZC (x := a1 - (a0.length : Int)) (by omega) (by omega)]
 refine Tm.ite (fun h1 => ?_) (fun h1 => ?_)
 ·try simp only [bz0, bz1, bz2, bz3, bz4, bz5, bz6, bz7, bz8, bz9, bza] at h1
  exact Tm.ret (by first | (left; omega) | (right; refine ⟨?_, ?_, ?_, ?_, trivial⟩ <;> first | assumption | omega))
 ·try simp only [bz0, bz1, bz2, bz3, bz4, bz5, bz6, bz7, bz8, bz9, bza] at h1
  refine Tm.loop (okk := Zar) (p := fun k => k) (fun i hi => hi) (b := fun k => Yr.l0 k a0 (fun z0 => some z0)) (fun v => match v with | (u0, i) => (((a0.length : Int)) - i).toNat) (fun v => match v with | (u0, i) => 0 ≤ u0 ∧ u0 ≤ a1 ∧ 0 ≤ i ∧ i ≤ (a0.length : Int) ∧ (∀ r ∈ a0.take i.toNat, RS lim r) ∧ ((ZE (a0.take i.toNat) : Nat) : Int) ≤ 64 * (a1 - a0.length - u0 + i)) ?_ ?_ ?_
  ·rintro ⟨u0, i⟩ hI
   try simp only [] at hI ⊢
   have : big = 2 ^ 64 := rfl
   have := ga0.1
   omega
  ·exact ⟨by omega, by omega, by omega, by simp, by simp, by simp [ZE]⟩
  ·rintro ⟨u0, i⟩ hI L hL
   try simp only [] at hI
   obtain ⟨u0a, u0b, i0, i1, hr, hwt⟩ := hI
   simp only [Yr.l0]
   refine Tm.ite (fun h2 => ?_) (fun h2 => ?_)
   ·try simp only [bz0, bz1, bz2, bz3, bz4, bz5, bz6, bz7, bz8, bz9, bza] at h2
    refine Tm.atRow (by first | assumption | omega) (by first | assumption | omega) (fun x3 hx4 hm5 => ?_)
    obtain ⟨c6, rfl, g7, _⟩ := (ga0.2 x3 hm5).open
    refine Tm.uncons ?_
    refine Tm.dStr ?_
    refine Tm.atEnd ?_
    try rw [ZC (x := u0 - (c6.size : Int)) (by omega) (by omega)]
    refine Tm.ite (fun h8 => ?_) (fun h8 => ?_)
    ·try simp only [bz0, bz1, bz2, bz3, bz4, bz5, bz6, bz7, bz8, bz9, bza] at h8
     exact Tm.ret (by first | (left; omega) | (rw [List.take_of_length_le (by omega)] at hwt; exact .inr ⟨by omega, by omega, ⟨by simp only [lim]; omega, Zau (by omega) hr⟩, by omega, trivial⟩))
    ·try simp only [bz0, bz1, bz2, bz3, bz4, bz5, bz6, bz7, bz8, bz9, bza] at h8
     try rw [ZC (x := i + 1) (by omega) (by omega)]
     have hwx := Zb4 i0 hx4
     simp only [Zbi, wtD] at hwx
     refine hL ((u0 - (c6.size : Int)), (i + 1)) ⟨by omega, by omega, by omega, by omega, Zbd i0 hx4 hr ⟨_, rfl, by first | assumption | omega, trivial⟩, by omega⟩ (by (try simp only []); omega)
   ·try simp only [bz0, bz1, bz2, bz3, bz4, bz5, bz6, bz7, bz8, bz9, bza] at h2
    exact Tm.ret (by first | (left; omega) | (rw [List.take_of_length_le (by omega)] at hwt; exact .inr ⟨by omega, by omega, ⟨by simp only [lim]; omega, Zau (by omega) hr⟩, by omega, trivial⟩))
theorem Yl.f_of {β : Type} {k : Nat} {a0 : LD} {a1 z0 : Int} (h : Yl.t k a0 a1 = some z0) (K : Int → Option β) : Yl.f k a0 a1 K = K z0 := by
 unfold Yl.f
 unfold Yl.w
 rw [h]
theorem Yl.tm {ι α : Type} {ok : ι → Prop} {ψ : α → Prop} {p : ι → Nat} {B : Nat} (hp : ∀ i, ok i → B ≤ p i) {a0 : LD} {a1 : Int} {φ : Int → Prop} (h : Tm (fun k => B ≤ k) (fun k => Yl.t k a0 a1) φ) {G : ι → Int → Option α} (hG : ∀ z0, φ z0 → Tm ok (fun ι0 => G ι0 z0) ψ) : Tm ok (fun ι0 => Yl.f (p ι0) a0 a1 (G ι0)) ψ := by
 obtain ⟨z0, h1, h2⟩ := h
 exact (hG z0 h1).congr fun i0 hi0 => Yl.f_of (h2 (p i0) (hp i0 hi0)) _
inductive Yap (B : Nat) : Nat → List D → Prop
 | mk {h : Nat} (c0 : Int) (c1 : BA) (c2 : Int) (c3 : LD) (c4 : LD) (k0 : (Lit.int .i64 c0).wf = true) (k1 : c1.size ≤ B) (k2 : (Lit.int .i64 c2).wf = true) (k3 : Zm RS B c3) (k4 : c4.length ≤ B) (m4 : ∀ r ∈ c4, Yap B h r) : Yap B (h + 1) [.int .i64 c0, .str c1, .int .i64 c2, .sl c3, .sl c4]
def YQ (B : Nat) (r : List D) : Prop := ∃ h, (B ≤ 1099511627776 → h ≤ 1099511627776) ∧ Yap B h r
theorem YQ.open {B : Nat} {r : List D} (h : YQ B r) : ∃ (c0 : Int) (c1 : BA) (c2 : Int) (c3 : LD) (c4 : LD), r = [.int .i64 c0, .str c1, .int .i64 c2, .sl c3, .sl c4] ∧ (Lit.int .i64 c0).wf = true ∧ c1.size ≤ B ∧ (Lit.int .i64 c2).wf = true ∧ Zm RS B c3 ∧ Zm YQ B c4 ∧ True := by
 obtain ⟨h, hh, h1⟩ := h
 cases h1 with
 | mk c0 c1 c2 c3 c4 k0 k1 k2 k3 k4 m4 => exact ⟨c0, c1, c2, c3, c4, rfl, k0, k1, k2, k3, ⟨k4, fun r hr => ⟨_, fun hb => by have := hh hb; omega, m4 r hr⟩⟩, trivial⟩
theorem Yap.up {B B' : Nat} (hb : B ≤ B') : ∀ {h : Nat} {r : List D}, Yap B h r → Yap B' h r
 | _ + 1, _, .mk c0 c1 c2 c3 c4 k0 k1 k2 k3 k4 m4 => .mk c0 c1 c2 c3 c4 k0 (Nat.le_trans k1 hb) k2 ⟨Nat.le_trans k3.1 hb, fun r hr => (k3.2 r hr).mono hb⟩ (Nat.le_trans k4 hb) (fun r hr => Yap.up hb (m4 r hr))
theorem YQ.mono {B B' : Nat} (hb : B ≤ B') {r : List D} (h : YQ B r) : YQ B' r := by
 obtain ⟨h, hh, h1⟩ := h
 exact ⟨h, fun h2 => hh (Nat.le_trans hb h2), h1.up hb⟩
theorem Yap.mono {B : Nat} : ∀ {h h' : Nat} {r : List D}, h ≤ h' → Yap B h r → Yap B h' r
 | _, 0, _, hl, .mk .. => by omega
 | _ + 1, _ + 1, _, hl, .mk c0 c1 c2 c3 c4 k0 k1 k2 k3 k4 m4 => .mk c0 c1 c2 c3 c4 k0 k1 k2 k3 k4 (fun r hr => Yap.mono (by omega) (m4 r hr))
theorem YQ.wide {xs : LD} (h : Zm YQ lim xs) : Zm YQ 2097152 xs := ⟨Nat.le_trans h.1 (by decide), fun r hr => (h.2 r hr).mono (by decide)⟩
theorem YQ.len {B : Nat} {r : List D} (h : YQ B r) : r.length = 5 := by
 obtain ⟨c0, c1, c2, c3, c4, rfl, _⟩ := h.open
 rfl
theorem YQ.gets {B : Nat} {xs : LD} (h : ∀ r ∈ xs, YQ B r) {v : Int} (h0 : 0 ≤ v) (h1 : v < xs.length) : gR xs v = [.int .i64 (gI xs v 0), .str (gS xs v 1), .int .i64 (gI xs v 2), .sl (gL xs v 3), .sl (gL xs v 4)] ∧ (Lit.int .i64 (gI xs v 0)).wf = true ∧ (gS xs v 1).size ≤ B ∧ (Lit.int .i64 (gI xs v 2)).wf = true ∧ Zm RS B (gL xs v 3) ∧ Zm YQ B (gL xs v 4) ∧ True := by
 obtain ⟨c0, c1, c2, c3, c4, e, k0, k1, k2, k3, k4, _⟩ := (h (gR xs v) (gR_mem h0 h1)).open
 unfold gI gL gS
 rw [e]
 exact ⟨rfl, k0, k1, k2, k3, k4, trivial⟩
theorem YQ.rows {B : Nat} {xs : LD} (h : ∀ r ∈ xs, YQ B r) {v : Int} (h0 : 0 ≤ v) (h1 : v < xs.length) {β : Type} (F : List D → Option β) : ZX xs v F = F [.int .i64 (gI xs v 0), .str (gS xs v 1), .int .i64 (gI xs v 2), .sl (gL xs v 3), .sl (gL xs v 4)] := by
 rw [← (YQ.gets h h0 h1).1]
 exact ZbB h0 h1 F
theorem YQ.get {B : Nat} {xs : LD} (h : Zm YQ B xs) {v : Int} (h0 : 0 ≤ v) (h1 : v < xs.length) : gR xs v = [.int .i64 (gI xs v 0), .str (gS xs v 1), .int .i64 (gI xs v 2), .sl (gL xs v 3), .sl (gL xs v 4)] ∧ (Lit.int .i64 (gI xs v 0)).wf = true ∧ (gS xs v 1).size ≤ B ∧ (Lit.int .i64 (gI xs v 2)).wf = true ∧ Zm RS B (gL xs v 3) ∧ Zm YQ B (gL xs v 4) ∧ True := YQ.gets h.2 h0 h1
theorem YQ.row {B : Nat} {xs : LD} (h : Zm YQ B xs) {v : Int} (h0 : 0 ≤ v) (h1 : v < xs.length) {β : Type} (F : List D → Option β) : ZX xs v F = F [.int .i64 (gI xs v 0), .str (gS xs v 1), .int .i64 (gI xs v 2), .sl (gL xs v 3), .sl (gL xs v 4)] := YQ.rows h.2 h0 h1 F
theorem YI.f_of {β : Type} {k : Nat} {aB : Int} {aA : BA} {aE : Int} {aD aG : LD} {a1 z0 : Int} (h : YI.t k aB aA aE aD aG a1 = some z0) (K : Int → Option β) : YI.f k aB aA aE aD aG a1 K = K z0 := by
 unfold YI.f
 unfold YI.w
 rw [h]
theorem YI.tm {ι α : Type} {ok : ι → Prop} {ψ : α → Prop} {p : ι → Nat} {B : Nat} (hp : ∀ i, ok i → B ≤ p i) {aB : Int} {aA : BA} {aE : Int} {aD aG : LD} {a1 : Int} {φ : Int → Prop} (h : Tm (fun k => B ≤ k) (fun k => YI.t k aB aA aE aD aG a1) φ) {G : ι → Int → Option α} (hG : ∀ z0, φ z0 → Tm ok (fun ι0 => G ι0 z0) ψ) : Tm ok (fun ι0 => YI.f (p ι0) aB aA aE aD aG a1 (G ι0)) ψ := by
 obtain ⟨z0, h1, h2⟩ := h
 exact (hG z0 h1).congr fun i0 hi0 => YI.f_of (h2 (p i0) (hp i0 hi0)) _
theorem szVal (n : Nat) : (∀ (left : Int) (a : LD), 0 ≤ left → left ≤ n → left ≤ 1048576 → Zm YQ maxLen a → Tm (fun k => big + 2 * n + 1 ≤ k) (fun k => Yl.t k a left) (fun r => r < 0 ∨ 0 ≤ r ∧ r ≤ left ∧ a.length ≤ lim ∧ (∀ x ∈ a, Yap lim (left - r).toNat x) ∧ ((ZE a : Nat) : Int) ≤ 64 * (left - r))) ∧
  (∀ (left c0 : Int) (c1 : BA) (c2 : Int) (c3 c4 : LD), 0 ≤ left → left ≤ n → left ≤ 1048576 → c1.size ≤ maxLen → Zm RS maxLen c3 → Zm YQ maxLen c4 → Tm (fun k => big + 2 * n + 2 ≤ k) (fun k => YI.t k c0 c1 c2 c3 c4 left) (fun r => r < 0 ∨ 0 ≤ r ∧ r ≤ left ∧ c1.size ≤ lim ∧ Zm RS lim c3 ∧ c4.length ≤ lim ∧ (∀ x ∈ c4, Yap lim (left - r).toNat x) ∧ ((ZE c3 + ZE c4 : Nat) : Int) ≤ 64 * (left - r))) := by
 have hm := Za
 have hlim : lim = 1048576 := rfl
 have hb : big = 2 ^ 64 := rfl
 induction n using Nat.strongRecOn with
 | ind n ih =>
 have S : ∀ (left : Int) (a : LD), 0 ≤ left → left ≤ n → left ≤ 1048576 → Zm YQ maxLen a → Tm (fun k => big + 2 * n + 1 ≤ k) (fun k => Yl.t k a left) (fun r => r < 0 ∨ 0 ≤ r ∧ r ≤ left ∧ a.length ≤ lim ∧ (∀ x ∈ a, Yap lim (left - r).toNat x) ∧ ((ZE a : Nat) : Int) ≤ 64 * (left - r)) := by
  intro left a h0 h1 h2 g
  have hlen := g.1
  refine Tm.succ (g := fun k => Yl.g k a left (fun z0 => some z0)) (fun k => Yl.t_succ k a left) ?_
  unfold Yl.g Yl.body
  rw [ZC (x := left - a.length) (by omega) (by omega)]
  refine Tm.ite (fun h3 => Tm.ret (.inl (by omega))) (fun h3 => ?_)
  simp only [decide_eq_false_iff_not, Int.not_lt] at h3
  refine Tm.loop (okk := fun k => big + 2 * n ≤ k) (p := fun k => k) (fun i hi => by omega) (b := fun k => Yl.l0 k (Yl.f k) (YI.f k) a (fun z0 => some z0)) (fun v => match v with | (u0, i) => (((a.length : Int)) - i).toNat) (fun v => match v with | (u0, i) => 0 ≤ u0 ∧ u0 ≤ left - a.length ∧ 0 ≤ i ∧ i ≤ (a.length : Int) ∧ (∀ r ∈ a.take i.toNat, Yap lim (left - u0).toNat r) ∧ ((ZE (a.take i.toNat) : Nat) : Int) ≤ 64 * (left - a.length - u0 + i)) ?_ ?_ ?_
  ·rintro ⟨u0, i⟩ hI
   simp only [] at hI ⊢
   omega
  ·exact ⟨by omega, by omega, by omega, by omega, by simp, by simp [ZE]⟩
  ·rintro ⟨u0, i⟩ hI L hL
   simp only [] at hI
   obtain ⟨u0a, u0b, i0, i1, hr, hwt⟩ := hI
   simp only [Yl.l0]
   refine Tm.ite (fun h4 => ?_) (fun h4 => ?_)
   ·simp only [decide_eq_true_eq] at h4
    refine Tm.atRow (by omega) (by omega) (fun x5 hx6 hm7 => ?_)
    obtain ⟨c0, c1, c2, c3, c4, rfl, w0, g1, w2, g3, g4, _⟩ := (g.2 x5 hm7).open
    refine Tm.uncons (Tm.dInt (Tm.uncons (Tm.dStr (Tm.uncons (Tm.dInt (Tm.uncons (Tm.dSl (Tm.uncons (Tm.dSl (Tm.atEnd ?_))))))))))
    refine YI.tm (B := big + 2 * (n - 1) + 2) (fun i hi => by have := hi.1; omega) ((ih (n - 1) (by omega)).2 u0 c0 c1 c2 c3 c4 u0a (by omega) (by omega) g1 g3 g4) (fun y hy => ?_)
    rcases hy with hy | ⟨y0, y1, q1, q3, q4, q5, qw⟩
    ·exact Tm.ite (fun _ => Tm.ret (.inl (by omega))) (fun h => by simp at h; omega)
    refine Tm.ite (fun h8 => by simp at h8; omega) (fun h8 => ?_)
    rw [ZC (x := i + 1) (by omega) (by omega)]
    have hwx := Zb4 i0 hx6
    simp only [Zbi, wtD] at hwx
    refine hL (y, i + 1) ⟨by omega, by omega, by omega, by omega, Zbd i0 hx6 (fun r hr' => (hr r hr').mono (by omega)) ?_, by omega⟩ (by simp only []; omega)
    exact Yap.mono (h := (u0 - y).toNat + 1) (by omega) (.mk _ _ _ _ _ w0 q1 w2 q3 q4 q5)
   ·simp only [decide_eq_false_iff_not, Int.not_lt] at h4
    rw [List.take_of_length_le (by omega)] at hwt
    exact Tm.ret (.inr ⟨by omega, by omega, by omega, fun x hx => (Zau (by omega) hr x hx).mono (by omega), by omega⟩)
 refine ⟨S, ?_⟩
 intro left c0 c1 c2 c3 c4 h0 h1 h2 g1 g3 g4
 refine Tm.succ (g := fun k => YI.g k c0 c1 c2 c3 c4 left (fun z0 => some z0)) (fun k => YI.t_succ k c0 c1 c2 c3 c4 left) ?_
 unfold YI.g YI.body
 rw [ZC (x := left - c1.size) (by omega) (by omega)]
 refine Tm.ite (fun h3 => Tm.ret (.inl (by omega))) (fun h3 => ?_)
 simp only [decide_eq_false_iff_not, Int.not_lt] at h3
 refine Yr.tm (B := big) (fun i hi => by omega) (Yr.T (by omega) (by omega) g3) (fun y hy => ?_)
 rcases hy with hy | ⟨y0, y1, q3, qw, _⟩
 ·exact Tm.ite (fun _ => Tm.ret (.inl (by omega))) (fun h => by simp at h; omega)
 refine Tm.ite (fun h8 => by simp at h8; omega) (fun h8 => ?_)
 refine Yl.tm (B := big + 2 * n + 1) (fun i hi => hi) (S y c4 y0 (by omega) (by omega) g4) (fun y' hy' => ?_)
 rcases hy' with hy' | ⟨y0', y1', q4, q5, qw'⟩
 ·exact Tm.ite (fun _ => Tm.ret (.inl (by omega))) (fun h => by simp at h; omega)
 refine Tm.ite (fun h8 => by simp at h8; omega) (fun h8 => ?_)
 exact Tm.ret (.inr ⟨by omega, by omega, by omega, q3, q4, fun x hx => (q5 x hx).mono (by omega), by omega⟩)
theorem big_lv1 {n : Nat} (h : n ≤ 4398046511104) : big + n ≤ lv 1 := by
 have hb : big = 2 ^ 64 := rfl
 have : lv 1 = 2 ^ 65 := rfl
 omega
theorem YI.T {aB : Int} {aA : BA} {aE : Int} {aD aG : LD} {a1 : Int} (h0 : 0 ≤ a1) (h1 : a1 ≤ 1048576) (g1 : aA.size ≤ maxLen) (g3 : Zm RS maxLen aD) (g4 : Zm YQ maxLen aG) : Tm (Zay 1) (fun k => YI.t k aB aA aE aD aG a1) (fun r => r < 0 ∨ 0 ≤ r ∧ r ≤ a1 ∧ aA.size ≤ lim ∧ Zm RS lim aD ∧ Zm YQ lim aG ∧ ((ZE aD + ZE aG : Nat) : Int) ≤ 64 * (a1 - r) ∧ True) :=
 (((szVal a1.toNat).2 a1 aB aA aE aD aG h0 (by omega) h1 g1 g3 g4).up (big_lv1 (n := 2 * a1.toNat + 2) (by omega))).mono fun r hr => by
  rcases hr with hr | ⟨r0, r1, r2, r3, r4, r5, r6⟩
  ·exact .inl hr
  ·exact .inr ⟨r0, r1, r2, r3, ⟨r4, fun x hx => ⟨_, fun _ => by omega, r5 x hx⟩⟩, r6, trivial⟩
theorem Yah.f_of {β : Type} {k : Nat} {aB : Int} {aA : BA} {aE aD aG : Int} {aT : Bool} {aM : LD} {aQ : Int} {aI : BA} {aR : Int} {aJ aN : LD} {aP : Int} {aK : BA} {aS : Int} {aL aO : LD} {a1 z0 : Int} (h : Yah.t k aB aA aE aD aG aT aM aQ aI aR aJ aN aP aK aS aL aO a1 = some z0) (K : Int → Option β) : Yah.f k aB aA aE aD aG aT aM aQ aI aR aJ aN aP aK aS aL aO a1 K = K z0 := by
 unfold Yah.f
 rw [h]
theorem Yah.tm {ι α : Type} {ok : ι → Prop} {ψ : α → Prop} {p : ι → Nat} {B : Nat} (hp : ∀ i, ok i → B ≤ p i) {aB : Int} {aA : BA} {aE aD aG : Int} {aT : Bool} {aM : LD} {aQ : Int} {aI : BA} {aR : Int} {aJ aN : LD} {aP : Int} {aK : BA} {aS : Int} {aL aO : LD} {a1 : Int} {φ : Int → Prop} (h : Tm (fun k => B ≤ k) (fun k => Yah.t k aB aA aE aD aG aT aM aQ aI aR aJ aN aP aK aS aL aO a1) φ) {G : ι → Int → Option α} (hG : ∀ z0, φ z0 → Tm ok (fun ι0 => G ι0 z0) ψ) : Tm ok (fun ι0 => Yah.f (p ι0) aB aA aE aD aG aT aM aQ aI aR aJ aN aP aK aS aL aO a1 (G ι0)) ψ := by
 obtain ⟨z0, h1, h2⟩ := h
 exact (hG z0 h1).congr fun i0 hi0 => Yah.f_of (h2 (p i0) (hp i0 hi0)) _
theorem Yah.T {aB : Int} {aA : BA} {aE aD aG : Int} {aT : Bool} {aM : LD} {aQ : Int} {aI : BA} {aR : Int} {aJ aN : LD} {aP : Int} {aK : BA} {aS : Int} {aL aO : LD} {a1 : Int} (h0 : 0 ≤ a1) (h1 : a1 ≤ 1048576) (ga0_1 : aA.size ≤ maxLen) (ga0_6 : Zm RS maxLen aM) (ga0_8 : aI.size ≤ maxLen) (ga0_10 : Zm RS maxLen aJ) (ga0_11 : Zm YQ maxLen aN) (ga0_13 : aK.size ≤ maxLen) (ga0_15 : Zm RS maxLen aL) (ga0_16 : Zm YQ maxLen aO) : Tm (Zay 1) (fun k => Yah.t k aB aA aE aD aG aT aM aQ aI aR aJ aN aP aK aS aL aO a1) (fun r => r < 0 ∨ 0 ≤ r ∧ r ≤ a1 ∧ aA.size ≤ lim ∧ Zm RS lim aM ∧ aI.size ≤ lim ∧ Zm RS lim aJ ∧ Zm YQ lim aN ∧ aK.size ≤ lim ∧ Zm RS lim aL ∧ Zm YQ lim aO ∧ ((ZE aM + ZE aJ + ZE aN + ZE aL + ZE aO : Nat) : Int) ≤ 64 * (a1 - r) ∧ True) := by
 unfold Yah.t Yah.g
 have hm := Za
 have hlim : lim = 1048576 := rfl
 try rw [ZC (x := a1 - (aA.size : Int)) (by omega) (by omega)]
 refine Tm.ite (fun h1 => ?_) (fun h1 => ?_)
 ·try simp only [bz0, bz1, bz2, bz3, bz4, bz5, bz6, bz7, bz8, bz9, bza] at h1
  exact Tm.ret (by first | (left; omega) | (right; refine ⟨?_, ?_, ?_, ?_, ?_, ?_, ?_, ?_, ?_, ?_, ?_, trivial⟩ <;> first | assumption | omega))
 ·try simp only [bz0, bz1, bz2, bz3, bz4, bz5, bz6, bz7, bz8, bz9, bza] at h1
  refine Yr.tm (fun i hi => up0 hi) (Yr.T (by first | assumption | omega) (by first | assumption | omega) (by first | assumption | omega)) (fun y3 hy2 => ?_)
  rcases hy2 with hy2 | ⟨p6, p7, q4, q5, _⟩
  ·exact Tm.ite (fun _ => Tm.ret (by left; omega)) (fun h => by simp at h; omega)
  refine Tm.ite (fun h8 => ?_) (fun h8 => ?_)
  ·try simp only [bz0, bz1, bz2, bz3, bz4, bz5, bz6, bz7, bz8, bz9, bza] at h8
   exact Tm.ret (by first | (left; omega) | (right; refine ⟨?_, ?_, ?_, ?_, ?_, ?_, ?_, ?_, ?_, ?_, ?_, trivial⟩ <;> first | assumption | omega))
  ·try simp only [bz0, bz1, bz2, bz3, bz4, bz5, bz6, bz7, bz8, bz9, bza] at h8
   refine YI.tm (fun i hi => hi) (YI.T (by first | assumption | omega) (by first | assumption | omega) (by first | assumption | omega) (by first | assumption | omega) (by first | assumption | omega)) (fun y10 hy9 => ?_)
   rcases hy9 with hy9 | ⟨p15, p16, q11, q12, q13, q14, _⟩
   ·exact Tm.ite (fun _ => Tm.ret (by left; omega)) (fun h => by simp at h; omega)
   refine Tm.ite (fun h17 => ?_) (fun h17 => ?_)
   ·try simp only [bz0, bz1, bz2, bz3, bz4, bz5, bz6, bz7, bz8, bz9, bza] at h17
    exact Tm.ret (by first | (left; omega) | (right; refine ⟨?_, ?_, ?_, ?_, ?_, ?_, ?_, ?_, ?_, ?_, ?_, trivial⟩ <;> first | assumption | omega))
   ·try simp only [bz0, bz1, bz2, bz3, bz4, bz5, bz6, bz7, bz8, bz9, bza] at h17
    refine YI.tm (fun i hi => hi) (YI.T (by first | assumption | omega) (by first | assumption | omega) (by first | assumption | omega) (by first | assumption | omega) (by first | assumption | omega)) (fun y19 hy18 => ?_)
    rcases hy18 with hy18 | ⟨p24, p25, q20, q21, q22, q23, _⟩
    ·exact Tm.ite (fun _ => Tm.ret (by left; omega)) (fun h => by simp at h; omega)
    refine Tm.ite (fun h26 => ?_) (fun h26 => ?_)
    ·try simp only [bz0, bz1, bz2, bz3, bz4, bz5, bz6, bz7, bz8, bz9, bza] at h26
     exact Tm.ret (by first | (left; omega) | (right; refine ⟨?_, ?_, ?_, ?_, ?_, ?_, ?_, ?_, ?_, ?_, ?_, trivial⟩ <;> first | assumption | omega))
    ·try simp only [bz0, bz1, bz2, bz3, bz4, bz5, bz6, bz7, bz8, bz9, bza] at h26
     exact Tm.ret (by first | (left; omega) | (right; refine ⟨?_, ?_, ?_, ?_, ?_, ?_, ?_, ?_, ?_, ?_, ?_, trivial⟩ <;> first | assumption | omega))
theorem YN.f_of {β : Type} {k : Nat} {a0 : LD} {a1 z0 : Int} (h : YN.t k a0 a1 = some z0) (K : Int → Option β) : YN.f k a0 a1 K = K z0 := by
 unfold YN.f
 rw [h]
theorem YN.tm {ι α : Type} {ok : ι → Prop} {ψ : α → Prop} {p : ι → Nat} {B : Nat} (hp : ∀ i, ok i → B ≤ p i) {a0 : LD} {a1 : Int} {φ : Int → Prop} (h : Tm (fun k => B ≤ k) (fun k => YN.t k a0 a1) φ) {G : ι → Int → Option α} (hG : ∀ z0, φ z0 → Tm ok (fun ι0 => G ι0 z0) ψ) : Tm ok (fun ι0 => YN.f (p ι0) a0 a1 (G ι0)) ψ := by
 obtain ⟨z0, h1, h2⟩ := h
 exact (hG z0 h1).congr fun i0 hi0 => YN.f_of (h2 (p i0) (hp i0 hi0)) _
def Yb (B : Nat) (r : List D) : Prop := ∃ (c0 : Int) (c1 : BA) (c2 : Int) (c3 : Int) (c4 : Int) (c5 : Bool) (c6 : LD) (c7 : Int) (c8 : BA) (c9 : Int) (c10 : LD) (c11 : LD) (c12 : Int) (c13 : BA) (c14 : Int) (c15 : LD) (c16 : LD), r = [.int .i64 c0, .str c1, .int .i64 c2, .int .i64 c3, .int .i64 c4, .bool c5, .sl c6, .int .i64 c7, .str c8, .int .i64 c9, .sl c10, .sl c11, .int .i64 c12, .str c13, .int .i64 c14, .sl c15, .sl c16] ∧ (Lit.int .i64 c0).wf = true ∧ c1.size ≤ B ∧ (Lit.int .i64 c2).wf = true ∧ (Lit.int .i64 c3).wf = true ∧ (Lit.int .i64 c4).wf = true ∧ Zm RS B c6 ∧ (Lit.int .i64 c7).wf = true ∧ c8.size ≤ B ∧ (Lit.int .i64 c9).wf = true ∧ Zm RS B c10 ∧ Zm YQ B c11 ∧ (Lit.int .i64 c12).wf = true ∧ c13.size ≤ B ∧ (Lit.int .i64 c14).wf = true ∧ Zm RS B c15 ∧ Zm YQ B c16 ∧ True
theorem Yb.open {B : Nat} {r : List D} (h : Yb B r) : ∃ (c0 : Int) (c1 : BA) (c2 : Int) (c3 : Int) (c4 : Int) (c5 : Bool) (c6 : LD) (c7 : Int) (c8 : BA) (c9 : Int) (c10 : LD) (c11 : LD) (c12 : Int) (c13 : BA) (c14 : Int) (c15 : LD) (c16 : LD), r = [.int .i64 c0, .str c1, .int .i64 c2, .int .i64 c3, .int .i64 c4, .bool c5, .sl c6, .int .i64 c7, .str c8, .int .i64 c9, .sl c10, .sl c11, .int .i64 c12, .str c13, .int .i64 c14, .sl c15, .sl c16] ∧ (Lit.int .i64 c0).wf = true ∧ c1.size ≤ B ∧ (Lit.int .i64 c2).wf = true ∧ (Lit.int .i64 c3).wf = true ∧ (Lit.int .i64 c4).wf = true ∧ Zm RS B c6 ∧ (Lit.int .i64 c7).wf = true ∧ c8.size ≤ B ∧ (Lit.int .i64 c9).wf = true ∧ Zm RS B c10 ∧ Zm YQ B c11 ∧ (Lit.int .i64 c12).wf = true ∧ c13.size ≤ B ∧ (Lit.int .i64 c14).wf = true ∧ Zm RS B c15 ∧ Zm YQ B c16 ∧ True := h
theorem Yb.mono {B B' : Nat} (hb : B ≤ B') {r : List D} (h : Yb B r) : Yb B' r := by
 obtain ⟨c0, c1, c2, c3, c4, c5, c6, c7, c8, c9, c10, c11, c12, c13, c14, c15, c16, rfl, k0, k1, k2, k3, k4, k6, k7, k8, k9, k10, k11, k12, k13, k14, k15, k16, _⟩ := h
 exact ⟨_, _, _, _, _, _, _, _, _, _, _, _, _, _, _, _, _, rfl, k0, (Nat.le_trans k1 hb), k2, k3, k4, ⟨Nat.le_trans k6.1 hb, fun r hr => (k6.2 r hr).mono hb⟩, k7, (Nat.le_trans k8 hb), k9, ⟨Nat.le_trans k10.1 hb, fun r hr => (k10.2 r hr).mono hb⟩, ⟨Nat.le_trans k11.1 hb, fun r hr => (k11.2 r hr).mono hb⟩, k12, (Nat.le_trans k13 hb), k14, ⟨Nat.le_trans k15.1 hb, fun r hr => (k15.2 r hr).mono hb⟩, ⟨Nat.le_trans k16.1 hb, fun r hr => (k16.2 r hr).mono hb⟩, trivial⟩
theorem Yb.wide {xs : LD} (h : Zm Yb lim xs) : Zm Yb 2097152 xs := ⟨Nat.le_trans h.1 (by decide), fun r hr => (h.2 r hr).mono (by decide)⟩
theorem Yb.len {B : Nat} {r : List D} (h : Yb B r) : r.length = 17 := by
 obtain ⟨c0, c1, c2, c3, c4, c5, c6, c7, c8, c9, c10, c11, c12, c13, c14, c15, c16, rfl, _⟩ := h.open
 rfl
theorem Yb.gets {B : Nat} {xs : LD} (h : ∀ r ∈ xs, Yb B r) {v : Int} (h0 : 0 ≤ v) (h1 : v < xs.length) : gR xs v = [.int .i64 (gI xs v 0), .str (gS xs v 1), .int .i64 (gI xs v 2), .int .i64 (gI xs v 3), .int .i64 (gI xs v 4), .bool (gB xs v 5), .sl (gL xs v 6), .int .i64 (gI xs v 7), .str (gS xs v 8), .int .i64 (gI xs v 9), .sl (gL xs v 10), .sl (gL xs v 11), .int .i64 (gI xs v 12), .str (gS xs v 13), .int .i64 (gI xs v 14), .sl (gL xs v 15), .sl (gL xs v 16)] ∧ (Lit.int .i64 (gI xs v 0)).wf = true ∧ (gS xs v 1).size ≤ B ∧ (Lit.int .i64 (gI xs v 2)).wf = true ∧ (Lit.int .i64 (gI xs v 3)).wf = true ∧ (Lit.int .i64 (gI xs v 4)).wf = true ∧ Zm RS B (gL xs v 6) ∧ (Lit.int .i64 (gI xs v 7)).wf = true ∧ (gS xs v 8).size ≤ B ∧ (Lit.int .i64 (gI xs v 9)).wf = true ∧ Zm RS B (gL xs v 10) ∧ Zm YQ B (gL xs v 11) ∧ (Lit.int .i64 (gI xs v 12)).wf = true ∧ (gS xs v 13).size ≤ B ∧ (Lit.int .i64 (gI xs v 14)).wf = true ∧ Zm RS B (gL xs v 15) ∧ Zm YQ B (gL xs v 16) ∧ True := by
 obtain ⟨c0, c1, c2, c3, c4, c5, c6, c7, c8, c9, c10, c11, c12, c13, c14, c15, c16, e, k0, k1, k2, k3, k4, k6, k7, k8, k9, k10, k11, k12, k13, k14, k15, k16, _⟩ := (h (gR xs v) (gR_mem h0 h1)).open
 unfold gB gI gL gS
 rw [e]
 exact ⟨rfl, k0, k1, k2, k3, k4, k6, k7, k8, k9, k10, k11, k12, k13, k14, k15, k16, trivial⟩
theorem Yb.rows {B : Nat} {xs : LD} (h : ∀ r ∈ xs, Yb B r) {v : Int} (h0 : 0 ≤ v) (h1 : v < xs.length) {β : Type} (F : List D → Option β) : ZX xs v F = F [.int .i64 (gI xs v 0), .str (gS xs v 1), .int .i64 (gI xs v 2), .int .i64 (gI xs v 3), .int .i64 (gI xs v 4), .bool (gB xs v 5), .sl (gL xs v 6), .int .i64 (gI xs v 7), .str (gS xs v 8), .int .i64 (gI xs v 9), .sl (gL xs v 10), .sl (gL xs v 11), .int .i64 (gI xs v 12), .str (gS xs v 13), .int .i64 (gI xs v 14), .sl (gL xs v 15), .sl (gL xs v 16)] := by
 rw [← (Yb.gets h h0 h1).1]
 exact ZbB h0 h1 F
theorem Yb.get {B : Nat} {xs : LD} (h : Zm Yb B xs) {v : Int} (h0 : 0 ≤ v) (h1 : v < xs.length) : gR xs v = [.int .i64 (gI xs v 0), .str (gS xs v 1), .int .i64 (gI xs v 2), .int .i64 (gI xs v 3), .int .i64 (gI xs v 4), .bool (gB xs v 5), .sl (gL xs v 6), .int .i64 (gI xs v 7), .str (gS xs v 8), .int .i64 (gI xs v 9), .sl (gL xs v 10), .sl (gL xs v 11), .int .i64 (gI xs v 12), .str (gS xs v 13), .int .i64 (gI xs v 14), .sl (gL xs v 15), .sl (gL xs v 16)] ∧ (Lit.int .i64 (gI xs v 0)).wf = true ∧ (gS xs v 1).size ≤ B ∧ (Lit.int .i64 (gI xs v 2)).wf = true ∧ (Lit.int .i64 (gI xs v 3)).wf = true ∧ (Lit.int .i64 (gI xs v 4)).wf = true ∧ Zm RS B (gL xs v 6) ∧ (Lit.int .i64 (gI xs v 7)).wf = true ∧ (gS xs v 8).size ≤ B ∧ (Lit.int .i64 (gI xs v 9)).wf = true ∧ Zm RS B (gL xs v 10) ∧ Zm YQ B (gL xs v 11) ∧ (Lit.int .i64 (gI xs v 12)).wf = true ∧ (gS xs v 13).size ≤ B ∧ (Lit.int .i64 (gI xs v 14)).wf = true ∧ Zm RS B (gL xs v 15) ∧ Zm YQ B (gL xs v 16) ∧ True := Yb.gets h.2 h0 h1
theorem Yb.row {B : Nat} {xs : LD} (h : Zm Yb B xs) {v : Int} (h0 : 0 ≤ v) (h1 : v < xs.length) {β : Type} (F : List D → Option β) : ZX xs v F = F [.int .i64 (gI xs v 0), .str (gS xs v 1), .int .i64 (gI xs v 2), .int .i64 (gI xs v 3), .int .i64 (gI xs v 4), .bool (gB xs v 5), .sl (gL xs v 6), .int .i64 (gI xs v 7), .str (gS xs v 8), .int .i64 (gI xs v 9), .sl (gL xs v 10), .sl (gL xs v 11), .int .i64 (gI xs v 12), .str (gS xs v 13), .int .i64 (gI xs v 14), .sl (gL xs v 15), .sl (gL xs v 16)] := Yb.rows h.2 h0 h1 F
theorem YN.T {a0 : LD} {a1 : Int} (h0 : 0 ≤ a1) (h1 : a1 ≤ 1048576) (ga0 : Zm Yb maxLen a0) : Tm (Zay 1) (fun k => YN.t k a0 a1) (fun r => r < 0 ∨ 0 ≤ r ∧ r ≤ a1 ∧ Zm Yb lim a0 ∧ ((ZE a0 : Nat) : Int) ≤ 64 * (a1 - r) ∧ True) := by
 unfold YN.t YN.g
 have hm := Za
 have hlim : lim = 1048576 := rfl
 have hlen := ga0.1
 try rw [ZC (x := a1 - (a0.length : Int)) (by omega) (by omega)]
 refine Tm.ite (fun h1 => ?_) (fun h1 => ?_)
 ·try simp only [bz0, bz1, bz2, bz3, bz4, bz5, bz6, bz7, bz8, bz9, bza] at h1
  exact Tm.ret (by first | (left; omega) | (right; refine ⟨?_, ?_, ?_, ?_, trivial⟩ <;> first | assumption | omega))
 ·try simp only [bz0, bz1, bz2, bz3, bz4, bz5, bz6, bz7, bz8, bz9, bza] at h1
  refine Tm.loop (okk := (Zay 1)) (p := fun k => k) (fun i hi => up0 hi) (b := fun k => YN.l0 k a0 (fun z0 => some z0)) (fun v => match v with | (u0, i) => (((a0.length : Int)) - i).toNat) (fun v => match v with | (u0, i) => 0 ≤ u0 ∧ u0 ≤ a1 ∧ 0 ≤ i ∧ i ≤ (a0.length : Int) ∧ (∀ r ∈ a0.take i.toNat, Yb lim r) ∧ ((ZE (a0.take i.toNat) : Nat) : Int) ≤ 64 * (a1 - a0.length - u0 + i)) ?_ ?_ ?_
  ·rintro ⟨u0, i⟩ hI
   try simp only [] at hI ⊢
   have : big = 2 ^ 64 := rfl
   have := ga0.1
   omega
  ·exact ⟨by omega, by omega, by omega, by simp, by simp, by simp [ZE]⟩
  ·rintro ⟨u0, i⟩ hI L hL
   try simp only [] at hI
   obtain ⟨u0a, u0b, i0, i1, hr, hwt⟩ := hI
   simp only [YN.l0]
   refine Tm.ite (fun h2 => ?_) (fun h2 => ?_)
   ·try simp only [bz0, bz1, bz2, bz3, bz4, bz5, bz6, bz7, bz8, bz9, bza] at h2
    refine Tm.atRow (by first | assumption | omega) (by first | assumption | omega) (fun x3 hx4 hm5 => ?_)
    obtain ⟨c6, c7, c8, c9, c10, c11, c12, c13, c14, c15, c16, c17, c18, c19, c20, c21, c22, rfl, g23, g24, g25, g26, g27, g28, g29, g30, g31, g32, g33, g34, g35, g36, g37, g38, _⟩ := (ga0.2 x3 hm5).open
    refine Tm.uncons ?_
    refine Tm.dInt ?_
    refine Tm.uncons ?_
    refine Tm.dStr ?_
    refine Tm.uncons ?_
    refine Tm.dInt ?_
    refine Tm.uncons ?_
    refine Tm.dInt ?_
    refine Tm.uncons ?_
    refine Tm.dInt ?_
    refine Tm.uncons ?_
    refine Tm.dBool ?_
    refine Tm.uncons ?_
    refine Tm.dSl ?_
    refine Tm.uncons ?_
    refine Tm.dInt ?_
    refine Tm.uncons ?_
    refine Tm.dStr ?_
    refine Tm.uncons ?_
    refine Tm.dInt ?_
    refine Tm.uncons ?_
    refine Tm.dSl ?_
    refine Tm.uncons ?_
    refine Tm.dSl ?_
    refine Tm.uncons ?_
    refine Tm.dInt ?_
    refine Tm.uncons ?_
    refine Tm.dStr ?_
    refine Tm.uncons ?_
    refine Tm.dInt ?_
    refine Tm.uncons ?_
    refine Tm.dSl ?_
    refine Tm.uncons ?_
    refine Tm.dSl ?_
    refine Tm.atEnd ?_
    refine Yah.tm (fun i hi => hi.1) (Yah.T (by first | assumption | omega) (by first | assumption | omega) (by first | assumption | omega) (by first | assumption | omega) (by first | assumption | omega) (by first | assumption | omega) (by first | assumption | omega) (by first | assumption | omega) (by first | assumption | omega) (by first | assumption | omega)) (fun y40 hy39 => ?_)
    rcases hy39 with hy39 | ⟨p50, p51, q41, q42, q43, q44, q45, q46, q47, q48, q49, _⟩
    ·exact Tm.ite (fun _ => Tm.ret (by left; omega)) (fun h => by simp at h; omega)
    refine Tm.ite (fun h52 => ?_) (fun h52 => ?_)
    ·try simp only [bz0, bz1, bz2, bz3, bz4, bz5, bz6, bz7, bz8, bz9, bza] at h52
     exact Tm.ret (by first | (left; omega) | (rw [List.take_of_length_le (by omega)] at hwt; exact .inr ⟨by omega, by omega, ⟨by simp only [lim]; omega, Zau (by omega) hr⟩, by omega, trivial⟩))
    ·try simp only [bz0, bz1, bz2, bz3, bz4, bz5, bz6, bz7, bz8, bz9, bza] at h52
     try rw [ZC (x := i + 1) (by omega) (by omega)]
     have hwx := Zb4 i0 hx4
     simp only [Zbi, wtD] at hwx
     refine hL (y40, (i + 1)) ⟨by omega, by omega, by omega, by omega, Zbd i0 hx4 hr ⟨_, _, _, _, _, _, _, _, _, _, _, _, _, _, _, _, _, rfl, by first | assumption | omega, by first | assumption | omega, by first | assumption | omega, by first | assumption | omega, by first | assumption | omega, by first | assumption | omega, by first | assumption | omega, by first | assumption | omega, by first | assumption | omega, by first | assumption | omega, by first | assumption | omega, by first | assumption | omega, by first | assumption | omega, by first | assumption | omega, by first | assumption | omega, by first | assumption | omega, trivial⟩, by omega⟩ (by (try simp only []); omega)
   ·try simp only [bz0, bz1, bz2, bz3, bz4, bz5, bz6, bz7, bz8, bz9, bza] at h2
    exact Tm.ret (by first | (left; omega) | (rw [List.take_of_length_le (by omega)] at hwt; exact .inr ⟨by omega, by omega, ⟨by simp only [lim]; omega, Zau (by omega) hr⟩, by omega, trivial⟩))
theorem Y5.f_of {β : Type} {k : Nat} {aB : Int} {aA : Bool} {aE : Int} {aD : BA} {aG aT aM : Int} {aQ : Bool} {aI : LD} {aR : Int} {aJ : BA} {aN : Int} {aP aK : LD} {aS : Int} {aL : BA} {aO : Int} {bO bP : LD} {a1 z0 : Int} (h : Y5.t k aB aA aE aD aG aT aM aQ aI aR aJ aN aP aK aS aL aO bO bP a1 = some z0) (K : Int → Option β) : Y5.f k aB aA aE aD aG aT aM aQ aI aR aJ aN aP aK aS aL aO bO bP a1 K = K z0 := by
 unfold Y5.f
 rw [h]
theorem Y5.tm {ι α : Type} {ok : ι → Prop} {ψ : α → Prop} {p : ι → Nat} {B : Nat} (hp : ∀ i, ok i → B ≤ p i) {aB : Int} {aA : Bool} {aE : Int} {aD : BA} {aG aT aM : Int} {aQ : Bool} {aI : LD} {aR : Int} {aJ : BA} {aN : Int} {aP aK : LD} {aS : Int} {aL : BA} {aO : Int} {bO bP : LD} {a1 : Int} {φ : Int → Prop} (h : Tm (fun k => B ≤ k) (fun k => Y5.t k aB aA aE aD aG aT aM aQ aI aR aJ aN aP aK aS aL aO bO bP a1) φ) {G : ι → Int → Option α} (hG : ∀ z0, φ z0 → Tm ok (fun ι0 => G ι0 z0) ψ) : Tm ok (fun ι0 => Y5.f (p ι0) aB aA aE aD aG aT aM aQ aI aR aJ aN aP aK aS aL aO bO bP a1 (G ι0)) ψ := by
 obtain ⟨z0, h1, h2⟩ := h
 exact (hG z0 h1).congr fun i0 hi0 => Y5.f_of (h2 (p i0) (hp i0 hi0)) _
theorem Y5.T {aB : Int} {aA : Bool} {aE : Int} {aD : BA} {aG aT aM : Int} {aQ : Bool} {aI : LD} {aR : Int} {aJ : BA} {aN : Int} {aP aK : LD} {aS : Int} {aL : BA} {aO : Int} {bO bP : LD} {a1 : Int} (h0 : 0 ≤ a1) (h1 : a1 ≤ 1048576) (ga0_3 : aD.size ≤ maxLen) (ga0_8 : Zm RS maxLen aI) (ga0_10 : aJ.size ≤ maxLen) (ga0_12 : Zm RS maxLen aP) (ga0_13 : Zm YQ maxLen aK) (ga0_15 : aL.size ≤ maxLen) (ga0_17 : Zm RS maxLen bO) (ga0_18 : Zm YQ maxLen bP) : Tm (Zay 1) (fun k => Y5.t k aB aA aE aD aG aT aM aQ aI aR aJ aN aP aK aS aL aO bO bP a1) (fun r => r < 0 ∨ 0 ≤ r ∧ r ≤ a1 ∧ aD.size ≤ lim ∧ Zm RS lim aI ∧ aJ.size ≤ lim ∧ Zm RS lim aP ∧ Zm YQ lim aK ∧ aL.size ≤ lim ∧ Zm RS lim bO ∧ Zm YQ lim bP ∧ ((ZE aI + ZE aP + ZE aK + ZE bO + ZE bP : Nat) : Int) ≤ 64 * (a1 - r) ∧ True) := by
 unfold Y5.t Y5.g
 have hm := Za
 have hlim : lim = 1048576 := rfl
 refine Yah.tm (fun i hi => hi) (Yah.T (by first | assumption | omega) (by first | assumption | omega) (by first | assumption | omega) (by first | assumption | omega) (by first | assumption | omega) (by first | assumption | omega) (by first | assumption | omega) (by first | assumption | omega) (by first | assumption | omega) (by first | assumption | omega)) (fun y2 hy1 => ?_)
 rcases hy1 with hy1 | ⟨p12, p13, q3, q4, q5, q6, q7, q8, q9, q10, q11, _⟩
 ·exact Tm.ite (fun _ => Tm.ret (by left; omega)) (fun h => by simp at h; omega)
 refine Tm.ite (fun h14 => ?_) (fun h14 => ?_)
 ·try simp only [bz0, bz1, bz2, bz3, bz4, bz5, bz6, bz7, bz8, bz9, bza] at h14
  exact Tm.ret (by first | (left; omega) | (right; refine ⟨?_, ?_, ?_, ?_, ?_, ?_, ?_, ?_, ?_, ?_, ?_, trivial⟩ <;> first | assumption | omega))
 ·try simp only [bz0, bz1, bz2, bz3, bz4, bz5, bz6, bz7, bz8, bz9, bza] at h14
  exact Tm.ret (by first | (left; omega) | (right; refine ⟨?_, ?_, ?_, ?_, ?_, ?_, ?_, ?_, ?_, ?_, ?_, trivial⟩ <;> first | assumption | omega))
theorem Yw.f_of {β : Type} {k : Nat} {a0 : LD} {a1 z0 : Int} (h : Yw.t k a0 a1 = some z0) (K : Int → Option β) : Yw.f k a0 a1 K = K z0 := by
 unfold Yw.f
 rw [h]
theorem Yw.tm {ι α : Type} {ok : ι → Prop} {ψ : α → Prop} {p : ι → Nat} {B : Nat} (hp : ∀ i, ok i → B ≤ p i) {a0 : LD} {a1 : Int} {φ : Int → Prop} (h : Tm (fun k => B ≤ k) (fun k => Yw.t k a0 a1) φ) {G : ι → Int → Option α} (hG : ∀ z0, φ z0 → Tm ok (fun ι0 => G ι0 z0) ψ) : Tm ok (fun ι0 => Yw.f (p ι0) a0 a1 (G ι0)) ψ := by
 obtain ⟨z0, h1, h2⟩ := h
 exact (hG z0 h1).congr fun i0 hi0 => Yw.f_of (h2 (p i0) (hp i0 hi0)) _
def Yc (B : Nat) (r : List D) : Prop := ∃ (c0 : Int) (c1 : Bool) (c2 : Int) (c3 : BA) (c4 : Int) (c5 : Int) (c6 : Int) (c7 : Bool) (c8 : LD) (c9 : Int) (c10 : BA) (c11 : Int) (c12 : LD) (c13 : LD) (c14 : Int) (c15 : BA) (c16 : Int) (c17 : LD) (c18 : LD), r = [.int .i64 c0, .bool c1, .int .i64 c2, .str c3, .int .i64 c4, .int .i64 c5, .int .i64 c6, .bool c7, .sl c8, .int .i64 c9, .str c10, .int .i64 c11, .sl c12, .sl c13, .int .i64 c14, .str c15, .int .i64 c16, .sl c17, .sl c18] ∧ (Lit.int .i64 c0).wf = true ∧ (Lit.int .i64 c2).wf = true ∧ c3.size ≤ B ∧ (Lit.int .i64 c4).wf = true ∧ (Lit.int .i64 c5).wf = true ∧ (Lit.int .i64 c6).wf = true ∧ Zm RS B c8 ∧ (Lit.int .i64 c9).wf = true ∧ c10.size ≤ B ∧ (Lit.int .i64 c11).wf = true ∧ Zm RS B c12 ∧ Zm YQ B c13 ∧ (Lit.int .i64 c14).wf = true ∧ c15.size ≤ B ∧ (Lit.int .i64 c16).wf = true ∧ Zm RS B c17 ∧ Zm YQ B c18 ∧ True
theorem Yc.open {B : Nat} {r : List D} (h : Yc B r) : ∃ (c0 : Int) (c1 : Bool) (c2 : Int) (c3 : BA) (c4 : Int) (c5 : Int) (c6 : Int) (c7 : Bool) (c8 : LD) (c9 : Int) (c10 : BA) (c11 : Int) (c12 : LD) (c13 : LD) (c14 : Int) (c15 : BA) (c16 : Int) (c17 : LD) (c18 : LD), r = [.int .i64 c0, .bool c1, .int .i64 c2, .str c3, .int .i64 c4, .int .i64 c5, .int .i64 c6, .bool c7, .sl c8, .int .i64 c9, .str c10, .int .i64 c11, .sl c12, .sl c13, .int .i64 c14, .str c15, .int .i64 c16, .sl c17, .sl c18] ∧ (Lit.int .i64 c0).wf = true ∧ (Lit.int .i64 c2).wf = true ∧ c3.size ≤ B ∧ (Lit.int .i64 c4).wf = true ∧ (Lit.int .i64 c5).wf = true ∧ (Lit.int .i64 c6).wf = true ∧ Zm RS B c8 ∧ (Lit.int .i64 c9).wf = true ∧ c10.size ≤ B ∧ (Lit.int .i64 c11).wf = true ∧ Zm RS B c12 ∧ Zm YQ B c13 ∧ (Lit.int .i64 c14).wf = true ∧ c15.size ≤ B ∧ (Lit.int .i64 c16).wf = true ∧ Zm RS B c17 ∧ Zm YQ B c18 ∧ True := h
theorem Yc.mono {B B' : Nat} (hb : B ≤ B') {r : List D} (h : Yc B r) : Yc B' r := by
 obtain ⟨c0, c1, c2, c3, c4, c5, c6, c7, c8, c9, c10, c11, c12, c13, c14, c15, c16, c17, c18, rfl, k0, k2, k3, k4, k5, k6, k8, k9, k10, k11, k12, k13, k14, k15, k16, k17, k18, _⟩ := h
 exact ⟨_, _, _, _, _, _, _, _, _, _, _, _, _, _, _, _, _, _, _, rfl, k0, k2, (Nat.le_trans k3 hb), k4, k5, k6, ⟨Nat.le_trans k8.1 hb, fun r hr => (k8.2 r hr).mono hb⟩, k9, (Nat.le_trans k10 hb), k11, ⟨Nat.le_trans k12.1 hb, fun r hr => (k12.2 r hr).mono hb⟩, ⟨Nat.le_trans k13.1 hb, fun r hr => (k13.2 r hr).mono hb⟩, k14, (Nat.le_trans k15 hb), k16, ⟨Nat.le_trans k17.1 hb, fun r hr => (k17.2 r hr).mono hb⟩, ⟨Nat.le_trans k18.1 hb, fun r hr => (k18.2 r hr).mono hb⟩, trivial⟩
theorem Yc.wide {xs : LD} (h : Zm Yc lim xs) : Zm Yc 2097152 xs := ⟨Nat.le_trans h.1 (by decide), fun r hr => (h.2 r hr).mono (by decide)⟩
theorem Yc.len {B : Nat} {r : List D} (h : Yc B r) : r.length = 19 := by
 obtain ⟨c0, c1, c2, c3, c4, c5, c6, c7, c8, c9, c10, c11, c12, c13, c14, c15, c16, c17, c18, rfl, _⟩ := h.open
 rfl
theorem Yc.gets {B : Nat} {xs : LD} (h : ∀ r ∈ xs, Yc B r) {v : Int} (h0 : 0 ≤ v) (h1 : v < xs.length) : gR xs v = [.int .i64 (gI xs v 0), .bool (gB xs v 1), .int .i64 (gI xs v 2), .str (gS xs v 3), .int .i64 (gI xs v 4), .int .i64 (gI xs v 5), .int .i64 (gI xs v 6), .bool (gB xs v 7), .sl (gL xs v 8), .int .i64 (gI xs v 9), .str (gS xs v 10), .int .i64 (gI xs v 11), .sl (gL xs v 12), .sl (gL xs v 13), .int .i64 (gI xs v 14), .str (gS xs v 15), .int .i64 (gI xs v 16), .sl (gL xs v 17), .sl (gL xs v 18)] ∧ (Lit.int .i64 (gI xs v 0)).wf = true ∧ (Lit.int .i64 (gI xs v 2)).wf = true ∧ (gS xs v 3).size ≤ B ∧ (Lit.int .i64 (gI xs v 4)).wf = true ∧ (Lit.int .i64 (gI xs v 5)).wf = true ∧ (Lit.int .i64 (gI xs v 6)).wf = true ∧ Zm RS B (gL xs v 8) ∧ (Lit.int .i64 (gI xs v 9)).wf = true ∧ (gS xs v 10).size ≤ B ∧ (Lit.int .i64 (gI xs v 11)).wf = true ∧ Zm RS B (gL xs v 12) ∧ Zm YQ B (gL xs v 13) ∧ (Lit.int .i64 (gI xs v 14)).wf = true ∧ (gS xs v 15).size ≤ B ∧ (Lit.int .i64 (gI xs v 16)).wf = true ∧ Zm RS B (gL xs v 17) ∧ Zm YQ B (gL xs v 18) ∧ True := by
 obtain ⟨c0, c1, c2, c3, c4, c5, c6, c7, c8, c9, c10, c11, c12, c13, c14, c15, c16, c17, c18, e, k0, k2, k3, k4, k5, k6, k8, k9, k10, k11, k12, k13, k14, k15, k16, k17, k18, _⟩ := (h (gR xs v) (gR_mem h0 h1)).open
 unfold gB gI gL gS
 rw [e]
 exact ⟨rfl, k0, k2, k3, k4, k5, k6, k8, k9, k10, k11, k12, k13, k14, k15, k16, k17, k18, trivial⟩
theorem Yc.rows {B : Nat} {xs : LD} (h : ∀ r ∈ xs, Yc B r) {v : Int} (h0 : 0 ≤ v) (h1 : v < xs.length) {β : Type} (F : List D → Option β) : ZX xs v F = F [.int .i64 (gI xs v 0), .bool (gB xs v 1), .int .i64 (gI xs v 2), .str (gS xs v 3), .int .i64 (gI xs v 4), .int .i64 (gI xs v 5), .int .i64 (gI xs v 6), .bool (gB xs v 7), .sl (gL xs v 8), .int .i64 (gI xs v 9), .str (gS xs v 10), .int .i64 (gI xs v 11), .sl (gL xs v 12), .sl (gL xs v 13), .int .i64 (gI xs v 14), .str (gS xs v 15), .int .i64 (gI xs v 16), .sl (gL xs v 17), .sl (gL xs v 18)] := by
 rw [← (Yc.gets h h0 h1).1]
 exact ZbB h0 h1 F
theorem Yc.get {B : Nat} {xs : LD} (h : Zm Yc B xs) {v : Int} (h0 : 0 ≤ v) (h1 : v < xs.length) : gR xs v = [.int .i64 (gI xs v 0), .bool (gB xs v 1), .int .i64 (gI xs v 2), .str (gS xs v 3), .int .i64 (gI xs v 4), .int .i64 (gI xs v 5), .int .i64 (gI xs v 6), .bool (gB xs v 7), .sl (gL xs v 8), .int .i64 (gI xs v 9), .str (gS xs v 10), .int .i64 (gI xs v 11), .sl (gL xs v 12), .sl (gL xs v 13), .int .i64 (gI xs v 14), .str (gS xs v 15), .int .i64 (gI xs v 16), .sl (gL xs v 17), .sl (gL xs v 18)] ∧ (Lit.int .i64 (gI xs v 0)).wf = true ∧ (Lit.int .i64 (gI xs v 2)).wf = true ∧ (gS xs v 3).size ≤ B ∧ (Lit.int .i64 (gI xs v 4)).wf = true ∧ (Lit.int .i64 (gI xs v 5)).wf = true ∧ (Lit.int .i64 (gI xs v 6)).wf = true ∧ Zm RS B (gL xs v 8) ∧ (Lit.int .i64 (gI xs v 9)).wf = true ∧ (gS xs v 10).size ≤ B ∧ (Lit.int .i64 (gI xs v 11)).wf = true ∧ Zm RS B (gL xs v 12) ∧ Zm YQ B (gL xs v 13) ∧ (Lit.int .i64 (gI xs v 14)).wf = true ∧ (gS xs v 15).size ≤ B ∧ (Lit.int .i64 (gI xs v 16)).wf = true ∧ Zm RS B (gL xs v 17) ∧ Zm YQ B (gL xs v 18) ∧ True := Yc.gets h.2 h0 h1
theorem Yc.row {B : Nat} {xs : LD} (h : Zm Yc B xs) {v : Int} (h0 : 0 ≤ v) (h1 : v < xs.length) {β : Type} (F : List D → Option β) : ZX xs v F = F [.int .i64 (gI xs v 0), .bool (gB xs v 1), .int .i64 (gI xs v 2), .str (gS xs v 3), .int .i64 (gI xs v 4), .int .i64 (gI xs v 5), .int .i64 (gI xs v 6), .bool (gB xs v 7), .sl (gL xs v 8), .int .i64 (gI xs v 9), .str (gS xs v 10), .int .i64 (gI xs v 11), .sl (gL xs v 12), .sl (gL xs v 13), .int .i64 (gI xs v 14), .str (gS xs v 15), .int .i64 (gI xs v 16), .sl (gL xs v 17), .sl (gL xs v 18)] := Yc.rows h.2 h0 h1 F
theorem Yw.T {a0 : LD} {a1 : Int} (h0 : 0 ≤ a1) (h1 : a1 ≤ 1048576) (ga0 : Zm Yc maxLen a0) : Tm (Zay 1) (fun k => Yw.t k a0 a1) (fun r => r < 0 ∨ 0 ≤ r ∧ r ≤ a1 ∧ Zm Yc lim a0 ∧ ((ZE a0 : Nat) : Int) ≤ 64 * (a1 - r) ∧ True) := by
 unfold Yw.t Yw.g
 have hm := Za
 have hlim : lim = 1048576 := rfl
 have hlen := ga0.1
 try rw [ZC (x := a1 - (a0.length : Int)) (by omega) (by omega)]
 refine Tm.ite (fun h1 => ?_) (fun h1 => ?_)
 ·try simp only [bz0, bz1, bz2, bz3, bz4, bz5, bz6, bz7, bz8, bz9, bza] at h1
  exact Tm.ret (by first | (left; omega) | (right; refine ⟨?_, ?_, ?_, ?_, trivial⟩ <;> first | assumption | omega))
 ·try simp only [bz0, bz1, bz2, bz3, bz4, bz5, bz6, bz7, bz8, bz9, bza] at h1
  refine Tm.loop (okk := (Zay 1)) (p := fun k => k) (fun i hi => up0 hi) (b := fun k => Yw.l0 k a0 (fun z0 => some z0)) (fun v => match v with | (u0, i) => (((a0.length : Int)) - i).toNat) (fun v => match v with | (u0, i) => 0 ≤ u0 ∧ u0 ≤ a1 ∧ 0 ≤ i ∧ i ≤ (a0.length : Int) ∧ (∀ r ∈ a0.take i.toNat, Yc lim r) ∧ ((ZE (a0.take i.toNat) : Nat) : Int) ≤ 64 * (a1 - a0.length - u0 + i)) ?_ ?_ ?_
  ·rintro ⟨u0, i⟩ hI
   try simp only [] at hI ⊢
   have : big = 2 ^ 64 := rfl
   have := ga0.1
   omega
  ·exact ⟨by omega, by omega, by omega, by simp, by simp, by simp [ZE]⟩
  ·rintro ⟨u0, i⟩ hI L hL
   try simp only [] at hI
   obtain ⟨u0a, u0b, i0, i1, hr, hwt⟩ := hI
   simp only [Yw.l0]
   refine Tm.ite (fun h2 => ?_) (fun h2 => ?_)
   ·try simp only [bz0, bz1, bz2, bz3, bz4, bz5, bz6, bz7, bz8, bz9, bza] at h2
    refine Tm.atRow (by first | assumption | omega) (by first | assumption | omega) (fun x3 hx4 hm5 => ?_)
    obtain ⟨c6, c7, c8, c9, c10, c11, c12, c13, c14, c15, c16, c17, c18, c19, c20, c21, c22, c23, c24, rfl, g25, g26, g27, g28, g29, g30, g31, g32, g33, g34, g35, g36, g37, g38, g39, g40, g41, _⟩ := (ga0.2 x3 hm5).open
    refine Tm.uncons ?_
    refine Tm.dInt ?_
    refine Tm.uncons ?_
    refine Tm.dBool ?_
    refine Tm.uncons ?_
    refine Tm.dInt ?_
    refine Tm.uncons ?_
    refine Tm.dStr ?_
    refine Tm.uncons ?_
    refine Tm.dInt ?_
    refine Tm.uncons ?_
    refine Tm.dInt ?_
    refine Tm.uncons ?_
    refine Tm.dInt ?_
    refine Tm.uncons ?_
    refine Tm.dBool ?_
    refine Tm.uncons ?_
    refine Tm.dSl ?_
    refine Tm.uncons ?_
    refine Tm.dInt ?_
    refine Tm.uncons ?_
    refine Tm.dStr ?_
    refine Tm.uncons ?_
    refine Tm.dInt ?_
    refine Tm.uncons ?_
    refine Tm.dSl ?_
    refine Tm.uncons ?_
    refine Tm.dSl ?_
    refine Tm.uncons ?_
    refine Tm.dInt ?_
    refine Tm.uncons ?_
    refine Tm.dStr ?_
    refine Tm.uncons ?_
    refine Tm.dInt ?_
    refine Tm.uncons ?_
    refine Tm.dSl ?_
    refine Tm.uncons ?_
    refine Tm.dSl ?_
    refine Tm.atEnd ?_
    refine Y5.tm (fun i hi => hi.1) (Y5.T (by first | assumption | omega) (by first | assumption | omega) (by first | assumption | omega) (by first | assumption | omega) (by first | assumption | omega) (by first | assumption | omega) (by first | assumption | omega) (by first | assumption | omega) (by first | assumption | omega) (by first | assumption | omega)) (fun y43 hy42 => ?_)
    rcases hy42 with hy42 | ⟨p53, p54, q44, q45, q46, q47, q48, q49, q50, q51, q52, _⟩
    ·exact Tm.ite (fun _ => Tm.ret (by left; omega)) (fun h => by simp at h; omega)
    refine Tm.ite (fun h55 => ?_) (fun h55 => ?_)
    ·try simp only [bz0, bz1, bz2, bz3, bz4, bz5, bz6, bz7, bz8, bz9, bza] at h55
     exact Tm.ret (by first | (left; omega) | (rw [List.take_of_length_le (by omega)] at hwt; exact .inr ⟨by omega, by omega, ⟨by simp only [lim]; omega, Zau (by omega) hr⟩, by omega, trivial⟩))
    ·try simp only [bz0, bz1, bz2, bz3, bz4, bz5, bz6, bz7, bz8, bz9, bza] at h55
     try rw [ZC (x := i + 1) (by omega) (by omega)]
     have hwx := Zb4 i0 hx4
     simp only [Zbi, wtD] at hwx
     refine hL (y43, (i + 1)) ⟨by omega, by omega, by omega, by omega, Zbd i0 hx4 hr ⟨_, _, _, _, _, _, _, _, _, _, _, _, _, _, _, _, _, _, _, rfl, by first | assumption | omega, by first | assumption | omega, by first | assumption | omega, by first | assumption | omega, by first | assumption | omega, by first | assumption | omega, by first | assumption | omega, by first | assumption | omega, by first | assumption | omega, by first | assumption | omega, by first | assumption | omega, by first | assumption | omega, by first | assumption | omega, by first | assumption | omega, by first | assumption | omega, by first | assumption | omega, by first | assumption | omega, trivial⟩, by omega⟩ (by (try simp only []); omega)
   ·try simp only [bz0, bz1, bz2, bz3, bz4, bz5, bz6, bz7, bz8, bz9, bza] at h2
    exact Tm.ret (by first | (left; omega) | (rw [List.take_of_length_le (by omega)] at hwt; exact .inr ⟨by omega, by omega, ⟨by simp only [lim]; omega, Zau (by omega) hr⟩, by omega, trivial⟩))
theorem Yac.f_of {β : Type} {k : Nat} {aB : LD} {aA aE : Int} {aD : LD} {a1 z0 : Int} (h : Yac.t k aB aA aE aD a1 = some z0) (K : Int → Option β) : Yac.f k aB aA aE aD a1 K = K z0 := by
 unfold Yac.f
 rw [h]
theorem Yac.tm {ι α : Type} {ok : ι → Prop} {ψ : α → Prop} {p : ι → Nat} {B : Nat} (hp : ∀ i, ok i → B ≤ p i) {aB : LD} {aA aE : Int} {aD : LD} {a1 : Int} {φ : Int → Prop} (h : Tm (fun k => B ≤ k) (fun k => Yac.t k aB aA aE aD a1) φ) {G : ι → Int → Option α} (hG : ∀ z0, φ z0 → Tm ok (fun ι0 => G ι0 z0) ψ) : Tm ok (fun ι0 => Yac.f (p ι0) aB aA aE aD a1 (G ι0)) ψ := by
 obtain ⟨z0, h1, h2⟩ := h
 exact (hG z0 h1).congr fun i0 hi0 => Yac.f_of (h2 (p i0) (hp i0 hi0)) _
theorem Yac.T {aB : LD} {aA aE : Int} {aD : LD} {a1 : Int} (h0 : 0 ≤ a1) (h1 : a1 ≤ 1048576) (ga0_0 : Zm Yb maxLen aB) (ga0_3 : Zm Yc maxLen aD) : Tm (Zay 1) (fun k => Yac.t k aB aA aE aD a1) (fun r => r < 0 ∨ 0 ≤ r ∧ r ≤ a1 ∧ Zm Yb lim aB ∧ Zm Yc lim aD ∧ ((ZE aB + ZE aD : Nat) : Int) ≤ 64 * (a1 - r) ∧ True) := by
 unfold Yac.t Yac.g
 have hm := Za
 have hlim : lim = 1048576 := rfl
 refine YN.tm (fun i hi => hi) (YN.T (by first | assumption | omega) (by first | assumption | omega) (by first | assumption | omega)) (fun y2 hy1 => ?_)
 rcases hy1 with hy1 | ⟨p5, p6, q3, q4, _⟩
 ·exact Tm.ite (fun _ => Tm.ret (by left; omega)) (fun h => by simp at h; omega)
 refine Tm.ite (fun h7 => ?_) (fun h7 => ?_)
 ·try simp only [bz0, bz1, bz2, bz3, bz4, bz5, bz6, bz7, bz8, bz9, bza] at h7
  exact Tm.ret (by first | (left; omega) | (right; refine ⟨?_, ?_, ?_, ?_, ?_, trivial⟩ <;> first | assumption | omega))
 ·try simp only [bz0, bz1, bz2, bz3, bz4, bz5, bz6, bz7, bz8, bz9, bza] at h7
  refine Yw.tm (fun i hi => hi) (Yw.T (by first | assumption | omega) (by first | assumption | omega) (by first | assumption | omega)) (fun y9 hy8 => ?_)
  rcases hy8 with hy8 | ⟨p12, p13, q10, q11, _⟩
  ·exact Tm.ite (fun _ => Tm.ret (by left; omega)) (fun h => by simp at h; omega)
  refine Tm.ite (fun h14 => ?_) (fun h14 => ?_)
  ·try simp only [bz0, bz1, bz2, bz3, bz4, bz5, bz6, bz7, bz8, bz9, bza] at h14
   exact Tm.ret (by first | (left; omega) | (right; refine ⟨?_, ?_, ?_, ?_, ?_, trivial⟩ <;> first | assumption | omega))
  ·try simp only [bz0, bz1, bz2, bz3, bz4, bz5, bz6, bz7, bz8, bz9, bza] at h14
   exact Tm.ret (by first | (left; omega) | (right; refine ⟨?_, ?_, ?_, ?_, ?_, trivial⟩ <;> first | assumption | omega))
theorem Yt.f_of {β : Type} {k : Nat} {a0 : LD} {z0 : LC} (h : Yt.t k a0 = some z0) (K : LC → Option β) : Yt.f k a0 K = K z0 := by
 unfold Yt.f
 rw [h]
theorem Yt.tm {ι α : Type} {ok : ι → Prop} {ψ : α → Prop} {p : ι → Nat} {B : Nat} (hp : ∀ i, ok i → B ≤ p i) {a0 : LD} {φ : LC → Prop} (h : Tm (fun k => B ≤ k) (fun k => Yt.t k a0) φ) {G : ι → LC → Option α} (hG : ∀ z0, φ z0 → Tm ok (fun ι0 => G ι0 z0) ψ) : Tm ok (fun ι0 => Yt.f (p ι0) a0 (G ι0)) ψ := by
 obtain ⟨z0, h1, h2⟩ := h
 exact (hG z0 h1).congr fun i0 hi0 => Yt.f_of (h2 (p i0) (hp i0 hi0)) _
theorem Yt.T {a0 : LD} (ga0 : Zm RS lim a0) : Tm Zar (fun k => Yt.t k a0) (fun z => z = Zs a0 ∧ True) := by
 unfold Yt.t Yt.g
 have hm := Za
 have hlim : lim = 1048576 := rfl
 have hlen := ga0.1
 refine Tm.guard (by first | omega | (simp only [lim, Za, Z6] at *; omega) | (simp only [lim, Z6] at *; refine ⟨?_, ?_, ?_, ?_⟩ <;> omega)) ?_
 refine Tm.loop (okk := Zar) (p := fun k => k) (fun i hi => hi) (b := fun k => Yt.l0 k a0 (fun z0 => some z0)) (fun v => match v with | (i, u1) => (((a0.length : Int)) - i).toNat) (fun v => match v with | (i, u1) => 0 ≤ i ∧ i ≤ (a0.length : Int) ∧ Zaw a0 ([.d (.str (⟨#[]⟩ : BA))] : List C) i u1) ?_ ?_ ?_
 ·rintro ⟨i, u1⟩ hI
  try simp only [] at hI ⊢
  have : big = 2 ^ 64 := rfl
  have := ga0.1
  simp only [lim] at this
  omega
 ·exact ⟨by omega, by simp, Zaw.start _ _⟩
 ·rintro ⟨i, u1⟩ hI L hL
  try simp only [] at hI
  obtain ⟨i0, i1, hF⟩ := hI
  have hFl := hF.len i1
  simp only [Yt.l0]
  refine Tm.ite (fun h1 => ?_) (fun h1 => ?_)
  ·try simp only [bz0, bz1, bz2, bz3, bz4, bz5, bz6, bz7, bz8, bz9, bza] at h1
   refine Tm.atRow (by first | assumption | omega) (by first | assumption | omega) (fun x2 hx3 hm4 => ?_)
   obtain ⟨c5, rfl, g6, _⟩ := (ga0.2 x2 hm4).open
   refine Tm.uncons ?_
   refine Tm.dStr ?_
   refine Tm.atEnd ?_
   refine Tm.guard (by first | omega | (simp only [lim, Za, Z6] at *; omega) | (simp only [lim, Z6] at *; refine ⟨?_, ?_, ?_, ?_⟩ <;> omega)) ?_
   refine Tm.guard (by first | omega | (simp only [lim, Za, Z6] at *; omega) | (simp only [lim, Z6] at *; refine ⟨?_, ?_, ?_, ?_⟩ <;> omega)) ?_
   try rw [ZC (x := i + 1) (by omega) (by omega)]
   refine hL (_, _) ⟨by omega, by omega, hF.next i0 hx3 rfl (by simp [Zal, deepD])⟩ (by (try simp only []); omega)
  ·try simp only [bz0, bz1, bz2, bz3, bz4, bz5, bz6, bz7, bz8, bz9, bza] at h1
   exact Tm.ret (by exact ⟨hF.all (by omega), trivial⟩)
theorem Yo.f_of {β : Type} {k : Nat} {a0 : LD} {z0 : LC} (h : Yo.t k a0 = some z0) (K : LC → Option β) : Yo.f k a0 K = K z0 := by
 unfold Yo.f
 unfold Yo.w
 rw [h]
theorem Yo.tm {ι α : Type} {ok : ι → Prop} {ψ : α → Prop} {p : ι → Nat} {B : Nat} (hp : ∀ i, ok i → B ≤ p i) {a0 : LD} {φ : LC → Prop} (h : Tm (fun k => B ≤ k) (fun k => Yo.t k a0) φ) {G : ι → LC → Option α} (hG : ∀ z0, φ z0 → Tm ok (fun ι0 => G ι0 z0) ψ) : Tm ok (fun ι0 => Yo.f (p ι0) a0 (G ι0)) ψ := by
 obtain ⟨z0, h1, h2⟩ := h
 exact (hG z0 h1).congr fun i0 hi0 => Yo.f_of (h2 (p i0) (hp i0 hi0)) _
theorem YH.f_of {β : Type} {k : Nat} {aB : Int} {aA : BA} {aE : Int} {aD aG : LD} {z0 : Int} {z1 : BA} {z2 : Int} {z3 z4 : LC} (h : YH.t k aB aA aE aD aG = some (z0, z1, z2, z3, z4)) (K : Int → BA → Int → LC → LC → Option β) : YH.f k aB aA aE aD aG K = K z0 z1 z2 z3 z4 := by
 unfold YH.f
 unfold YH.w
 rw [h]
theorem YH.tm {ι α : Type} {ok : ι → Prop} {ψ : α → Prop} {p : ι → Nat} {B : Nat} (hp : ∀ i, ok i → B ≤ p i) {aB : Int} {aA : BA} {aE : Int} {aD aG : LD} {φ : Int × BA × Int × LC × LC → Prop} (h : Tm (fun k => B ≤ k) (fun k => YH.t k aB aA aE aD aG) φ) {G : ι → Int → BA → Int → LC → LC → Option α} (hG : ∀ z0 z1 z2 z3 z4, φ (z0, z1, z2, z3, z4) → Tm ok (fun ι0 => G ι0 z0 z1 z2 z3 z4) ψ) : Tm ok (fun ι0 => YH.f (p ι0) aB aA aE aD aG (G ι0)) ψ := by
 obtain ⟨⟨z0, z1, z2, z3, z4⟩, h1, h2⟩ := h
 exact (hG z0 z1 z2 z3 z4 h1).congr fun i0 hi0 => YH.f_of (h2 (p i0) (hp i0 hi0)) _
theorem toVal (n : Nat) : (∀ (a : LD), a.length ≤ lim → (∀ x ∈ a, Yap lim n x) → Tm (fun k => big + 2 * n + 1 ≤ k) (fun k => Yo.t k a) (fun z => z = Zs a)) ∧
  (∀ (c0 : Int) (c1 : BA) (c2 : Int) (c3 c4 : LD), c1.size ≤ lim → Zm RS lim c3 → c4.length ≤ lim → (∀ x ∈ c4, Yap lim n x) → Tm (fun k => big + 2 * n + 2 ≤ k) (fun k => YH.t k c0 c1 c2 c3 c4) (fun z => z.1 = c0 ∧ z.2.1 = c1 ∧ z.2.2.1 = c2 ∧ z.2.2.2.1 = Zs c3 ∧ z.2.2.2.2 = Zs c4)) := by
 have hm : Z6 = 2 ^ 36 := rfl
 have hlim : lim = 1048576 := rfl
 have hb : big = 2 ^ 64 := rfl
 induction n using Nat.strongRecOn with
 | ind n ih =>
 have S : ∀ (a : LD), a.length ≤ lim → (∀ x ∈ a, Yap lim n x) → Tm (fun k => big + 2 * n + 1 ≤ k) (fun k => Yo.t k a) (fun z => z = Zs a) := by
  intro a hlen g
  refine Tm.succ (g := fun k => Yo.g k a (fun z0 => some z0)) (fun k => Yo.t_succ k a) ?_
  unfold Yo.g Yo.body
  refine Tm.guard ⟨by omega, by omega, by omega, by omega⟩ ?_
  refine Tm.loop (okk := fun k => big + 2 * n ≤ k) (p := fun k => k) (fun i hi => by omega) (b := fun k => Yo.l0 k (Yo.f k) (YH.f k) a (fun z0 => some z0)) (fun v => match v with | (i, u1) => (((a.length : Int)) - i).toNat) (fun v => match v with | (i, u1) => 0 ≤ i ∧ i ≤ (a.length : Int) ∧ Zaw a ([.d (.int .i64 0), .d (.str (⟨#[]⟩ : BA)), .d (.int .i64 0), .own ([] : LC), .own ([] : LC)] : List C) i u1) ?_ ?_ ?_
  ·rintro ⟨i, u1⟩ hI
   simp only [] at hI ⊢
   omega
  ·exact ⟨by omega, by simp, Zaw.start _ _⟩
  ·rintro ⟨i, u1⟩ hI L hL
   simp only [] at hI
   obtain ⟨i0, i1, hF⟩ := hI
   have hFl := hF.len i1
   simp only [Yo.l0]
   refine Tm.ite (fun h4 => ?_) (fun h4 => ?_)
   ·simp only [decide_eq_true_eq] at h4
    refine Tm.atRow (by omega) (by omega) (fun x5 hx6 hm7 => ?_)
    obtain ⟨n', hn', c0, c1, c2, c3, c4, rfl, w0, g1, w2, g3, l4, g4⟩ : ∃ n', n = n' + 1 ∧ ∃ c0 c1 c2 c3 c4, x5 = [.int .i64 c0, .str c1, .int .i64 c2, .sl c3, .sl c4] ∧ (Lit.int .i64 c0).wf = true ∧ c1.size ≤ lim ∧ (Lit.int .i64 c2).wf = true ∧ Zm RS lim c3 ∧ c4.length ≤ lim ∧ ∀ x ∈ c4, Yap lim n' x := by
     have := g x5 hm7
     cases this with
     | mk c0 c1 c2 c3 c4 w0 g1 w2 g3 l4 g4 => exact ⟨_, rfl, _, _, _, _, _, rfl, w0, g1, w2, g3, l4, g4⟩
    refine Tm.uncons (Tm.dInt (Tm.uncons (Tm.dStr (Tm.uncons (Tm.dInt (Tm.uncons (Tm.dSl (Tm.uncons (Tm.dSl (Tm.atEnd ?_))))))))))
    refine YH.tm (B := big + 2 * n' + 2) (fun i hi => by have := hi.1; omega) ((ih n' (by omega)).2 c0 c1 c2 c3 c4 g1 g3 l4 g4) (fun y0 y1 y2 y3 y4 hy => ?_)
    simp only [] at hy
    obtain ⟨rfl, rfl, rfl, e3, e4⟩ := hy
    refine Tm.guard (by omega) (Tm.guard (by omega) ?_)
    rw [ZC (x := i + 1) (by omega) (by omega)]
    exact hL (_, _) ⟨by omega, by omega, hF.next i0 hx6 rfl (by simp [Zal, deepD, e3, e4])⟩ (by simp only []; omega)
   ·simp only [decide_eq_false_iff_not, Int.not_lt] at h4
    exact Tm.ret (hF.all (by omega))
 refine ⟨S, ?_⟩
 intro c0 c1 c2 c3 c4 g1 g3 l4 g4
 refine Tm.succ (g := fun k => YH.g k c0 c1 c2 c3 c4 (fun z0 z1 z2 z3 z4 => some (z0, z1, z2, z3, z4))) (fun k => YH.t_succ k c0 c1 c2 c3 c4) ?_
 unfold YH.g YH.body
 refine Yt.tm (B := big) (fun i hi => by omega) (Yt.T g3) (fun y hy => ?_)
 refine Yo.tm (B := big + 2 * n + 1) (fun i hi => hi) (S c4 l4 g4) (fun y' hy' => ?_)
 exact Tm.ret ⟨rfl, rfl, rfl, hy.1, hy'⟩
theorem YH.T {aB : Int} {aA : BA} {aE : Int} {aD aG : LD} (g1 : aA.size ≤ lim) (g3 : Zm RS lim aD) (g4 : Zm YQ lim aG) : Tm (Zay 1) (fun k => YH.t k aB aA aE aD aG) (fun z => z.1 = aB ∧ z.2.1 = aA ∧ z.2.2.1 = aE ∧ z.2.2.2.1 = Zs aD ∧ z.2.2.2.2 = Zs aG ∧ True) := by
 have hlim : lim = 1048576 := rfl
 have g' : ∀ x ∈ aG, Yap lim 1099511627776 x := fun x hx => by
  obtain ⟨h, hh, hx⟩ := g4.2 x hx
  exact hx.mono (hh (by decide))
 exact (((toVal 1099511627776).2 aB aA aE aD aG g1 g3 g4.1 g').up (big_lv1 (n := 2 * 1099511627776 + 2) (by omega))).mono fun r hr => ⟨hr.1, hr.2.1, hr.2.2.1, hr.2.2.2.1, hr.2.2.2.2, trivial⟩
theorem Yag.f_of {β : Type} {k : Nat} {aB : Int} {aA : BA} {aE aD aG : Int} {aT : Bool} {aM : LD} {aQ : Int} {aI : BA} {aR : Int} {aJ aN : LD} {aP : Int} {aK : BA} {aS : Int} {aL aO : LD} {z0 : Int} {z1 : BA} {z2 z3 z4 : Int} {z5 : Bool} {z6 : LC} {z7 : Int} {z8 : BA} {z9 : Int} {z10 z11 : LC} {z12 : Int} {z13 : BA} {z14 : Int} {z15 z16 : LC} (h : Yag.t k aB aA aE aD aG aT aM aQ aI aR aJ aN aP aK aS aL aO = some (z0, z1, z2, z3, z4, z5, z6, z7, z8, z9, z10, z11, z12, z13, z14, z15, z16)) (K : Int → BA → Int → Int → Int → Bool → LC → Int → BA → Int → LC → LC → Int → BA → Int → LC → LC → Option β) : Yag.f k aB aA aE aD aG aT aM aQ aI aR aJ aN aP aK aS aL aO K = K z0 z1 z2 z3 z4 z5 z6 z7 z8 z9 z10 z11 z12 z13 z14 z15 z16 := by
 unfold Yag.f
 rw [h]
theorem Yag.tm {ι α : Type} {ok : ι → Prop} {ψ : α → Prop} {p : ι → Nat} {B : Nat} (hp : ∀ i, ok i → B ≤ p i) {aB : Int} {aA : BA} {aE aD aG : Int} {aT : Bool} {aM : LD} {aQ : Int} {aI : BA} {aR : Int} {aJ aN : LD} {aP : Int} {aK : BA} {aS : Int} {aL aO : LD} {φ : Int × BA × Int × Int × Int × Bool × LC × Int × BA × Int × LC × LC × Int × BA × Int × LC × LC → Prop} (h : Tm (fun k => B ≤ k) (fun k => Yag.t k aB aA aE aD aG aT aM aQ aI aR aJ aN aP aK aS aL aO) φ) {G : ι → Int → BA → Int → Int → Int → Bool → LC → Int → BA → Int → LC → LC → Int → BA → Int → LC → LC → Option α} (hG : ∀ z0 z1 z2 z3 z4 z5 z6 z7 z8 z9 z10 z11 z12 z13 z14 z15 z16, φ (z0, z1, z2, z3, z4, z5, z6, z7, z8, z9, z10, z11, z12, z13, z14, z15, z16) → Tm ok (fun ι0 => G ι0 z0 z1 z2 z3 z4 z5 z6 z7 z8 z9 z10 z11 z12 z13 z14 z15 z16) ψ) : Tm ok (fun ι0 => Yag.f (p ι0) aB aA aE aD aG aT aM aQ aI aR aJ aN aP aK aS aL aO (G ι0)) ψ := by
 obtain ⟨⟨z0, z1, z2, z3, z4, z5, z6, z7, z8, z9, z10, z11, z12, z13, z14, z15, z16⟩, h1, h2⟩ := h
 exact (hG z0 z1 z2 z3 z4 z5 z6 z7 z8 z9 z10 z11 z12 z13 z14 z15 z16 h1).congr fun i0 hi0 => Yag.f_of (h2 (p i0) (hp i0 hi0)) _
theorem Yag.T {aB : Int} {aA : BA} {aE aD aG : Int} {aT : Bool} {aM : LD} {aQ : Int} {aI : BA} {aR : Int} {aJ aN : LD} {aP : Int} {aK : BA} {aS : Int} {aL aO : LD} (ga0_1 : aA.size ≤ lim) (ga0_6 : Zm RS lim aM) (ga0_8 : aI.size ≤ lim) (ga0_10 : Zm RS lim aJ) (ga0_11 : Zm YQ lim aN) (ga0_13 : aK.size ≤ lim) (ga0_15 : Zm RS lim aL) (ga0_16 : Zm YQ lim aO) : Tm (Zay 1) (fun k => Yag.t k aB aA aE aD aG aT aM aQ aI aR aJ aN aP aK aS aL aO) (fun z => z.1 = aB ∧ z.2.1 = aA ∧ z.2.2.1 = aE ∧ z.2.2.2.1 = aD ∧ z.2.2.2.2.1 = aG ∧ z.2.2.2.2.2.1 = aT ∧ z.2.2.2.2.2.2.1 = Zs aM ∧ z.2.2.2.2.2.2.2.1 = aQ ∧ z.2.2.2.2.2.2.2.2.1 = aI ∧ z.2.2.2.2.2.2.2.2.2.1 = aR ∧ z.2.2.2.2.2.2.2.2.2.2.1 = Zs aJ ∧ z.2.2.2.2.2.2.2.2.2.2.2.1 = Zs aN ∧ z.2.2.2.2.2.2.2.2.2.2.2.2.1 = aP ∧ z.2.2.2.2.2.2.2.2.2.2.2.2.2.1 = aK ∧ z.2.2.2.2.2.2.2.2.2.2.2.2.2.2.1 = aS ∧ z.2.2.2.2.2.2.2.2.2.2.2.2.2.2.2.1 = Zs aL ∧ z.2.2.2.2.2.2.2.2.2.2.2.2.2.2.2.2 = Zs aO ∧ True) := by
 unfold Yag.t Yag.g
 have hm := Za
 have hlim : lim = 1048576 := rfl
 refine Yt.tm (fun i hi => up0 hi) (Yt.T (by first | assumption | omega)) (fun y2 hy1 => ?_)
 try simp only [] at hy1
 obtain ⟨rfl, _⟩ := hy1
 try simp only [ZF]
 refine YH.tm (fun i hi => hi) (YH.T (by first | assumption | omega) (by first | assumption | omega) (by first | assumption | omega)) (fun y4 y5 y6 y7 y8 hy3 => ?_)
 try simp only [] at hy3
 obtain ⟨rfl, rfl, rfl, rfl, rfl, _⟩ := hy3
 try simp only [ZF]
 refine YH.tm (fun i hi => hi) (YH.T (by first | assumption | omega) (by first | assumption | omega) (by first | assumption | omega)) (fun y10 y11 y12 y13 y14 hy9 => ?_)
 try simp only [] at hy9
 obtain ⟨rfl, rfl, rfl, rfl, rfl, _⟩ := hy9
 try simp only [ZF]
 exact Tm.ret (by exact ⟨by first | rfl | assumption, by first | rfl | assumption, by first | rfl | assumption, by first | rfl | assumption, by first | rfl | assumption, by first | rfl | assumption, by first | rfl | assumption, by first | rfl | assumption, by first | rfl | assumption, by first | rfl | assumption, by first | rfl | assumption, by first | rfl | assumption, by first | rfl | assumption, by first | rfl | assumption, by first | rfl | assumption, by first | rfl | assumption, by first | rfl | assumption, trivial⟩)
theorem YP.f_of {β : Type} {k : Nat} {a0 : LD} {z0 : LC} (h : YP.t k a0 = some z0) (K : LC → Option β) : YP.f k a0 K = K z0 := by
 unfold YP.f
 rw [h]
theorem YP.tm {ι α : Type} {ok : ι → Prop} {ψ : α → Prop} {p : ι → Nat} {B : Nat} (hp : ∀ i, ok i → B ≤ p i) {a0 : LD} {φ : LC → Prop} (h : Tm (fun k => B ≤ k) (fun k => YP.t k a0) φ) {G : ι → LC → Option α} (hG : ∀ z0, φ z0 → Tm ok (fun ι0 => G ι0 z0) ψ) : Tm ok (fun ι0 => YP.f (p ι0) a0 (G ι0)) ψ := by
 obtain ⟨z0, h1, h2⟩ := h
 exact (hG z0 h1).congr fun i0 hi0 => YP.f_of (h2 (p i0) (hp i0 hi0)) _
theorem YP.T {a0 : LD} (ga0 : Zm Yb lim a0) : Tm (Zay 1) (fun k => YP.t k a0) (fun z => z = Zs a0 ∧ True) := by
 unfold YP.t YP.g
 have hm := Za
 have hlim : lim = 1048576 := rfl
 have hlen := ga0.1
 refine Tm.guard (by first | omega | (simp only [lim, Za, Z6] at *; omega) | (simp only [lim, Z6] at *; refine ⟨?_, ?_, ?_, ?_⟩ <;> omega)) ?_
 refine Tm.loop (okk := (Zay 1)) (p := fun k => k) (fun i hi => up0 hi) (b := fun k => YP.l0 k a0 (fun z0 => some z0)) (fun v => match v with | (i, u1) => (((a0.length : Int)) - i).toNat) (fun v => match v with | (i, u1) => 0 ≤ i ∧ i ≤ (a0.length : Int) ∧ Zaw a0 ([.d (.int .i64 0), .d (.str (⟨#[]⟩ : BA)), .d (.int .i64 0), .d (.int .i64 0), .d (.int .i64 0), .d (.bool false), .own ([] : LC), .d (.int .i64 0), .d (.str (⟨#[]⟩ : BA)), .d (.int .i64 0), .own ([] : LC), .own ([] : LC), .d (.int .i64 0), .d (.str (⟨#[]⟩ : BA)), .d (.int .i64 0), .own ([] : LC), .own ([] : LC)] : List C) i u1) ?_ ?_ ?_
 ·rintro ⟨i, u1⟩ hI
  try simp only [] at hI ⊢
  have : big = 2 ^ 64 := rfl
  have := ga0.1
  simp only [lim] at this
  omega
 ·exact ⟨by omega, by simp, Zaw.start _ _⟩
 ·rintro ⟨i, u1⟩ hI L hL
  try simp only [] at hI
  obtain ⟨i0, i1, hF⟩ := hI
  have hFl := hF.len i1
  simp only [YP.l0]
  refine Tm.ite (fun h1 => ?_) (fun h1 => ?_)
  ·try simp only [bz0, bz1, bz2, bz3, bz4, bz5, bz6, bz7, bz8, bz9, bza] at h1
   refine Tm.atRow (by first | assumption | omega) (by first | assumption | omega) (fun x2 hx3 hm4 => ?_)
   obtain ⟨c5, c6, c7, c8, c9, c10, c11, c12, c13, c14, c15, c16, c17, c18, c19, c20, c21, rfl, g22, g23, g24, g25, g26, g27, g28, g29, g30, g31, g32, g33, g34, g35, g36, g37, _⟩ := (ga0.2 x2 hm4).open
   refine Tm.uncons ?_
   refine Tm.dInt ?_
   refine Tm.uncons ?_
   refine Tm.dStr ?_
   refine Tm.uncons ?_
   refine Tm.dInt ?_
   refine Tm.uncons ?_
   refine Tm.dInt ?_
   refine Tm.uncons ?_
   refine Tm.dInt ?_
   refine Tm.uncons ?_
   refine Tm.dBool ?_
   refine Tm.uncons ?_
   refine Tm.dSl ?_
   refine Tm.uncons ?_
   refine Tm.dInt ?_
   refine Tm.uncons ?_
   refine Tm.dStr ?_
   refine Tm.uncons ?_
   refine Tm.dInt ?_
   refine Tm.uncons ?_
   refine Tm.dSl ?_
   refine Tm.uncons ?_
   refine Tm.dSl ?_
   refine Tm.uncons ?_
   refine Tm.dInt ?_
   refine Tm.uncons ?_
   refine Tm.dStr ?_
   refine Tm.uncons ?_
   refine Tm.dInt ?_
   refine Tm.uncons ?_
   refine Tm.dSl ?_
   refine Tm.uncons ?_
   refine Tm.dSl ?_
   refine Tm.atEnd ?_
   refine Yag.tm (fun i hi => hi.1) (Yag.T (by first | assumption | omega) (by first | assumption | omega) (by first | assumption | omega) (by first | assumption | omega) (by first | assumption | omega) (by first | assumption | omega) (by first | assumption | omega) (by first | assumption | omega)) (fun y39 y40 y41 y42 y43 y44 y45 y46 y47 y48 y49 y50 y51 y52 y53 y54 y55 hy38 => ?_)
   try simp only [] at hy38
   obtain ⟨rfl, rfl, rfl, rfl, rfl, rfl, rfl, rfl, rfl, rfl, rfl, rfl, rfl, rfl, rfl, rfl, rfl, _⟩ := hy38
   try simp only [ZF]
   refine Tm.guard (by first | omega | (simp only [lim, Za, Z6] at *; omega) | (simp only [lim, Z6] at *; refine ⟨?_, ?_, ?_, ?_⟩ <;> omega)) ?_
   refine Tm.guard (by first | omega | (simp only [lim, Za, Z6] at *; omega) | (simp only [lim, Z6] at *; refine ⟨?_, ?_, ?_, ?_⟩ <;> omega)) ?_
   try rw [ZC (x := i + 1) (by omega) (by omega)]
   refine hL (_, _) ⟨by omega, by omega, hF.next i0 hx3 rfl (by simp [Zal, deepD])⟩ (by (try simp only []); omega)
  ·try simp only [bz0, bz1, bz2, bz3, bz4, bz5, bz6, bz7, bz8, bz9, bza] at h1
   exact Tm.ret (by exact ⟨hF.all (by omega), trivial⟩)
theorem Y4.f_of {β : Type} {k : Nat} {aB : Int} {aA : Bool} {aE : Int} {aD : BA} {aG aT aM : Int} {aQ : Bool} {aI : LD} {aR : Int} {aJ : BA} {aN : Int} {aP aK : LD} {aS : Int} {aL : BA} {aO : Int} {bO bP : LD} {z0 : Int} {z1 : Bool} {z2 : Int} {z3 : BA} {z4 z5 z6 : Int} {z7 : Bool} {z8 : LC} {z9 : Int} {z10 : BA} {z11 : Int} {z12 z13 : LC} {z14 : Int} {z15 : BA} {z16 : Int} {z17 z18 : LC} (h : Y4.t k aB aA aE aD aG aT aM aQ aI aR aJ aN aP aK aS aL aO bO bP = some (z0, z1, z2, z3, z4, z5, z6, z7, z8, z9, z10, z11, z12, z13, z14, z15, z16, z17, z18)) (K : Int → Bool → Int → BA → Int → Int → Int → Bool → LC → Int → BA → Int → LC → LC → Int → BA → Int → LC → LC → Option β) : Y4.f k aB aA aE aD aG aT aM aQ aI aR aJ aN aP aK aS aL aO bO bP K = K z0 z1 z2 z3 z4 z5 z6 z7 z8 z9 z10 z11 z12 z13 z14 z15 z16 z17 z18 := by
 unfold Y4.f
 rw [h]
theorem Y4.tm {ι α : Type} {ok : ι → Prop} {ψ : α → Prop} {p : ι → Nat} {B : Nat} (hp : ∀ i, ok i → B ≤ p i) {aB : Int} {aA : Bool} {aE : Int} {aD : BA} {aG aT aM : Int} {aQ : Bool} {aI : LD} {aR : Int} {aJ : BA} {aN : Int} {aP aK : LD} {aS : Int} {aL : BA} {aO : Int} {bO bP : LD} {φ : Int × Bool × Int × BA × Int × Int × Int × Bool × LC × Int × BA × Int × LC × LC × Int × BA × Int × LC × LC → Prop} (h : Tm (fun k => B ≤ k) (fun k => Y4.t k aB aA aE aD aG aT aM aQ aI aR aJ aN aP aK aS aL aO bO bP) φ) {G : ι → Int → Bool → Int → BA → Int → Int → Int → Bool → LC → Int → BA → Int → LC → LC → Int → BA → Int → LC → LC → Option α} (hG : ∀ z0 z1 z2 z3 z4 z5 z6 z7 z8 z9 z10 z11 z12 z13 z14 z15 z16 z17 z18, φ (z0, z1, z2, z3, z4, z5, z6, z7, z8, z9, z10, z11, z12, z13, z14, z15, z16, z17, z18) → Tm ok (fun ι0 => G ι0 z0 z1 z2 z3 z4 z5 z6 z7 z8 z9 z10 z11 z12 z13 z14 z15 z16 z17 z18) ψ) : Tm ok (fun ι0 => Y4.f (p ι0) aB aA aE aD aG aT aM aQ aI aR aJ aN aP aK aS aL aO bO bP (G ι0)) ψ := by
 obtain ⟨⟨z0, z1, z2, z3, z4, z5, z6, z7, z8, z9, z10, z11, z12, z13, z14, z15, z16, z17, z18⟩, h1, h2⟩ := h
 exact (hG z0 z1 z2 z3 z4 z5 z6 z7 z8 z9 z10 z11 z12 z13 z14 z15 z16 z17 z18 h1).congr fun i0 hi0 => Y4.f_of (h2 (p i0) (hp i0 hi0)) _
theorem Y4.T {aB : Int} {aA : Bool} {aE : Int} {aD : BA} {aG aT aM : Int} {aQ : Bool} {aI : LD} {aR : Int} {aJ : BA} {aN : Int} {aP aK : LD} {aS : Int} {aL : BA} {aO : Int} {bO bP : LD} (ga0_3 : aD.size ≤ lim) (ga0_8 : Zm RS lim aI) (ga0_10 : aJ.size ≤ lim) (ga0_12 : Zm RS lim aP) (ga0_13 : Zm YQ lim aK) (ga0_15 : aL.size ≤ lim) (ga0_17 : Zm RS lim bO) (ga0_18 : Zm YQ lim bP) : Tm (Zay 1) (fun k => Y4.t k aB aA aE aD aG aT aM aQ aI aR aJ aN aP aK aS aL aO bO bP) (fun z => z.1 = aB ∧ z.2.1 = aA ∧ z.2.2.1 = aE ∧ z.2.2.2.1 = aD ∧ z.2.2.2.2.1 = aG ∧ z.2.2.2.2.2.1 = aT ∧ z.2.2.2.2.2.2.1 = aM ∧ z.2.2.2.2.2.2.2.1 = aQ ∧ z.2.2.2.2.2.2.2.2.1 = Zs aI ∧ z.2.2.2.2.2.2.2.2.2.1 = aR ∧ z.2.2.2.2.2.2.2.2.2.2.1 = aJ ∧ z.2.2.2.2.2.2.2.2.2.2.2.1 = aN ∧ z.2.2.2.2.2.2.2.2.2.2.2.2.1 = Zs aP ∧ z.2.2.2.2.2.2.2.2.2.2.2.2.2.1 = Zs aK ∧ z.2.2.2.2.2.2.2.2.2.2.2.2.2.2.1 = aS ∧ z.2.2.2.2.2.2.2.2.2.2.2.2.2.2.2.1 = aL ∧ z.2.2.2.2.2.2.2.2.2.2.2.2.2.2.2.2.1 = aO ∧ z.2.2.2.2.2.2.2.2.2.2.2.2.2.2.2.2.2.1 = Zs bO ∧ z.2.2.2.2.2.2.2.2.2.2.2.2.2.2.2.2.2.2 = Zs bP ∧ True) := by
 unfold Y4.t Y4.g
 have hm := Za
 have hlim : lim = 1048576 := rfl
 refine Yag.tm (fun i hi => hi) (Yag.T (by first | assumption | omega) (by first | assumption | omega) (by first | assumption | omega) (by first | assumption | omega) (by first | assumption | omega) (by first | assumption | omega) (by first | assumption | omega) (by first | assumption | omega)) (fun y2 y3 y4 y5 y6 y7 y8 y9 y10 y11 y12 y13 y14 y15 y16 y17 y18 hy1 => ?_)
 try simp only [] at hy1
 obtain ⟨rfl, rfl, rfl, rfl, rfl, rfl, rfl, rfl, rfl, rfl, rfl, rfl, rfl, rfl, rfl, rfl, rfl, _⟩ := hy1
 try simp only [ZF]
 exact Tm.ret (by exact ⟨by first | rfl | assumption, by first | rfl | assumption, by first | rfl | assumption, by first | rfl | assumption, by first | rfl | assumption, by first | rfl | assumption, by first | rfl | assumption, by first | rfl | assumption, by first | rfl | assumption, by first | rfl | assumption, by first | rfl | assumption, by first | rfl | assumption, by first | rfl | assumption, by first | rfl | assumption, by first | rfl | assumption, by first | rfl | assumption, by first | rfl | assumption, by first | rfl | assumption, by first | rfl | assumption, trivial⟩)
theorem Yz.f_of {β : Type} {k : Nat} {a0 : LD} {z0 : LC} (h : Yz.t k a0 = some z0) (K : LC → Option β) : Yz.f k a0 K = K z0 := by
 unfold Yz.f
 rw [h]
theorem Yz.tm {ι α : Type} {ok : ι → Prop} {ψ : α → Prop} {p : ι → Nat} {B : Nat} (hp : ∀ i, ok i → B ≤ p i) {a0 : LD} {φ : LC → Prop} (h : Tm (fun k => B ≤ k) (fun k => Yz.t k a0) φ) {G : ι → LC → Option α} (hG : ∀ z0, φ z0 → Tm ok (fun ι0 => G ι0 z0) ψ) : Tm ok (fun ι0 => Yz.f (p ι0) a0 (G ι0)) ψ := by
 obtain ⟨z0, h1, h2⟩ := h
 exact (hG z0 h1).congr fun i0 hi0 => Yz.f_of (h2 (p i0) (hp i0 hi0)) _
theorem Yz.T {a0 : LD} (ga0 : Zm Yc lim a0) : Tm (Zay 1) (fun k => Yz.t k a0) (fun z => z = Zs a0 ∧ True) := by
 unfold Yz.t Yz.g
 have hm := Za
 have hlim : lim = 1048576 := rfl
 have hlen := ga0.1
 refine Tm.guard (by first | omega | (simp only [lim, Za, Z6] at *; omega) | (simp only [lim, Z6] at *; refine ⟨?_, ?_, ?_, ?_⟩ <;> omega)) ?_
 refine Tm.loop (okk := (Zay 1)) (p := fun k => k) (fun i hi => up0 hi) (b := fun k => Yz.l0 k a0 (fun z0 => some z0)) (fun v => match v with | (i, u1) => (((a0.length : Int)) - i).toNat) (fun v => match v with | (i, u1) => 0 ≤ i ∧ i ≤ (a0.length : Int) ∧ Zaw a0 ([.d (.int .i64 0), .d (.bool false), .d (.int .i64 0), .d (.str (⟨#[]⟩ : BA)), .d (.int .i64 0), .d (.int .i64 0), .d (.int .i64 0), .d (.bool false), .own ([] : LC), .d (.int .i64 0), .d (.str (⟨#[]⟩ : BA)), .d (.int .i64 0), .own ([] : LC), .own ([] : LC), .d (.int .i64 0), .d (.str (⟨#[]⟩ : BA)), .d (.int .i64 0), .own ([] : LC), .own ([] : LC)] : List C) i u1) ?_ ?_ ?_
 ·rintro ⟨i, u1⟩ hI
  try simp only [] at hI ⊢
  have : big = 2 ^ 64 := rfl
  have := ga0.1
  simp only [lim] at this
  omega
 ·exact ⟨by omega, by simp, Zaw.start _ _⟩
 ·rintro ⟨i, u1⟩ hI L hL
  try simp only [] at hI
  obtain ⟨i0, i1, hF⟩ := hI
  have hFl := hF.len i1
  simp only [Yz.l0]
  refine Tm.ite (fun h1 => ?_) (fun h1 => ?_)
  ·try simp only [bz0, bz1, bz2, bz3, bz4, bz5, bz6, bz7, bz8, bz9, bza] at h1
   refine Tm.atRow (by first | assumption | omega) (by first | assumption | omega) (fun x2 hx3 hm4 => ?_)
   obtain ⟨c5, c6, c7, c8, c9, c10, c11, c12, c13, c14, c15, c16, c17, c18, c19, c20, c21, c22, c23, rfl, g24, g25, g26, g27, g28, g29, g30, g31, g32, g33, g34, g35, g36, g37, g38, g39, g40, _⟩ := (ga0.2 x2 hm4).open
   refine Tm.uncons ?_
   refine Tm.dInt ?_
   refine Tm.uncons ?_
   refine Tm.dBool ?_
   refine Tm.uncons ?_
   refine Tm.dInt ?_
   refine Tm.uncons ?_
   refine Tm.dStr ?_
   refine Tm.uncons ?_
   refine Tm.dInt ?_
   refine Tm.uncons ?_
   refine Tm.dInt ?_
   refine Tm.uncons ?_
   refine Tm.dInt ?_
   refine Tm.uncons ?_
   refine Tm.dBool ?_
   refine Tm.uncons ?_
   refine Tm.dSl ?_
   refine Tm.uncons ?_
   refine Tm.dInt ?_
   refine Tm.uncons ?_
   refine Tm.dStr ?_
   refine Tm.uncons ?_
   refine Tm.dInt ?_
   refine Tm.uncons ?_
   refine Tm.dSl ?_
   refine Tm.uncons ?_
   refine Tm.dSl ?_
   refine Tm.uncons ?_
   refine Tm.dInt ?_
   refine Tm.uncons ?_
   refine Tm.dStr ?_
   refine Tm.uncons ?_
   refine Tm.dInt ?_
   refine Tm.uncons ?_
   refine Tm.dSl ?_
   refine Tm.uncons ?_
   refine Tm.dSl ?_
   refine Tm.atEnd ?_
   refine Y4.tm (fun i hi => hi.1) (Y4.T (by first | assumption | omega) (by first | assumption | omega) (by first | assumption | omega) (by first | assumption | omega) (by first | assumption | omega) (by first | assumption | omega) (by first | assumption | omega) (by first | assumption | omega)) (fun y42 y43 y44 y45 y46 y47 y48 y49 y50 y51 y52 y53 y54 y55 y56 y57 y58 y59 y60 hy41 => ?_)
   try simp only [] at hy41
   obtain ⟨rfl, rfl, rfl, rfl, rfl, rfl, rfl, rfl, rfl, rfl, rfl, rfl, rfl, rfl, rfl, rfl, rfl, rfl, rfl, _⟩ := hy41
   try simp only [ZF]
   refine Tm.guard (by first | omega | (simp only [lim, Za, Z6] at *; omega) | (simp only [lim, Z6] at *; refine ⟨?_, ?_, ?_, ?_⟩ <;> omega)) ?_
   refine Tm.guard (by first | omega | (simp only [lim, Za, Z6] at *; omega) | (simp only [lim, Z6] at *; refine ⟨?_, ?_, ?_, ?_⟩ <;> omega)) ?_
   try rw [ZC (x := i + 1) (by omega) (by omega)]
   refine hL (_, _) ⟨by omega, by omega, hF.next i0 hx3 rfl (by simp [Zal, deepD])⟩ (by (try simp only []); omega)
  ·try simp only [bz0, bz1, bz2, bz3, bz4, bz5, bz6, bz7, bz8, bz9, bza] at h1
   exact Tm.ret (by exact ⟨hF.all (by omega), trivial⟩)
theorem Y7.f_of {β : Type} {k : Nat} {aB : LD} {aA aE : Int} {aD : LD} {z0 : LC} {z1 z2 : Int} {z3 : LC} (h : Y7.t k aB aA aE aD = some (z0, z1, z2, z3)) (K : LC → Int → Int → LC → Option β) : Y7.f k aB aA aE aD K = K z0 z1 z2 z3 := by
 unfold Y7.f
 rw [h]
theorem Y7.tm {ι α : Type} {ok : ι → Prop} {ψ : α → Prop} {p : ι → Nat} {B : Nat} (hp : ∀ i, ok i → B ≤ p i) {aB : LD} {aA aE : Int} {aD : LD} {φ : LC × Int × Int × LC → Prop} (h : Tm (fun k => B ≤ k) (fun k => Y7.t k aB aA aE aD) φ) {G : ι → LC → Int → Int → LC → Option α} (hG : ∀ z0 z1 z2 z3, φ (z0, z1, z2, z3) → Tm ok (fun ι0 => G ι0 z0 z1 z2 z3) ψ) : Tm ok (fun ι0 => Y7.f (p ι0) aB aA aE aD (G ι0)) ψ := by
 obtain ⟨⟨z0, z1, z2, z3⟩, h1, h2⟩ := h
 exact (hG z0 z1 z2 z3 h1).congr fun i0 hi0 => Y7.f_of (h2 (p i0) (hp i0 hi0)) _
theorem Y7.T {aB : LD} {aA aE : Int} {aD : LD} (ga0_0 : Zm Yb lim aB) (ga0_3 : Zm Yc lim aD) : Tm (Zay 1) (fun k => Y7.t k aB aA aE aD) (fun z => z.1 = Zs aB ∧ z.2.1 = aA ∧ z.2.2.1 = aE ∧ z.2.2.2 = Zs aD ∧ True) := by
 unfold Y7.t Y7.g
 have hm := Za
 have hlim : lim = 1048576 := rfl
 refine YP.tm (fun i hi => hi) (YP.T (by first | assumption | omega)) (fun y2 hy1 => ?_)
 try simp only [] at hy1
 obtain ⟨rfl, _⟩ := hy1
 try simp only [ZF]
 refine Yz.tm (fun i hi => hi) (Yz.T (by first | assumption | omega)) (fun y4 hy3 => ?_)
 try simp only [] at hy3
 obtain ⟨rfl, _⟩ := hy3
 try simp only [ZF]
 exact Tm.ret (by exact ⟨by first | rfl | assumption, by first | rfl | assumption, by first | rfl | assumption, by first | rfl | assumption, trivial⟩)
theorem YY.f_of {β : Type} {k : Nat} {a0 a1 a2 : Int} {z0 : Bool} (h : YY.t k a0 a1 a2 = some z0) (K : Bool → Option β) : YY.f k a0 a1 a2 K = K z0 := by
 unfold YY.f
 rw [h]
theorem YY.tm {ι α : Type} {ok : ι → Prop} {ψ : α → Prop} {p : ι → Nat} {B : Nat} (hp : ∀ i, ok i → B ≤ p i) {a0 a1 a2 : Int} {φ : Bool → Prop} (h : Tm (fun k => B ≤ k) (fun k => YY.t k a0 a1 a2) φ) {G : ι → Bool → Option α} (hG : ∀ z0, φ z0 → Tm ok (fun ι0 => G ι0 z0) ψ) : Tm ok (fun ι0 => YY.f (p ι0) a0 a1 a2 (G ι0)) ψ := by
 obtain ⟨z0, h1, h2⟩ := h
 exact (hG z0 h1).congr fun i0 hi0 => YY.f_of (h2 (p i0) (hp i0 hi0)) _
theorem YY.T {a0 a1 a2 : Int} : Tm Zar (fun k => YY.t k a0 a1 a2) (fun r => r = true → a1 ≤ a0 ∧ a0 ≤ a2) := by
 unfold YY.t YY.g
 have hm := Za
 have hlim : lim = 1048576 := rfl
 refine Tm.ite (fun h1 => ?_) (fun h1 => ?_)
 ·try simp only [bz0, bz1, bz2, bz3, bz4, bz5, bz6, bz7, bz8, bz9, bza] at h1
  exact Tm.ret (by first | (intro h; simp at h; omega) | (intro h; cases h))
 ·try simp only [bz0, bz1, bz2, bz3, bz4, bz5, bz6, bz7, bz8, bz9, bza] at h1
  exact Tm.ret (by first | (intro h; simp at h; omega) | (intro h; cases h))
theorem l1In_f {β : Type} {k : Nat} {a b c : Int} (K : Bool → Option β) : YY.f k a b c K = K (decide (b ≤ a) && decide (a ≤ c)) := by
 refine YY.f_of ?_ K
 unfold YY.t YY.g
 by_cases h : b ≤ a <;> simp [h]
def inB (a b c : Int) : Bool := decide (b ≤ a) && decide (a ≤ c)
theorem l1In_fv {β : Type} {k : Nat} {a b c : Int} (K : Bool → Option β) : YY.f k a b c K = K (inB a b c) := l1In_f K
theorem Yq.f_of {β : Type} {k : Nat} {a0 : BA} {z0 : Bool} (h : Yq.t k a0 = some z0) (K : Bool → Option β) : Yq.f k a0 K = K z0 := by
 unfold Yq.f
 rw [h]
theorem Yq.tm {ι α : Type} {ok : ι → Prop} {ψ : α → Prop} {p : ι → Nat} {B : Nat} (hp : ∀ i, ok i → B ≤ p i) {a0 : BA} {φ : Bool → Prop} (h : Tm (fun k => B ≤ k) (fun k => Yq.t k a0) φ) {G : ι → Bool → Option α} (hG : ∀ z0, φ z0 → Tm ok (fun ι0 => G ι0 z0) ψ) : Tm ok (fun ι0 => Yq.f (p ι0) a0 (G ι0)) ψ := by
 obtain ⟨z0, h1, h2⟩ := h
 exact (hG z0 h1).congr fun i0 hi0 => Yq.f_of (h2 (p i0) (hp i0 hi0)) _
theorem Yq.T {a0 : BA} (ga0 : a0.size ≤ lim) : Tm Zar (fun k => Yq.t k a0) (fun _ => True) := by
 unfold Yq.t Yq.g
 have hm := Za
 have hlim : lim = 1048576 := rfl
 refine Tm.loop (okk := Zar) (p := fun k => k) (fun i hi => hi) (b := fun k => Yq.l0 k a0 (fun z0 => some z0)) (fun i => (((a0.size : Int)) - i).toNat) (fun i => 0 ≤ i ∧ i ≤ (a0.size : Int)) ?_ ?_ ?_
 ·rintro i hI
  try simp only [] at hI ⊢
  have : big = 2 ^ 64 := rfl
  omega
 ·((try simp only []); omega)
 ·rintro i hI L hL
  try simp only [] at hI
  obtain ⟨i0, i1⟩ := hI
  simp only [Yq.l0]
  refine Tm.ite (fun h1 => ?_) (fun h1 => ?_)
  ·try simp only [bz0, bz1, bz2, bz3, bz4, bz5, bz6, bz7, bz8, bz9, bza] at h1
   refine Tm.atStr (by first | assumption | omega) (by first | assumption | omega) (fun b2 hb3 => ?_)
   try rw [ZC (x := (b2.toNat : Int)) (by omega) (by omega)]
   refine YY.tm (fun i hi => hi.1) (YY.T) (fun y5 hy4 => ?_)
   refine Tm.ite (fun h6 => ?_) (fun h6 => ?_)
   ·try simp only [bz0, bz1, bz2, bz3, bz4, bz5, bz6, bz7, bz8, bz9, bza] at h6
    refine Tm.atStr (by first | assumption | omega) (by first | assumption | omega) (fun b7 hb8 => ?_)
    try rw [ZC (x := (b7.toNat : Int)) (by omega) (by omega)]
    refine YY.tm (fun i hi => hi.1) (YY.T) (fun y10 hy9 => ?_)
    refine Tm.ite (fun h11 => ?_) (fun h11 => ?_)
    ·try simp only [bz0, bz1, bz2, bz3, bz4, bz5, bz6, bz7, bz8, bz9, bza] at h11
     refine Tm.atStr (by first | assumption | omega) (by first | assumption | omega) (fun b12 hb13 => ?_)
     refine Tm.ite (fun h14 => ?_) (fun h14 => ?_)
     ·try simp only [bz0, bz1, bz2, bz3, bz4, bz5, bz6, bz7, bz8, bz9, bza] at h14
      exact Tm.ret (by trivial)
     ·try simp only [bz0, bz1, bz2, bz3, bz4, bz5, bz6, bz7, bz8, bz9, bza] at h14
      try rw [ZC (x := i + 1) (by omega) (by omega)]
      exact hL _ (by (try simp only []); omega) (by (try simp only []); omega)
    ·try simp only [bz0, bz1, bz2, bz3, bz4, bz5, bz6, bz7, bz8, bz9, bza] at h11
     have z15 := hy9 h11
     try rw [ZC (x := i + 1) (by omega) (by omega)]
     exact hL _ (by (try simp only []); omega) (by (try simp only []); omega)
   ·try simp only [bz0, bz1, bz2, bz3, bz4, bz5, bz6, bz7, bz8, bz9, bza] at h6
    have z16 := hy4 h6
    try rw [ZC (x := i + 1) (by omega) (by omega)]
    exact hL _ (by (try simp only []); omega) (by (try simp only []); omega)
  ·try simp only [bz0, bz1, bz2, bz3, bz4, bz5, bz6, bz7, bz8, bz9, bza] at h1
   refine YY.tm (fun i hi => hi.1) (YY.T) (fun y18 hy17 => ?_)
   refine Tm.ite (fun h19 => ?_) (fun h19 => ?_)
   ·try simp only [bz0, bz1, bz2, bz3, bz4, bz5, bz6, bz7, bz8, bz9, bza] at h19
    have z20 := hy17 h19
    refine Tm.atStr (by first | assumption | omega) (by first | assumption | omega) (fun b21 hb22 => ?_)
    refine Tm.ite (fun h23 => ?_) (fun h23 => ?_)
    ·try simp only [bz0, bz1, bz2, bz3, bz4, bz5, bz6, bz7, bz8, bz9, bza] at h23
     try rw [ZC (x := (a0.size : Int) - 1) (by omega) (by omega)]
     refine Tm.atStr (by first | assumption | omega) (by first | assumption | omega) (fun b24 hb25 => ?_)
     exact Tm.ret (by trivial)
    ·try simp only [bz0, bz1, bz2, bz3, bz4, bz5, bz6, bz7, bz8, bz9, bza] at h23
     exact Tm.ret (by trivial)
   ·try simp only [bz0, bz1, bz2, bz3, bz4, bz5, bz6, bz7, bz8, bz9, bza] at h19
    exact Tm.ret (by trivial)
noncomputable def Yq.v (a0 : BA) : Bool := (Yq.t big a0).getD default
theorem Yq.tv {a0 : BA} (ga0 : a0.size ≤ lim) {k : Nat} (hk : Zar k) : Yq.t k a0 = some (Yq.v a0) := (Yq.T ga0).val hk
theorem Yq.fv {a0 : BA} (ga0 : a0.size ≤ lim) {k : Nat} (hk : Zar k) {β : Type} (K : Bool → Option β) : Yq.f k a0 K = K (Yq.v a0) := Yq.f_of (Yq.tv ga0 hk) K
noncomputable def namesB (xs : LD) : Bool := (List.range xs.length).all fun i => Yq.v (gS xs (i : Int) 0) && (!decide ((i : Int) > 0) || strLt (gS xs ((i : Int) - 1) 0) (gS xs (i : Int) 0))
theorem Yu.f_of {β : Type} {k : Nat} {a0 : LD} {z0 : Bool} (h : Yu.t k a0 = some z0) (K : Bool → Option β) : Yu.f k a0 K = K z0 := by
 unfold Yu.f
 rw [h]
theorem Yu.tm {ι α : Type} {ok : ι → Prop} {ψ : α → Prop} {p : ι → Nat} {B : Nat} (hp : ∀ i, ok i → B ≤ p i) {a0 : LD} {φ : Bool → Prop} (h : Tm (fun k => B ≤ k) (fun k => Yu.t k a0) φ) {G : ι → Bool → Option α} (hG : ∀ z0, φ z0 → Tm ok (fun ι0 => G ι0 z0) ψ) : Tm ok (fun ι0 => Yu.f (p ι0) a0 (G ι0)) ψ := by
 obtain ⟨z0, h1, h2⟩ := h
 exact (hG z0 h1).congr fun i0 hi0 => Yu.f_of (h2 (p i0) (hp i0 hi0)) _
theorem Yu.T {a0 : LD} (ga0 : Zm RS lim a0) : Tm Zar (fun k => Yu.t k a0) (fun _ => True) := by
 unfold Yu.t Yu.g
 have hm := Za
 have hlim : lim = 1048576 := rfl
 have la0 := ga0.1
 refine Tm.loop (okk := Zar) (p := fun k => k) (fun i hi => hi) (b := fun k => Yu.l0 k a0 (fun z0 => some z0)) (fun i => (((a0.length : Int)) - i).toNat) (fun i => 0 ≤ i ∧ i ≤ (a0.length : Int)) ?_ ?_ ?_
 ·rintro i hI
  try simp only [] at hI ⊢
  have : big = 2 ^ 64 := rfl
  omega
 ·((try simp only []); omega)
 ·rintro i hI L hL
  try simp only [] at hI
  obtain ⟨i0, i1⟩ := hI
  simp only [Yu.l0]
  refine Tm.ite (fun h1 => ?_) (fun h1 => ?_)
  ·try simp only [bz0, bz1, bz2, bz3, bz4, bz5, bz6, bz7, bz8, bz9, bza] at h1
   refine Tm.atRow (by first | assumption | omega) (by first | assumption | omega) (fun x2 hx3 hm4 => ?_)
   obtain ⟨c5, rfl, g6, _⟩ := (ga0.2 x2 hm4).open
   refine Tm.uncons ?_
   refine Tm.dStr ?_
   refine Tm.atEnd ?_
   refine Yq.tm (fun i hi => hi.1) (Yq.T (by first | assumption | omega)) (fun y8 hy7 => ?_)
   refine Tm.ite (fun h9 => ?_) (fun h9 => ?_)
   ·try simp only [bz0, bz1, bz2, bz3, bz4, bz5, bz6, bz7, bz8, bz9, bza] at h9
    exact Tm.ret (by trivial)
   ·try simp only [bz0, bz1, bz2, bz3, bz4, bz5, bz6, bz7, bz8, bz9, bza] at h9
    refine Tm.ite (fun h10 => ?_) (fun h10 => ?_)
    ·try simp only [bz0, bz1, bz2, bz3, bz4, bz5, bz6, bz7, bz8, bz9, bza] at h10
     try rw [ZC (x := i - 1) (by omega) (by omega)]
     refine Tm.atRow (by first | assumption | omega) (by first | assumption | omega) (fun x11 hx12 hm13 => ?_)
     obtain ⟨c14, rfl, g15, _⟩ := (ga0.2 x11 hm13).open
     refine Tm.uncons ?_
     refine Tm.dStr ?_
     refine Tm.atEnd ?_
     refine Tm.atRow (by first | assumption | omega) (by first | assumption | omega) (fun x16 hx17 hm18 => ?_)
     rw [hx3] at hx17
     injection hx17 with hx17
     subst hx17
     refine Tm.uncons ?_
     refine Tm.dStr ?_
     refine Tm.atEnd ?_
     refine Tm.ite (fun h20 => ?_) (fun h20 => ?_)
     ·try simp only [bz0, bz1, bz2, bz3, bz4, bz5, bz6, bz7, bz8, bz9, bza] at h20
      exact Tm.ret (by trivial)
     ·try simp only [bz0, bz1, bz2, bz3, bz4, bz5, bz6, bz7, bz8, bz9, bza] at h20
      try rw [ZC (x := i + 1) (by omega) (by omega)]
      exact hL _ (by (try simp only []); omega) (by (try simp only []); omega)
    ·try simp only [bz0, bz1, bz2, bz3, bz4, bz5, bz6, bz7, bz8, bz9, bza] at h10
     try rw [ZC (x := i + 1) (by omega) (by omega)]
     exact hL _ (by (try simp only []); omega) (by (try simp only []); omega)
  ·try simp only [bz0, bz1, bz2, bz3, bz4, bz5, bz6, bz7, bz8, bz9, bza] at h1
   exact Tm.ret (by trivial)
noncomputable def Yu.v (a0 : LD) : Bool := (Yu.t big a0).getD default
theorem Yu.tv {a0 : LD} (ga0 : Zm RS lim a0) {k : Nat} (hk : Zar k) : Yu.t k a0 = some (Yu.v a0) := (Yu.T ga0).val hk
theorem Yu.fv {a0 : LD} (ga0 : Zm RS lim a0) {k : Nat} (hk : Zar k) {β : Type} (K : Bool → Option β) : Yu.f k a0 K = K (Yu.v a0) := Yu.f_of (Yu.tv ga0 hk) K
theorem YW.f_of {β : Type} {k : Nat} {a0 : BA} {z0 : Bool} (h : YW.t k a0 = some z0) (K : Bool → Option β) : YW.f k a0 K = K z0 := by
 unfold YW.f
 rw [h]
def textB (s : BA) : Bool := (List.range s.size).all fun i => inB (bS s (i : Int)) 32 126
theorem l4Text_fv {s : BA} (g : s.size ≤ lim) {k : Nat} (hk : Zar k) {β : Type} (K : Bool → Option β) : YW.f k s K = K (textB s && decide ((s.size : Int) ≤ 100)) := YW.f_of (by
 have hlim : lim = 1048576 := rfl
 have hb : big = 2 ^ 64 := rfl
 unfold YW.t YW.g textB
 rw [iter_all0 (n := s.size) (fun i => inB (bS s (i : Int)) 32 126) (r1 := some false) (r2 := some (decide ((s.size : Int) ≤ 100))) (by unfold Zar at hk; omega)]
 ·generalize List.all _ _ = x
  cases x <;> rfl
 ·intro L i hi
  simp (disch := omega) only [YW.l0, dec_true (show (i : Int) < s.size by omega), cond_true, atStr_at, wrap_b, l1In_fv, ZC]
  generalize inB _ _ _ = x
  cases x <;> rfl
 ·intro L
  simp [YW.l0]) K
theorem YT.f_of {β : Type} {k : Nat} {aB : Int} {aA : BA} {aE : Int} {aD aG : LD} {z0 : Bool} (h : YT.t k aB aA aE aD aG = some z0) (K : Bool → Option β) : YT.f k aB aA aE aD aG K = K z0 := by
 unfold YT.f
 rw [h]
theorem Yv.f_of {β : Type} {k : Nat} {aB : Int} {aA : BA} {aE : Int} {aD aG : LD} {a1 z0 : Int} (h : Yv.t k aB aA aE aD aG a1 = some z0) (K : Int → Option β) : Yv.f k aB aA aE aD aG a1 K = K z0 := by
 unfold Yv.f
 unfold Yv.w
 rw [h]
theorem Yv.tm {ι α : Type} {ok : ι → Prop} {ψ : α → Prop} {p : ι → Nat} {B : Nat} (hp : ∀ i, ok i → B ≤ p i) {aB : Int} {aA : BA} {aE : Int} {aD aG : LD} {a1 : Int} {φ : Int → Prop} (h : Tm (fun k => B ≤ k) (fun k => Yv.t k aB aA aE aD aG a1) φ) {G : ι → Int → Option α} (hG : ∀ z0, φ z0 → Tm ok (fun ι0 => G ι0 z0) ψ) : Tm ok (fun ι0 => Yv.f (p ι0) aB aA aE aD aG a1 (G ι0)) ψ := by
 obtain ⟨z0, h1, h2⟩ := h
 exact (hG z0 h1).congr fun i0 hi0 => Yv.f_of (h2 (p i0) (hp i0 hi0)) _
theorem l4Keys_fv {c0 : Int} {c1 : BA} {c2 : Int} {c3 c4 : LD} (g : Zm RS lim c3) {k : Nat} (hk : Zar k) {β : Type} (K : Bool → Option β) : YT.f k c0 c1 c2 c3 c4 K = K (namesB c3 && (c3.length : Int) == (c4.length : Int)) := YT.f_of (by
 have hl := g.1
 have hlim : lim = 1048576 := rfl
 have hb : big = 2 ^ 64 := rfl
 unfold YT.t YT.g
 rw [iter_all0 (n := c3.length) (fun i => Yq.v (gS c3 (i : Int) 0) && (!decide ((i : Int) > 0) || strLt (gS c3 ((i : Int) - 1) 0) (gS c3 (i : Int) 0))) (r1 := some false) (r2 := some ((c3.length : Int) == (c4.length : Int))) (by unfold Zar at hk; omega)]
 ·unfold namesB
  generalize List.all _ _ = x
  cases x <;> rfl
 ·intro L i hi
  have k0 := (RS.get g (v := (i : Int)) (by omega) (by omega)).2.1
  simp (disch := omega) only [YT.l0, dec_true (show (i : Int) < c3.length by omega), cond_true, RS.row g, uncons_at, dStr_at, atEnd_at, Yq.fv k0 hk, ZC]
  by_cases h0 : (i : Int) > 0
  ·simp (disch := omega) only [dec_true h0, cond_true, RS.row g, uncons_at, dStr_at, atEnd_at]
   cases Yq.v (gS c3 (i : Int) 0) <;> cases strLt (gS c3 ((i : Int) - 1) 0) (gS c3 (i : Int) 0) <;> rfl
  ·simp only [dec_false h0, cond_false]
   cases Yq.v (gS c3 (i : Int) 0) <;> rfl
 ·intro L
  simp [YT.l0]) K
def bareText : BA := (⟨#[]⟩ : BA)
noncomputable def Yav (kind : Int) (text : BA) (num : Int) (keys kids : LD) : Bool :=
 bif kind == 1 then (keys.length : Int) == 0 && ((kids.length : Int) == 0 && (num == 0 && (textB text && decide ((text.size : Int) ≤ 100))))
 else bif kind == 2 then (keys.length : Int) == 0 && ((kids.length : Int) == 0 && strEq text bareText)
 else bif kind == 3 then (keys.length : Int) == 0 && ((kids.length : Int) == 0 && (strEq text bareText && inB num 0 1))
 else bif kind == 4 then (keys.length : Int) == 0 && (strEq text bareText && num == 0)
 else bif kind == 5 then (namesB keys && (keys.length : Int) == (kids.length : Int)) && (strEq text bareText && num == 0)
 else false
def sumL (f : List D → Int) : LD → Int → Int
 | [], n => n
 | r :: rs, n => if f r = 0 ∨ n + f r > 300 then 0 else sumL f rs (n + f r)
noncomputable def Yar : Nat → List D → Int
 | 0, _ => 0
 | d + 1, r => bif sumL (Yar d) (rL r 4) 1 == 0 then 0 else bif Yav (rI r 0) (rS r 1) (rI r 2) (rL r 3) (rL r 4) then sumL (Yar d) (rL r 4) 1 else 0
theorem sumL_range {f : List D → Int} (hf : ∀ r, 0 ≤ f r) : ∀ {rs : LD} {n : Int}, 1 ≤ n → n ≤ 300 → 0 ≤ sumL f rs n ∧ sumL f rs n ≤ 300 ∧ (sumL f rs n ≠ 0 → n + rs.length ≤ 300)
 | [], n, h, h' => by simp only [sumL, List.length_nil]; omega
 | r :: rs, n, h, h' => by
  have := hf r
  simp only [sumL]
  split
  ·omega
  ·have := sumL_range hf (rs := rs) (n := n + f r) (by omega) (by omega)
   simp only [List.length_cons]
   omega
theorem Yax : ∀ (d : Nat) (r : List D), 0 ≤ Yar d r ∧ Yar d r ≤ 300
 | 0, r => by simp [Yar]
 | d + 1, r => by
  have := sumL_range (f := Yar d) (fun r => (Yax d r).1) (rs := rL r 4) (n := 1) (by omega) (by omega)
  simp only [Yar]
  generalize sumL (Yar d) (rL r 4) 1 = n at *
  cases n == 0 <;> cases Yav (rI r 0) (rS r 1) (rI r 2) (rL r 3) (rL r 4) <;> simp <;> omega
theorem look_t (d : Nat) : ∀ {c0 : Int} {c1 : BA} {c2 : Int} {c3 c4 : LD}, c1.size ≤ lim → Zm RS lim c3 → Zm YQ lim c4 → d ≤ 6 → ∀ {k : Nat}, big + d + 1 ≤ k → Yv.t k c0 c1 c2 c3 c4 (d : Int) = some (Yar d [.int .i64 c0, .str c1, .int .i64 c2, .sl c3, .sl c4]) := by
 have hlim : lim = 1048576 := rfl
 have hb : big = 2 ^ 64 := rfl
 induction d with
 | zero =>
  intro c0 c1 c2 c3 c4 g1 g3 g4 hd k hk
  cases k with
  | zero => omega
  | succ k => rfl
 | succ d ih =>
  intro c0 c1 c2 c3 c4 g1 g3 g4 hd k hk
  cases k with
  | zero => omega
  | succ k =>
  have hl := g4.1
  have hk0 : Zar k := by unfold Zar; omega
  rw [Yv.t_succ]
  unfold Yv.g Yv.body
  rw [show (((d + 1 : Nat) : Int) == 0) = false by rw [beq_eq_false_iff_ne]; omega, cond_false]
  have key := iter_val (b := Yv.l0 k (Yv.f k) ((d + 1 : Nat) : Int) c0 c1 c2 c3 c4 fun z0 => some z0) (fun v => ((c4.length : Int) - v.2).toNat) (fun v => 0 ≤ v.2 ∧ v.2 ≤ c4.length ∧ 1 ≤ v.1 ∧ v.1 ≤ 300)
   (fun v => bif sumL (Yar d) (c4.drop v.2.toNat) v.1 == 0 then some 0 else bif Yav c0 c1 c2 c3 c4 then some (sumL (Yar d) (c4.drop v.2.toNat) v.1) else some 0) ?_ k (1, 0) (by simp only []; omega) (by simp only []; omega)
  ·rw [key]
   simp only [Yar]
   show (bif sumL (Yar d) (List.drop 0 c4) 1 == 0 then some 0 else bif Yav c0 c1 c2 c3 c4 then some (sumL (Yar d) (List.drop 0 c4) 1) else some 0) = some (bif sumL (Yar d) c4 1 == 0 then 0 else bif Yav c0 c1 c2 c3 c4 then sumL (Yar d) c4 1 else 0)
   rw [List.drop_zero]
   cases sumL (Yar d) c4 1 == 0 <;> cases Yav c0 c1 c2 c3 c4 <;> rfl
  ·rintro ⟨n, i⟩ ⟨i0, i1, n0, n1⟩ L hL
   simp only [] at i0 i1 n0 n1 hL ⊢
   by_cases hi : i < c4.length
   ·have hg := YQ.get g4 i0 hi
    have hr := Yax d (gR c4 i)
    have ih' := ih (c0 := gI c4 i 0) (c2 := gI c4 i 2) hg.2.2.1 hg.2.2.2.2.1 hg.2.2.2.2.2.1 (by omega) (k := k) (by omega)
    rw [← hg.1] at ih'
    simp (disch := omega) only [Yv.l0, dec_true hi, cond_true, YQ.row g4, uncons_at, dStr_at, dInt_self, dSl_at, atEnd_at, ZC, show ((d + 1 : Nat) : Int) - 1 = (d : Int) by omega]
    rw [Yv.f_of ih', drop_gR i0 hi]
    simp only [sumL]
    by_cases hz : Yar d (gR c4 i) = 0
    ·rw [hz]
     simp
    ·rw [show (Yar d (gR c4 i) == 0) = false by rw [beq_eq_false_iff_ne]; exact hz, cond_false, ZC (by omega) (by omega)]
     by_cases hn : n + Yar d (gR c4 i) > 300
     ·rw [dec_true hn, if_pos (.inr hn)]
      rfl
     ·rw [dec_false hn, if_neg (by omega), cond_false, hL _ ⟨by simp only []; omega, by simp only []; omega, by simp only []; omega, by simp only []; omega⟩ (by simp only []; omega)]
   ·rw [drop_end (by omega)]
    simp only [Yv.l0, dec_false hi, cond_false, sumL, l4Keys_fv g3 hk0, l1In_fv, l4Text_fv g1 hk0]
    rw [show (n == 0) = false by rw [beq_eq_false_iff_ne]; omega, cond_false]
    unfold Yav
    generalize (textB c1 && decide ((c1.size : Int) ≤ 100)) = b1
    generalize hb2 : strEq c1 (⟨#[]⟩ : BA) = b2
    have hb3 : strEq c1 bareText = b2 := hb2
    rw [hb3]
    generalize namesB c3 = b3
    generalize inB c2 0 1 = b4
    generalize (c2 == 0) = b5
    generalize ((c4.length : Int) == 0) = b6
    generalize ((c3.length : Int) == (c4.length : Int)) = b7
    generalize ((c3.length : Int) == 0) = b8
    rcases ZaW c0 with rfl | rfl | rfl | rfl | rfl | ⟨e1, e2, e3, e4, e5⟩
    ·cases b1 <;> cases b5 <;> cases b6 <;> cases b8 <;> rfl
    ·cases b2 <;> cases b6 <;> cases b8 <;> rfl
    ·cases b2 <;> cases b4 <;> cases b6 <;> cases b8 <;> rfl
    ·cases b2 <;> cases b5 <;> cases b8 <;> rfl
    ·cases b2 <;> cases b3 <;> cases b5 <;> cases b7 <;> cases b8 <;> rfl
    ·cases b8 <;> simp only [e1, e2, e3, e4, e5, cond_false, cond_true]
theorem look_fv {d c0 : Int} {c1 : BA} {c2 : Int} {c3 c4 : LD} (hd0 : 0 ≤ d) (hd : d ≤ 6) (g1 : c1.size ≤ lim) (g3 : Zm RS lim c3) (g4 : Zm YQ lim c4) {k : Nat} (hk : Zay 1 k) {β : Type} (K : Int → Option β) : Yv.f k c0 c1 c2 c3 c4 d K = K (Yar d.toNat [.int .i64 c0, .str c1, .int .i64 c2, .sl c3, .sl c4]) := by
 have hb : big = 2 ^ 64 := rfl
 have h1 : lv 1 = 2 ^ 65 := rfl
 obtain ⟨n, rfl⟩ : ∃ n : Nat, d = n := ⟨d.toNat, by omega⟩
 exact Yv.f_of (look_t n g1 g3 g4 (by omega) (by unfold Zay at hk; omega)) K
theorem Yv.T {aB : Int} {aA : BA} {aE : Int} {aD aG : LD} {a1 : Int} (h0 : 0 ≤ a1) (h1 : a1 ≤ 6) (g1 : aA.size ≤ lim) (g3 : Zm RS lim aD) (g4 : Zm YQ lim aG) : Tm (Zay 1) (fun k => Yv.t k aB aA aE aD aG a1) (fun _ => True) := by
 have hb : big = 2 ^ 64 := rfl
 have h2 : lv 1 = 2 ^ 65 := rfl
 obtain ⟨n, rfl⟩ : ∃ n : Nat, a1 = n := ⟨a1.toNat, by omega⟩
 exact Tm.of (fun k hk => look_t n g1 g3 g4 (by omega) (by omega)) trivial
theorem YK.f_of {β : Type} {k : Nat} {aB : Int} {aA : BA} {aE : Int} {aD aG : LD} {z0 : Bool} (h : YK.t k aB aA aE aD aG = some z0) (K : Bool → Option β) : YK.f k aB aA aE aD aG K = K z0 := by
 unfold YK.f
 rw [h]
theorem YK.tm {ι α : Type} {ok : ι → Prop} {ψ : α → Prop} {p : ι → Nat} {B : Nat} (hp : ∀ i, ok i → B ≤ p i) {aB : Int} {aA : BA} {aE : Int} {aD aG : LD} {φ : Bool → Prop} (h : Tm (fun k => B ≤ k) (fun k => YK.t k aB aA aE aD aG) φ) {G : ι → Bool → Option α} (hG : ∀ z0, φ z0 → Tm ok (fun ι0 => G ι0 z0) ψ) : Tm ok (fun ι0 => YK.f (p ι0) aB aA aE aD aG (G ι0)) ψ := by
 obtain ⟨z0, h1, h2⟩ := h
 exact (hG z0 h1).congr fun i0 hi0 => YK.f_of (h2 (p i0) (hp i0 hi0)) _
theorem YK.T {aB : Int} {aA : BA} {aE : Int} {aD aG : LD} (ga0_1 : aA.size ≤ lim) (ga0_3 : Zm RS lim aD) (ga0_4 : Zm YQ lim aG) : Tm (Zay 1) (fun k => YK.t k aB aA aE aD aG) (fun _ => True) := by
 unfold YK.t YK.g
 have hm := Za
 have hlim : lim = 1048576 := rfl
 have la0_3 := ga0_3.1
 have la0_4 := ga0_4.1
 refine Yv.tm (fun i hi => hi) (Yv.T (by first | assumption | omega) (by first | assumption | omega) (by first | assumption | omega) (by first | assumption | omega) (by first | assumption | omega)) (fun y2 hy1 => ?_)
 exact Tm.ret (by trivial)
noncomputable def YK.v (aB : Int) (aA : BA) (aE : Int) (aD aG : LD) : Bool := (YK.t (lv 1) aB aA aE aD aG).getD default
theorem YK.tv {aB : Int} {aA : BA} {aE : Int} {aD aG : LD} (ga0_1 : aA.size ≤ lim) (ga0_3 : Zm RS lim aD) (ga0_4 : Zm YQ lim aG) {k : Nat} (hk : (Zay 1) k) : YK.t k aB aA aE aD aG = some (YK.v aB aA aE aD aG) := (YK.T ga0_1 ga0_3 ga0_4).val hk
theorem YK.fv {aB : Int} {aA : BA} {aE : Int} {aD aG : LD} (ga0_1 : aA.size ≤ lim) (ga0_3 : Zm RS lim aD) (ga0_4 : Zm YQ lim aG) {k : Nat} (hk : (Zay 1) k) {β : Type} (K : Bool → Option β) : YK.f k aB aA aE aD aG K = K (YK.v aB aA aE aD aG) := YK.f_of (YK.tv ga0_1 ga0_3 ga0_4 hk) K
theorem Yab.f_of {β : Type} {k : Nat} {aB : Int} {aA : BA} {aE aD aG : Int} {aT : Bool} {aM : LD} {aQ : Int} {aI : BA} {aR : Int} {aJ aN : LD} {aP : Int} {aK : BA} {aS : Int} {aL aO : LD} {a1 a2 : Int} {a3 z0 : Bool} (h : Yab.t k aB aA aE aD aG aT aM aQ aI aR aJ aN aP aK aS aL aO a1 a2 a3 = some z0) (K : Bool → Option β) : Yab.f k aB aA aE aD aG aT aM aQ aI aR aJ aN aP aK aS aL aO a1 a2 a3 K = K z0 := by
 unfold Yab.f
 rw [h]
theorem Yab.tm {ι α : Type} {ok : ι → Prop} {ψ : α → Prop} {p : ι → Nat} {B : Nat} (hp : ∀ i, ok i → B ≤ p i) {aB : Int} {aA : BA} {aE aD aG : Int} {aT : Bool} {aM : LD} {aQ : Int} {aI : BA} {aR : Int} {aJ aN : LD} {aP : Int} {aK : BA} {aS : Int} {aL aO : LD} {a1 a2 : Int} {a3 : Bool} {φ : Bool → Prop} (h : Tm (fun k => B ≤ k) (fun k => Yab.t k aB aA aE aD aG aT aM aQ aI aR aJ aN aP aK aS aL aO a1 a2 a3) φ) {G : ι → Bool → Option α} (hG : ∀ z0, φ z0 → Tm ok (fun ι0 => G ι0 z0) ψ) : Tm ok (fun ι0 => Yab.f (p ι0) aB aA aE aD aG aT aM aQ aI aR aJ aN aP aK aS aL aO a1 a2 a3 (G ι0)) ψ := by
 obtain ⟨z0, h1, h2⟩ := h
 exact (hG z0 h1).congr fun i0 hi0 => Yab.f_of (h2 (p i0) (hp i0 hi0)) _
theorem Yab.T {aB : Int} {aA : BA} {aE aD aG : Int} {aT : Bool} {aM : LD} {aQ : Int} {aI : BA} {aR : Int} {aJ aN : LD} {aP : Int} {aK : BA} {aS : Int} {aL aO : LD} {a1 a2 : Int} {a3 : Bool} (ga0_1 : aA.size ≤ lim) (ga0_6 : Zm RS lim aM) (ga0_8 : aI.size ≤ lim) (ga0_10 : Zm RS lim aJ) (ga0_11 : Zm YQ lim aN) (ga0_13 : aK.size ≤ lim) (ga0_15 : Zm RS lim aL) (ga0_16 : Zm YQ lim aO) : Tm (Zay 1) (fun k => Yab.t k aB aA aE aD aG aT aM aQ aI aR aJ aN aP aK aS aL aO a1 a2 a3) (fun _ => True) := by
 unfold Yab.t Yab.g
 have hm := Za
 have hlim : lim = 1048576 := rfl
 have la0_6 := ga0_6.1
 have la0_10 := ga0_10.1
 have la0_11 := ga0_11.1
 have la0_15 := ga0_15.1
 have la0_16 := ga0_16.1
 refine YY.tm (fun i hi => up0 hi) (YY.T) (fun y2 hy1 => ?_)
 refine Tm.ite (fun h3 => ?_) (fun h3 => ?_)
 ·try simp only [bz0, bz1, bz2, bz3, bz4, bz5, bz6, bz7, bz8, bz9, bza] at h3
  have z4 := hy1 h3
  refine Yq.tm (fun i hi => up0 hi) (Yq.T (by first | assumption | omega)) (fun y6 hy5 => ?_)
  refine Tm.ite (fun h7 => ?_) (fun h7 => ?_)
  ·try simp only [bz0, bz1, bz2, bz3, bz4, bz5, bz6, bz7, bz8, bz9, bza] at h7
   try rw [ZC (x := a2 - 1) (by omega) (by omega)]
   refine YY.tm (fun i hi => up0 hi) (YY.T) (fun y9 hy8 => ?_)
   refine Tm.ite (fun h10 => ?_) (fun h10 => ?_)
   ·try simp only [bz0, bz1, bz2, bz3, bz4, bz5, bz6, bz7, bz8, bz9, bza] at h10
    have z11 := hy8 h10
    refine YY.tm (fun i hi => up0 hi) (YY.T) (fun y13 hy12 => ?_)
    refine Tm.ite (fun h14 => ?_) (fun h14 => ?_)
    ·try simp only [bz0, bz1, bz2, bz3, bz4, bz5, bz6, bz7, bz8, bz9, bza] at h14
     have z15 := hy12 h14
     refine YY.tm (fun i hi => up0 hi) (YY.T) (fun y17 hy16 => ?_)
     refine Tm.ite (fun h18 => ?_) (fun h18 => ?_)
     ·try simp only [bz0, bz1, bz2, bz3, bz4, bz5, bz6, bz7, bz8, bz9, bza] at h18
      have z19 := hy16 h18
      refine Yu.tm (fun i hi => up0 hi) (Yu.T (by first | assumption | omega)) (fun y21 hy20 => ?_)
      refine Tm.ite (fun h22 => ?_) (fun h22 => ?_)
      ·try simp only [bz0, bz1, bz2, bz3, bz4, bz5, bz6, bz7, bz8, bz9, bza] at h22
       refine YK.tm (fun i hi => hi) (YK.T (by first | assumption | omega) (by first | assumption | omega) (by first | assumption | omega)) (fun y24 hy23 => ?_)
       refine Tm.ite (fun h25 => ?_) (fun h25 => ?_)
       ·try simp only [bz0, bz1, bz2, bz3, bz4, bz5, bz6, bz7, bz8, bz9, bza] at h25
        refine YK.tm (fun i hi => hi) (YK.T (by first | assumption | omega) (by first | assumption | omega) (by first | assumption | omega)) (fun y27 hy26 => ?_)
        refine Tm.ite (fun h28 => ?_) (fun h28 => ?_)
        ·try simp only [bz0, bz1, bz2, bz3, bz4, bz5, bz6, bz7, bz8, bz9, bza] at h28
         refine Tm.ite (fun h29 => ?_) (fun h29 => ?_)
         ·try simp only [bz0, bz1, bz2, bz3, bz4, bz5, bz6, bz7, bz8, bz9, bza] at h29
          exact Tm.ret (by trivial)
         ·try simp only [bz0, bz1, bz2, bz3, bz4, bz5, bz6, bz7, bz8, bz9, bza] at h29
          refine Tm.ite (fun h30 => ?_) (fun h30 => ?_)
          ·try simp only [bz0, bz1, bz2, bz3, bz4, bz5, bz6, bz7, bz8, bz9, bza] at h30
           exact Tm.ret (by trivial)
          ·try simp only [bz0, bz1, bz2, bz3, bz4, bz5, bz6, bz7, bz8, bz9, bza] at h30
           exact Tm.ret (by trivial)
        ·try simp only [bz0, bz1, bz2, bz3, bz4, bz5, bz6, bz7, bz8, bz9, bza] at h28
         exact Tm.ret (by trivial)
       ·try simp only [bz0, bz1, bz2, bz3, bz4, bz5, bz6, bz7, bz8, bz9, bza] at h25
        exact Tm.ret (by trivial)
      ·try simp only [bz0, bz1, bz2, bz3, bz4, bz5, bz6, bz7, bz8, bz9, bza] at h22
       exact Tm.ret (by trivial)
     ·try simp only [bz0, bz1, bz2, bz3, bz4, bz5, bz6, bz7, bz8, bz9, bza] at h18
      exact Tm.ret (by trivial)
    ·try simp only [bz0, bz1, bz2, bz3, bz4, bz5, bz6, bz7, bz8, bz9, bza] at h14
     exact Tm.ret (by trivial)
   ·try simp only [bz0, bz1, bz2, bz3, bz4, bz5, bz6, bz7, bz8, bz9, bza] at h10
    exact Tm.ret (by trivial)
  ·try simp only [bz0, bz1, bz2, bz3, bz4, bz5, bz6, bz7, bz8, bz9, bza] at h7
   exact Tm.ret (by trivial)
 ·try simp only [bz0, bz1, bz2, bz3, bz4, bz5, bz6, bz7, bz8, bz9, bza] at h3
  exact Tm.ret (by trivial)
theorem Yaj.f_of {β : Type} {k : Nat} {aB : Int} {aA : BA} {aE aD aG : Int} {aT : Bool} {aM : LD} {aQ : Int} {aI : BA} {aR : Int} {aJ aN : LD} {aP : Int} {aK : BA} {aS : Int} {aL aO : LD} {aU : Int} {aV : BA} {aX aY aZ : Int} {bC : Bool} {bD : LD} {bE : Int} {bF : BA} {bG : Int} {bH bI : LD} {bJ : Int} {bK : BA} {bL : Int} {bM bN : LD} {z0 : Bool} (h : Yaj.t k aB aA aE aD aG aT aM aQ aI aR aJ aN aP aK aS aL aO aU aV aX aY aZ bC bD bE bF bG bH bI bJ bK bL bM bN = some z0) (K : Bool → Option β) : Yaj.f k aB aA aE aD aG aT aM aQ aI aR aJ aN aP aK aS aL aO aU aV aX aY aZ bC bD bE bF bG bH bI bJ bK bL bM bN K = K z0 := by
 unfold Yaj.f
 rw [h]
theorem Yi.f_of {β : Type} {k : Nat} {a0 : LD} {a1 a2 : Int} {z0 : Bool} (h : Yi.t k a0 a1 a2 = some z0) (K : Bool → Option β) : Yi.f k a0 a1 a2 K = K z0 := by
 unfold Yi.f
 rw [h]
theorem Yi.tm {ι α : Type} {ok : ι → Prop} {ψ : α → Prop} {p : ι → Nat} {B : Nat} (hp : ∀ i, ok i → B ≤ p i) {a0 : LD} {a1 a2 : Int} {φ : Bool → Prop} (h : Tm (fun k => B ≤ k) (fun k => Yi.t k a0 a1 a2) φ) {G : ι → Bool → Option α} (hG : ∀ z0, φ z0 → Tm ok (fun ι0 => G ι0 z0) ψ) : Tm ok (fun ι0 => Yi.f (p ι0) a0 a1 a2 (G ι0)) ψ := by
 obtain ⟨z0, h1, h2⟩ := h
 exact (hG z0 h1).congr fun i0 hi0 => Yi.f_of (h2 (p i0) (hp i0 hi0)) _
noncomputable def objV (x0 : Int) (x1 : BA) (x2 x3 x4 : Int) (x5 : Bool) (x6 : LD) (x7 : Int) (x8 : BA) (x9 : Int) (x10 x11 : LD) (x12 : Int) (x13 : BA) (x14 : Int) (x15 x16 : LD) (Z6 rev : Int) (gone : Bool) : Bool :=
 inB x0 1 3 && (Yq.v x1 && (inB x2 1 Z6 && (inB x3 1 rev && (inB x4 1 x3 && (Yu.v x6 && (YK.v x7 x8 x9 x10 x11 && (YK.v x12 x13 x14 x15 x16 && (gone || (!x5 || decide ((x6.length : Int) > 0))))))))))
theorem l7Obj_fv {x0 : Int} {x1 : BA} {x2 x3 x4 : Int} {x5 : Bool} {x6 : LD} {x7 : Int} {x8 : BA} {x9 : Int} {x10 x11 : LD} {x12 : Int} {x13 : BA} {x14 : Int} {x15 x16 : LD} {rev next : Int} {gone : Bool} (g1 : x1.size ≤ lim) (g6 : Zm RS lim x6) (g8 : x8.size ≤ lim) (g10 : Zm RS lim x10) (g11 : Zm YQ lim x11) (g13 : x13.size ≤ lim) (g15 : Zm RS lim x15) (g16 : Zm YQ lim x16) {k : Nat} (hk : Zay 1 k) {β : Type} (K : Bool → Option β) :
  Yab.f k x0 x1 x2 x3 x4 x5 x6 x7 x8 x9 x10 x11 x12 x13 x14 x15 x16 rev next gone K = K (objV x0 x1 x2 x3 x4 x5 x6 x7 x8 x9 x10 x11 x12 x13 x14 x15 x16 (IntKind.wrap .i64 (next - 1)) rev gone) := Yab.f_of (by
 have hk0 : Zar k := up0 hk
 unfold Yab.t Yab.g objV
 simp only [l1In_fv, Yq.fv g1 hk0, Yu.fv g6 hk0, YK.fv g8 g10 g11 hk, YK.fv g13 g15 g16 hk]
 generalize inB x0 1 3 = b0
 generalize Yq.v x1 = b1
 generalize inB x2 1 (IntKind.wrap .i64 (next - 1)) = b2
 generalize inB x3 1 rev = b3
 generalize inB x4 1 x3 = b4
 generalize Yu.v x6 = b5
 generalize YK.v x7 x8 x9 x10 x11 = b6
 generalize YK.v x12 x13 x14 x15 x16 = b7
 cases b0
 ·rfl
 cases b1
 ·rfl
 cases b2
 ·rfl
 cases b3
 ·rfl
 cases b4
 ·rfl
 cases b5
 ·rfl
 cases b6
 ·rfl
 cases b7
 ·rfl
 cases gone <;> cases x5 <;> rfl) K
noncomputable def lessV (x0 : Int) (x1 : BA) (y0 : Int) (y1 : BA) : Bool := decide (x0 < y0) || ((x0 == y0) && strLt x1 y1)
theorem l7Less_fv {x0 : Int} {x1 : BA} {x2 x3 x4 : Int} {x5 : Bool} {x6 : LD} {x7 : Int} {x8 : BA} {x9 : Int} {x10 x11 : LD} {x12 : Int} {x13 : BA} {x14 : Int} {x15 x16 : LD} {y0 : Int} {y1 : BA} {y2 y3 y4 : Int} {y5 : Bool} {y6 : LD} {y7 : Int} {y8 : BA} {y9 : Int} {y10 y11 : LD} {y12 : Int} {y13 : BA} {y14 : Int} {y15 y16 : LD} {k : Nat} {β : Type} (K : Bool → Option β) :
  Yaj.f k x0 x1 x2 x3 x4 x5 x6 x7 x8 x9 x10 x11 x12 x13 x14 x15 x16 y0 y1 y2 y3 y4 y5 y6 y7 y8 y9 y10 y11 y12 y13 y14 y15 y16 K = K (lessV x0 x1 y0 y1) := Yaj.f_of (by
 unfold Yaj.t Yaj.g lessV
 cases decide (x0 < y0) <;> cases x0 == y0 <;> rfl) K
noncomputable def objR (a : LD) (i Z6 rev : Int) : Bool := objV (gI a i 0) (gS a i 1) (gI a i 2) (gI a i 3) (gI a i 4) (gB a i 5) (gL a i 6) (gI a i 7) (gS a i 8) (gI a i 9) (gL a i 10) (gL a i 11) (gI a i 12) (gS a i 13) (gI a i 14) (gL a i 15) (gL a i 16) Z6 rev false
noncomputable def objsP (a : LD) (Z6 rev : Int) (i : Nat) : Bool := objR a i Z6 rev && ((!decide ((i : Int) > 0) || lessV (gI a ((i : Int) - 1) 0) (gS a ((i : Int) - 1) 1) (gI a (i : Int) 0) (gS a (i : Int) 1)) && (List.range i).all fun j => !(gI a (j : Int) 2 == gI a (i : Int) 2))
noncomputable def objsB (a : LD) (Z6 rev : Int) : Bool := (List.range a.length).all (objsP a Z6 rev) && decide ((a.length : Int) ≤ 60)
theorem l7Objs_t {a : LD} {rev next : Int} (g : Zm Yb lim a) {k : Nat} (hk : Zay 1 k) : Yi.t k a rev next = some (objsB a (IntKind.wrap .i64 (next - 1)) rev) := by
 have hk0 : Zar k := up0 hk
 have hl := g.1
 have hlim : lim = 1048576 := rfl
 have hb : big = 2 ^ 64 := rfl
 unfold Yi.t Yi.g
 refine (iter_allT (fun i => (a, rev, next, (i : Int))) (n := a.length) (objsP a (IntKind.wrap .i64 (next - 1)) rev) (r1 := some false) (r2 := some (decide ((a.length : Int) ≤ 60))) (by unfold Zar at hk0; omega) (fun L i hi => ?_) (fun L => by simp [Yi.l0])).trans ?_
 ·obtain ⟨-, -, k1, -, -, -, k6, -, k8, -, k10, k11, -, k13, -, k15, k16, -⟩ := Yb.get g (v := (i : Int)) (by omega) (by omega)
  have hin : ∀ {b : (Int → Option Bool) → Int → Option Bool}, (∀ (L1 : Int → Option Bool) (j : Nat), j < i → b L1 (j : Int) = bif !(gI a (j : Int) 2 == gI a (i : Int) 2) then L1 ((j : Int) + 1) else some false) → (∀ L1, b L1 (i : Int) = L (a, rev, next, ((i + 1 : Nat) : Int))) → Z4 b k 0 = bif (List.range i).all (fun j => !(gI a (j : Int) 2 == gI a (i : Int) 2)) then L (a, rev, next, ((i + 1 : Nat) : Int)) else some false := fun q1 q2 => iter_all0 _ (by unfold Zar at hk0; omega) q1 q2
  have e1 : Z4 (Yi.l1 k a rev next (i : Int) L some) k 0 = bif (List.range i).all (fun j => !(gI a (j : Int) 2 == gI a (i : Int) 2)) then L (a, rev, next, ((i + 1 : Nat) : Int)) else some false := hin (fun L1 j hj => by
   simp (disch := omega) only [Yi.l1, dec_true (show (j : Int) < i by omega), cond_true, Yb.row g, uncons_at, dInt_self, dStr_at, dBool_at, dSl_at, atEnd_at, ZC]
   cases gI a (j : Int) 2 == gI a (i : Int) 2 <;> rfl) (fun L1 => by
   simp (disch := omega) only [Yi.l1, dec_false (show ¬ (i : Int) < i by omega), cond_false, ZC]
   rfl)
  have e2 : Z4 (Yi.l2 k a rev next (i : Int) L some) k 0 = bif (List.range i).all (fun j => !(gI a (j : Int) 2 == gI a (i : Int) 2)) then L (a, rev, next, ((i + 1 : Nat) : Int)) else some false := hin (fun L1 j hj => by
   simp (disch := omega) only [Yi.l2, dec_true (show (j : Int) < i by omega), cond_true, Yb.row g, uncons_at, dInt_self, dStr_at, dBool_at, dSl_at, atEnd_at, ZC]
   cases gI a (j : Int) 2 == gI a (i : Int) 2 <;> rfl) (fun L1 => by
   simp (disch := omega) only [Yi.l2, dec_false (show ¬ (i : Int) < i by omega), cond_false, ZC]
   rfl)
  have e3 : ∀ {F : Bool → Option Bool}, Yab.f k (gI a i 0) (gS a i 1) (gI a i 2) (gI a i 3) (gI a i 4) (gB a i 5) (gL a i 6) (gI a i 7) (gS a i 8) (gI a i 9) (gL a i 10) (gL a i 11) (gI a i 12) (gS a i 13) (gI a i 14) (gL a i 15) (gL a i 16) rev next false F = F (objR a i (IntKind.wrap .i64 (next - 1)) rev) := l7Obj_fv k1 k6 k8 k10 k11 k13 k15 k16 hk _
  unfold objsP
  simp (disch := omega) only [Yi.l0, dec_true (show (i : Int) < a.length by omega), cond_true, Yb.row g, uncons_at, dInt_self, dStr_at, dBool_at, dSl_at, atEnd_at, e3, e1, e2]
  cases objR a (i : Int) (IntKind.wrap .i64 (next - 1)) rev
  ·rfl
  by_cases h0 : (i : Int) > 0
  ·simp (disch := omega) only [dec_true h0, cond_true, ZC, Yb.row g, uncons_at, dInt_self, dStr_at, dBool_at, dSl_at, atEnd_at, l7Less_fv, Bool.not_true, cond_false]
   cases lessV (gI a ((i : Int) - 1) 0) (gS a ((i : Int) - 1) 1) (gI a (i : Int) 0) (gS a (i : Int) 1) <;> rfl
  ·simp only [dec_false h0, cond_false, Bool.not_true, Bool.not_false, Bool.true_or, Bool.true_and]
 ·unfold objsB
  cases (List.range a.length).all (objsP a (IntKind.wrap .i64 (next - 1)) rev) <;> rfl
theorem l7Objs_fv {a : LD} {rev next : Int} (g : Zm Yb lim a) {k : Nat} (hk : Zay 1 k) {β : Type} (K : Bool → Option β) : Yi.f k a rev next K = K (objsB a (IntKind.wrap .i64 (next - 1)) rev) := Yi.f_of (l7Objs_t g hk) K
theorem Yi.T {a0 : LD} {a1 a2 : Int} (g : Zm Yb lim a0) : Tm (Zay 1) (fun k => Yi.t k a0 a1 a2) (fun _ => True) := Tm.of (v := objsB a0 (IntKind.wrap .i64 (a2 - 1)) a1) (fun k hk => l7Objs_t g hk) trivial
theorem YD.f_of {β : Type} {k : Nat} {aB : LD} {aA aE : Int} {aD : LD} {z0 : Bool} (h : YD.t k aB aA aE aD = some z0) (K : Bool → Option β) : YD.f k aB aA aE aD K = K z0 := by
 unfold YD.f
 rw [h]
theorem YD.T {aB : LD} {aA aE : Int} {aD : LD} (ga0_0 : Zm Yb lim aB) (ga0_3 : Zm Yc lim aD) : Tm (Zay 1) (fun k => YD.t k aB aA aE aD) (fun _ => True) := by
 unfold YD.t YD.g
 have hm := Za
 have hlim : lim = 1048576 := rfl
 have la0_0 := ga0_0.1
 have la0_3 := ga0_3.1
 refine YY.tm (fun i hi => up0 hi) (YY.T) (fun y2 hy1 => ?_)
 refine Tm.ite (fun h3 => ?_) (fun h3 => ?_)
 ·try simp only [bz0, bz1, bz2, bz3, bz4, bz5, bz6, bz7, bz8, bz9, bza] at h3
  exact Tm.ret (by trivial)
 ·try simp only [bz0, bz1, bz2, bz3, bz4, bz5, bz6, bz7, bz8, bz9, bza] at h3
  have z4 := hy1 h3
  refine YY.tm (fun i hi => up0 hi) (YY.T) (fun y6 hy5 => ?_)
  refine Tm.ite (fun h7 => ?_) (fun h7 => ?_)
  ·try simp only [bz0, bz1, bz2, bz3, bz4, bz5, bz6, bz7, bz8, bz9, bza] at h7
   exact Tm.ret (by trivial)
  ·try simp only [bz0, bz1, bz2, bz3, bz4, bz5, bz6, bz7, bz8, bz9, bza] at h7
   have z8 := hy5 h7
   refine Tm.ite (fun h9 => ?_) (fun h9 => ?_)
   ·try simp only [bz0, bz1, bz2, bz3, bz4, bz5, bz6, bz7, bz8, bz9, bza] at h9
    exact Tm.ret (by trivial)
   ·try simp only [bz0, bz1, bz2, bz3, bz4, bz5, bz6, bz7, bz8, bz9, bza] at h9
    refine Yi.tm (fun i hi => hi) (Yi.T (by first | assumption | omega)) (fun y11 hy10 => ?_)
    refine Tm.ite (fun h12 => ?_) (fun h12 => ?_)
    ·try simp only [bz0, bz1, bz2, bz3, bz4, bz5, bz6, bz7, bz8, bz9, bza] at h12
     exact Tm.ret (by trivial)
    ·try simp only [bz0, bz1, bz2, bz3, bz4, bz5, bz6, bz7, bz8, bz9, bza] at h12
     refine Tm.loop (okk := (Zay 1)) (p := fun k => k) (fun i hi => up0 hi) (b := fun k => YD.l0 k aB aA aE aD (fun z0 => some z0)) (fun i => (((aD.length : Int)) - i).toNat) (fun i => 0 ≤ i ∧ i ≤ (aD.length : Int)) ?_ ?_ ?_
     ·rintro i hI
      try simp only [] at hI ⊢
      have : big = 2 ^ 64 := rfl
      omega
     ·((try simp only []); omega)
     ·rintro i hI L hL
      try simp only [] at hI
      obtain ⟨i0, i1⟩ := hI
      simp only [YD.l0]
      refine Tm.ite (fun h13 => ?_) (fun h13 => ?_)
      ·try simp only [bz0, bz1, bz2, bz3, bz4, bz5, bz6, bz7, bz8, bz9, bza] at h13
       refine Tm.atRow (by first | assumption | omega) (by first | assumption | omega) (fun x14 hx15 hm16 => ?_)
       obtain ⟨c17, c18, c19, c20, c21, c22, c23, c24, c25, c26, c27, c28, c29, c30, c31, c32, c33, c34, c35, rfl, g36, g37, g38, g39, g40, g41, g42, g43, g44, g45, g46, g47, g48, g49, g50, g51, g52, _⟩ := (ga0_3.2 x14 hm16).open
       refine Tm.uncons ?_
       refine Tm.dInt ?_
       refine Tm.uncons ?_
       refine Tm.dBool ?_
       refine Tm.uncons ?_
       refine Tm.dInt ?_
       refine Tm.uncons ?_
       refine Tm.dStr ?_
       refine Tm.uncons ?_
       refine Tm.dInt ?_
       refine Tm.uncons ?_
       refine Tm.dInt ?_
       refine Tm.uncons ?_
       refine Tm.dInt ?_
       refine Tm.uncons ?_
       refine Tm.dBool ?_
       refine Tm.uncons ?_
       refine Tm.dSl ?_
       refine Tm.uncons ?_
       refine Tm.dInt ?_
       refine Tm.uncons ?_
       refine Tm.dStr ?_
       refine Tm.uncons ?_
       refine Tm.dInt ?_
       refine Tm.uncons ?_
       refine Tm.dSl ?_
       refine Tm.uncons ?_
       refine Tm.dSl ?_
       refine Tm.uncons ?_
       refine Tm.dInt ?_
       refine Tm.uncons ?_
       refine Tm.dStr ?_
       refine Tm.uncons ?_
       refine Tm.dInt ?_
       refine Tm.uncons ?_
       refine Tm.dSl ?_
       refine Tm.uncons ?_
       refine Tm.dSl ?_
       refine Tm.atEnd ?_
       refine Yab.tm (fun i hi => hi.1) (Yab.T (by first | assumption | omega) (by first | assumption | omega) (by first | assumption | omega) (by first | assumption | omega) (by first | assumption | omega) (by first | assumption | omega) (by first | assumption | omega) (by first | assumption | omega)) (fun y54 hy53 => ?_)
       refine Tm.ite (fun h55 => ?_) (fun h55 => ?_)
       ·try simp only [bz0, bz1, bz2, bz3, bz4, bz5, bz6, bz7, bz8, bz9, bza] at h55
        exact Tm.ret (by trivial)
       ·try simp only [bz0, bz1, bz2, bz3, bz4, bz5, bz6, bz7, bz8, bz9, bza] at h55
        refine Tm.ite (fun h56 => ?_) (fun h56 => ?_)
        ·try simp only [bz0, bz1, bz2, bz3, bz4, bz5, bz6, bz7, bz8, bz9, bza] at h56
         exact Tm.ret (by trivial)
        ·try simp only [bz0, bz1, bz2, bz3, bz4, bz5, bz6, bz7, bz8, bz9, bza] at h56
         refine Tm.ite (fun h57 => ?_) (fun h57 => ?_)
         ·try simp only [bz0, bz1, bz2, bz3, bz4, bz5, bz6, bz7, bz8, bz9, bza] at h57
          try rw [ZC (x := i - 1) (by omega) (by omega)]
          refine Tm.atRow (by first | assumption | omega) (by first | assumption | omega) (fun x58 hx59 hm60 => ?_)
          obtain ⟨c61, c62, c63, c64, c65, c66, c67, c68, c69, c70, c71, c72, c73, c74, c75, c76, c77, c78, c79, rfl, g80, g81, g82, g83, g84, g85, g86, g87, g88, g89, g90, g91, g92, g93, g94, g95, g96, _⟩ := (ga0_3.2 x58 hm60).open
          refine Tm.uncons ?_
          refine Tm.dInt ?_
          refine Tm.uncons ?_
          refine Tm.dBool ?_
          refine Tm.uncons ?_
          refine Tm.dInt ?_
          refine Tm.uncons ?_
          refine Tm.dStr ?_
          refine Tm.uncons ?_
          refine Tm.dInt ?_
          refine Tm.uncons ?_
          refine Tm.dInt ?_
          refine Tm.uncons ?_
          refine Tm.dInt ?_
          refine Tm.uncons ?_
          refine Tm.dBool ?_
          refine Tm.uncons ?_
          refine Tm.dSl ?_
          refine Tm.uncons ?_
          refine Tm.dInt ?_
          refine Tm.uncons ?_
          refine Tm.dStr ?_
          refine Tm.uncons ?_
          refine Tm.dInt ?_
          refine Tm.uncons ?_
          refine Tm.dSl ?_
          refine Tm.uncons ?_
          refine Tm.dSl ?_
          refine Tm.uncons ?_
          refine Tm.dInt ?_
          refine Tm.uncons ?_
          refine Tm.dStr ?_
          refine Tm.uncons ?_
          refine Tm.dInt ?_
          refine Tm.uncons ?_
          refine Tm.dSl ?_
          refine Tm.uncons ?_
          refine Tm.dSl ?_
          refine Tm.atEnd ?_
          refine Tm.ite (fun h97 => ?_) (fun h97 => ?_)
          ·try simp only [bz0, bz1, bz2, bz3, bz4, bz5, bz6, bz7, bz8, bz9, bza] at h97
           exact Tm.ret (by trivial)
          ·try simp only [bz0, bz1, bz2, bz3, bz4, bz5, bz6, bz7, bz8, bz9, bza] at h97
           try rw [ZC (x := i + 1) (by omega) (by omega)]
           exact hL _ (by (try simp only []); omega) (by (try simp only []); omega)
         ·try simp only [bz0, bz1, bz2, bz3, bz4, bz5, bz6, bz7, bz8, bz9, bza] at h57
          try rw [ZC (x := i + 1) (by omega) (by omega)]
          exact hL _ (by (try simp only []); omega) (by (try simp only []); omega)
      ·try simp only [bz0, bz1, bz2, bz3, bz4, bz5, bz6, bz7, bz8, bz9, bza] at h13
       exact Tm.ret (by trivial)
noncomputable def YD.v (aB : LD) (aA aE : Int) (aD : LD) : Bool := (YD.t (lv 1) aB aA aE aD).getD default
theorem YD.tv {aB : LD} {aA aE : Int} {aD : LD} (ga0_0 : Zm Yb lim aB) (ga0_3 : Zm Yc lim aD) {k : Nat} (hk : (Zay 1) k) : YD.t k aB aA aE aD = some (YD.v aB aA aE aD) := (YD.T ga0_0 ga0_3).val hk
theorem YD.fv {aB : LD} {aA aE : Int} {aD : LD} (ga0_0 : Zm Yb lim aB) (ga0_3 : Zm Yc lim aD) {k : Nat} (hk : (Zay 1) k) {β : Type} (K : Bool → Option β) : YD.f k aB aA aE aD K = K (YD.v aB aA aE aD) := YD.f_of (YD.tv ga0_0 ga0_3 hk) K
theorem YC.f_of {β : Type} {k : Nat} {aB : Int} {aA : BA} {aE : Int} {aD aG : LD} {z0 : Int} {z1 : BA} {z2 : Int} {z3 z4 : LC} (h : YC.t k aB aA aE aD aG = some (z0, z1, z2, z3, z4)) (K : Int → BA → Int → LC → LC → Option β) : YC.f k aB aA aE aD aG K = K z0 z1 z2 z3 z4 := by
 unfold YC.f
 unfold YC.w
 rw [h]
theorem Yak.f_of {β : Type} {k : Nat} {aB : Int} {aA : BA} {aE aD aG : Int} {aT : Bool} {aM : LD} {aQ : Int} {aI : BA} {aR : Int} {aJ aN : LD} {aP : Int} {aK : BA} {aS : Int} {aL aO : LD} {z0 : Int} {z1 : BA} {z2 z3 z4 : Int} {z5 : Bool} {z6 : LC} {z7 : Int} {z8 : BA} {z9 : Int} {z10 z11 : LC} {z12 : Int} {z13 : BA} {z14 : Int} {z15 z16 : LC} (h : Yak.t k aB aA aE aD aG aT aM aQ aI aR aJ aN aP aK aS aL aO = some (z0, z1, z2, z3, z4, z5, z6, z7, z8, z9, z10, z11, z12, z13, z14, z15, z16)) (K : Int → BA → Int → Int → Int → Bool → LC → Int → BA → Int → LC → LC → Int → BA → Int → LC → LC → Option β) : Yak.f k aB aA aE aD aG aT aM aQ aI aR aJ aN aP aK aS aL aO K = K z0 z1 z2 z3 z4 z5 z6 z7 z8 z9 z10 z11 z12 z13 z14 z15 z16 := by
 unfold Yak.f
 rw [h]
theorem Yy.f_of {β : Type} {k : Nat} {a0 : LD} {z0 : LC} (h : Yy.t k a0 = some z0) (K : LC → Option β) : Yy.f k a0 K = K z0 := by
 unfold Yy.f
 rw [h]
theorem Yao.f_of {β : Type} {k : Nat} {aB : LD} {aA aE : Int} {aD : LD} {z0 : Int} {z1 : LC} (h : Yao.t k aB aA aE aD = some (z0, z1)) (K : Int → LC → Option β) : Yao.f k aB aA aE aD K = K z0 z1 := by
 unfold Yao.f
 rw [h]
theorem Yao.tm {ι α : Type} {ok : ι → Prop} {ψ : α → Prop} {p : ι → Nat} {B : Nat} (hp : ∀ i, ok i → B ≤ p i) {aB : LD} {aA aE : Int} {aD : LD} {φ : Int × LC → Prop} (h : Tm (fun k => B ≤ k) (fun k => Yao.t k aB aA aE aD) φ) {G : ι → Int → LC → Option α} (hG : ∀ z0 z1, φ (z0, z1) → Tm ok (fun ι0 => G ι0 z0 z1) ψ) : Tm ok (fun ι0 => Yao.f (p ι0) aB aA aE aD (G ι0)) ψ := by
 obtain ⟨⟨z0, z1⟩, h1, h2⟩ := h
 exact (hG z0 z1 h1).congr fun i0 hi0 => Yao.f_of (h2 (p i0) (hp i0 hi0)) _
theorem Y2.f_of {β : Type} {k : Nat} {a0 a1 a2 : Int} {z0 : Bool} (h : Y2.t k a0 a1 a2 = some z0) (K : Bool → Option β) : Y2.f k a0 a1 a2 K = K z0 := by
 unfold Y2.f
 rw [h]
theorem Yal.f_of {β : Type} {k : Nat} {a0 : Int} {z0 : Bool} (h : Yal.t k a0 = some z0) (K : Bool → Option β) : Yal.f k a0 K = K z0 := by
 unfold Yal.f
 rw [h]
theorem within_f {β : Type} {k : Nat} {a b c : Int} (K : Bool → Option β) : Y2.f k a b c K = K (decide (b ≤ a) && decide (a ≤ c)) := by
 refine Y2.f_of ?_ K
 unfold Y2.t Y2.g
 by_cases h : b ≤ a <;> simp [h]
theorem YV.same {k : Nat} {a : BA} : YV.t k a = Yq.t k a := by
 unfold YV.t Yq.t YV.g Yq.g
 congr 1
 funext L v
 simp only [YV.l0, Yq.l0, l1In_f, within_f]
 refine bif_congr (fun _ => ?_) (fun _ => rfl)
 unfold atStr
 split
 ·split
  ·rename_i b _
   have hb : b.toNat < 256 := b.toNat_lt
   simp only []
   rw [ZC (x := (b.toNat : Int)) (by omega) (by omega)]
   generalize (b.toNat : Int) = x
   by_cases h1 : x < 97 <;> by_cases h2 : x < 48 <;> by_cases h3 : x > 57 <;> by_cases h4 : x > 122 <;> simp [h1, h2, h3, h4] <;> (try omega) <;> grind
  ·rfl
 ·rfl
theorem impl_NameOk_f {β : Type} {k : Nat} {a : BA} (K : Bool → Option β) : YV.f k a K = Yq.f k a K := by
 unfold YV.f Yq.f
 rw [YV.same]
theorem within_fv {β : Type} {k : Nat} {a b c : Int} (K : Bool → Option β) : Y2.f k a b c K = K (inB a b c) := within_f K
theorem YL.f_of {β : Type} {k : Nat} {a0 : LD} {a1 : Int} {z0 : Bool} (h : YL.t k a0 a1 = some z0) (K : Bool → Option β) : YL.f k a0 a1 K = K z0 := by
 unfold YL.f
 rw [h]
theorem namesOk_fv {a : LD} {n : Int} (g : Zm RS lim a) {k : Nat} (hk : Zar k) {β : Type} (K : Bool → Option β) : YL.f k a n K = K (namesB a && decide ((a.length : Int) ≤ n)) := YL.f_of (by
 have hl := g.1
 have hlim : lim = 1048576 := rfl
 have hb : big = 2 ^ 64 := rfl
 unfold YL.t YL.g
 rw [iter_all0 (n := a.length) (fun i => Yq.v (gS a (i : Int) 0) && (!decide ((i : Int) > 0) || strLt (gS a ((i : Int) - 1) 0) (gS a (i : Int) 0))) (r1 := some false) (r2 := some (decide ((a.length : Int) ≤ n))) (by unfold Zar at hk; omega)]
 ·unfold namesB
  generalize List.all _ _ = x
  cases x <;> rfl
 ·intro L i hi
  have k0 := (RS.get g (v := (i : Int)) (by omega) (by omega)).2.1
  simp (disch := omega) only [YL.l0, dec_true (show (i : Int) < a.length by omega), cond_true, RS.row g, uncons_at, dStr_at, atEnd_at, impl_NameOk_f, Yq.fv k0 hk, ZC]
  by_cases h0 : (i : Int) > 0
  ·simp (disch := omega) only [dec_true h0, cond_true, RS.row g, uncons_at, dStr_at, atEnd_at]
   cases Yq.v (gS a (i : Int) 0) <;> cases strLt (gS a ((i : Int) - 1) 0) (gS a (i : Int) 0) <;> rfl
  ·simp only [dec_false h0, cond_false]
   cases Yq.v (gS a (i : Int) 0) <;> rfl
 ·intro L
  simp [YL.l0]) K
theorem YB.f_of {β : Type} {k : Nat} {aB : Int} {aA : BA} {aE : Int} {aD aG : LD} {z0 : Bool} (h : YB.t k aB aA aE aD aG = some z0) (K : Bool → Option β) : YB.f k aB aA aE aD aG K = K z0 := by
 unfold YB.f
 rw [h]
theorem Yn.f_of {β : Type} {k : Nat} {aB : Int} {aA : BA} {aE : Int} {aD aG : LD} {a1 z0 : Int} (h : Yn.t k aB aA aE aD aG a1 = some z0) (K : Int → Option β) : Yn.f k aB aA aE aD aG a1 K = K z0 := by
 unfold Yn.f
 unfold Yn.w
 rw [h]
theorem Y8.f_of {β : Type} {k : Nat} {aB : Int} {aA : BA} {aE : Int} {aD aG : LD} {z0 : Bool} (h : Y8.t k aB aA aE aD aG = some z0) (K : Bool → Option β) : Y8.f k aB aA aE aD aG K = K z0 := by
 unfold Y8.f
 rw [h]
theorem shapeOk_fv {c0 : Int} {c1 : BA} {c2 : Int} {c3 c4 : LD} (g1 : c1.size ≤ lim) (g3 : Zm RS lim c3) {k : Nat} (hk : Zar k) {β : Type} (K : Bool → Option β) : YB.f k c0 c1 c2 c3 c4 K = K (Yav c0 c1 c2 c3 c4 && (!(c0 == 5) || decide ((c3.length : Int) ≤ 300))) := YB.f_of (by
 have hlim : lim = 1048576 := rfl
 have hb : big = 2 ^ 64 := rfl
 unfold YB.t YB.g
 have text : Z4 (YB.l0 k ((c2 : Int) == 0) (((c3.length : Int) : Int) == 0) (((c4.length : Int) : Int) == 0) (c1.size : Int) c0 c1 c2 c3 c4 fun z0 => some z0) k 0 = some (textB c1 && (decide ((c1.size : Int) ≤ 100) && (c2 == 0 && ((c3.length : Int) == 0 && (c4.length : Int) == 0)))) := by
  rw [iter_all0 (n := c1.size) (fun i => inB (bS c1 (i : Int)) 32 126) (r1 := some false) (r2 := some (decide ((c1.size : Int) ≤ 100) && (c2 == 0 && ((c3.length : Int) == 0 && (c4.length : Int) == 0)))) (by unfold Zar at hk; omega)]
  ·unfold textB
   generalize List.all _ _ = x
   cases x <;> rfl
  ·intro L i hi
   simp (disch := omega) only [YB.l0, dec_true (show (i : Int) < c1.size by omega), cond_true, atStr_at, wrap_b, within_fv, ZC]
   generalize inB _ _ _ = x
   cases x <;> rfl
  ·intro L
   simp only [YB.l0, dec_false (show ¬ (c1.size : Int) < c1.size by omega), cond_false]
   cases decide ((c1.size : Int) ≤ 100) <;> cases c2 == 0 <;> cases ((c3.length : Int) == 0) <;> rfl
 simp only [text, within_fv, namesOk_fv g3 hk]
 unfold Yav
 generalize textB c1 = b1
 generalize decide ((c1.size : Int) ≤ 100) = b0
 generalize hb2 : strEq c1 (⟨#[]⟩ : BA) = b2
 have hb3 : strEq c1 bareText = b2 := hb2
 rw [hb3]
 generalize namesB c3 = b3
 generalize inB c2 0 1 = b4
 generalize (c2 == 0) = b5
 generalize ((c4.length : Int) == 0) = b6
 generalize ((c3.length : Int) == (c4.length : Int)) = b7
 generalize ((c3.length : Int) == 0) = b8
 generalize decide ((c3.length : Int) ≤ 300) = b9
 rcases ZaW c0 with rfl | rfl | rfl | rfl | rfl | ⟨e1, e2, e3, e4, e5⟩
 ·cases b0 <;> cases b1 <;> cases b5 <;> cases b6 <;> cases b8 <;> rfl
 ·cases b2 <;> cases b6 <;> cases b8 <;> rfl
 ·cases b2 <;> cases b4 <;> cases b6 <;> cases b8 <;> rfl
 ·cases b2 <;> cases b5 <;> cases b8 <;> rfl
 ·cases b2 <;> cases b3 <;> cases b5 <;> cases b7 <;> cases b9 <;> rfl
 ·simp only [e1, e2, e3, e4, e5, cond_false, Bool.false_and]) K
theorem measured_t (d : Nat) : ∀ {c0 : Int} {c1 : BA} {c2 : Int} {c3 c4 : LD}, c1.size ≤ lim → Zm RS lim c3 → Zm YQ lim c4 → d ≤ 6 → ∀ {k : Nat}, big + d + 1 ≤ k → Yn.t k c0 c1 c2 c3 c4 (d : Int) = some (bif Yar d [.int .i64 c0, .str c1, .int .i64 c2, .sl c3, .sl c4] == 0 then 301 else Yar d [.int .i64 c0, .str c1, .int .i64 c2, .sl c3, .sl c4]) := by
 have hlim : lim = 1048576 := rfl
 have hb : big = 2 ^ 64 := rfl
 induction d with
 | zero =>
  intro c0 c1 c2 c3 c4 g1 g3 g4 hd k hk
  cases k with
  | zero => omega
  | succ k => rfl
 | succ d ih =>
  intro c0 c1 c2 c3 c4 g1 g3 g4 hd k hk
  cases k with
  | zero => omega
  | succ k =>
  have hl := g4.1
  have hk0 : Zar k := by unfold Zar; omega
  rw [Yn.t_succ]
  unfold Yn.g Yn.body
  rw [show (((d + 1 : Nat) : Int) == 0) = false by rw [beq_eq_false_iff_ne]; omega, cond_false, shapeOk_fv g1 g3 hk0]
  have key := iter_val (b := Yn.l0 k (Yn.f k) ((d + 1 : Nat) : Int) c4 (c4.length : Int) fun z0 => some z0) (fun v => ((c4.length : Int) - v.2).toNat) (fun v => 0 ≤ v.2 ∧ v.2 ≤ c4.length ∧ 1 ≤ v.1 ∧ v.1 ≤ 300)
   (fun v => bif sumL (Yar d) (c4.drop v.2.toNat) v.1 == 0 then some 301 else some (sumL (Yar d) (c4.drop v.2.toNat) v.1)) ?_ k (1, 0) (by simp only []; omega) (by simp only []; omega)
  ·rw [key]
   show (bif !(Yav c0 c1 c2 c3 c4 && (!(c0 == 5) || decide ((c3.length : Int) ≤ 300))) then some 301 else bif sumL (Yar d) (List.drop 0 c4) 1 == 0 then some 301 else some (sumL (Yar d) (List.drop 0 c4) 1)) = some (bif Yar (d + 1) [.int .i64 c0, .str c1, .int .i64 c2, .sl c3, .sl c4] == 0 then 301 else Yar (d + 1) [.int .i64 c0, .str c1, .int .i64 c2, .sl c3, .sl c4])
   have el : Yar (d + 1) [.int .i64 c0, .str c1, .int .i64 c2, .sl c3, .sl c4] = bif sumL (Yar d) c4 1 == 0 then 0 else bif Yav c0 c1 c2 c3 c4 then sumL (Yar d) c4 1 else 0 := rfl
   rw [List.drop_zero, el]
   have hs := sumL_range (f := Yar d) (fun r => (Yax d r).1) (rs := c4) (n := 1) (by omega) (by omega)
   by_cases hz : sumL (Yar d) c4 1 = 0
   ·rw [hz]
    cases (Yav c0 c1 c2 c3 c4 && (!(c0 == 5) || decide ((c3.length : Int) ≤ 300))) <;> rfl
   ·have hz' : (sumL (Yar d) c4 1 == 0) = false := by rw [beq_eq_false_iff_ne]; exact hz
    rw [hz', cond_false, cond_false]
    by_cases hsh : Yav c0 c1 c2 c3 c4 = true
    ·have h5 : (!(c0 == 5) || decide ((c3.length : Int) ≤ 300)) = true := by
      by_cases h5 : c0 = 5
      ·subst h5
       have : (c3.length : Int) = c4.length := by
        unfold Yav at hsh
        simp at hsh
        omega
       have := hs.2.2 hz
       simp
       omega
      ·simp [h5]
     rw [hsh, h5]
     simp only [Bool.and_self, Bool.not_true, cond_false, cond_true, hz']
    ·rw [Bool.not_eq_true] at hsh
     rw [hsh]
     rfl
  ·rintro ⟨n, i⟩ ⟨i0, i1, n0, n1⟩ L hL
   simp only [] at i0 i1 n0 n1 hL ⊢
   by_cases hi : i < c4.length
   ·have hg := YQ.get g4 i0 hi
    have hr := Yax d (gR c4 i)
    have ih' := ih (c0 := gI c4 i 0) (c2 := gI c4 i 2) hg.2.2.1 hg.2.2.2.2.1 hg.2.2.2.2.2.1 (by omega) (k := k) (by omega)
    rw [← hg.1] at ih'
    simp (disch := omega) only [Yn.l0, dec_true hi, cond_true, YQ.row g4, uncons_at, dStr_at, dInt_self, dSl_at, atEnd_at, ZC, show ((d + 1 : Nat) : Int) - 1 = (d : Int) by omega]
    rw [Yn.f_of ih', drop_gR i0 hi]
    simp only [sumL]
    by_cases hz : Yar d (gR c4 i) = 0
    ·rw [hz, show ((0 : Int) == 0) = true from rfl, cond_true, ZC (by omega) (by omega), dec_true (by omega)]
     simp
    ·rw [show (Yar d (gR c4 i) == 0) = false by rw [beq_eq_false_iff_ne]; exact hz, cond_false, ZC (by omega) (by omega)]
     by_cases hn : n + Yar d (gR c4 i) > 300
     ·rw [dec_true hn, if_pos (.inr hn)]
      rfl
     ·rw [dec_false hn, if_neg (by omega), cond_false, hL _ ⟨by simp only []; omega, by simp only []; omega, by simp only []; omega, by simp only []; omega⟩ (by simp only []; omega)]
   ·rw [drop_end (by omega)]
    simp only [Yn.l0, dec_false hi, cond_false, sumL]
    rw [show (n == 0) = false by rw [beq_eq_false_iff_ne]; omega, cond_false]
noncomputable def valB (c0 : Int) (c1 : BA) (c2 : Int) (c3 c4 : LD) : Bool := decide (Yar 6 [.int .i64 c0, .str c1, .int .i64 c2, .sl c3, .sl c4] > 0)
theorem spec_ValueOk_fv {c0 : Int} {c1 : BA} {c2 : Int} {c3 c4 : LD} (g1 : c1.size ≤ lim) (g3 : Zm RS lim c3) (g4 : Zm YQ lim c4) {k : Nat} (hk : Zay 1 k) {β : Type} (K : Bool → Option β) : YK.f k c0 c1 c2 c3 c4 K = K (valB c0 c1 c2 c3 c4) := YK.f_of (by
 unfold YK.t YK.g
 rw [look_fv (by omega) (by omega) g1 g3 g4 hk]
 rfl) K
theorem impl_ValueOk_fv {c0 : Int} {c1 : BA} {c2 : Int} {c3 c4 : LD} (g1 : c1.size ≤ lim) (g3 : Zm RS lim c3) (g4 : Zm YQ lim c4) {k : Nat} (hk : Zay 1 k) {β : Type} (K : Bool → Option β) : Y8.f k c0 c1 c2 c3 c4 K = K (valB c0 c1 c2 c3 c4) := Y8.f_of (by
 have hb : big = 2 ^ 64 := rfl
 have h1 : lv 1 = 2 ^ 65 := rfl
 unfold Y8.t Y8.g
 rw [Yn.f_of (show Yn.t k c0 c1 c2 c3 c4 6 = _ from measured_t 6 g1 g3 g4 (by omega) (by unfold Zay at hk; omega))]
 unfold valB
 have hr := Yax 6 [.int .i64 c0, .str c1, .int .i64 c2, .sl c3, .sl c4]
 generalize Yar 6 [.int .i64 c0, .str c1, .int .i64 c2, .sl c3, .sl c4] = n at *
 by_cases hz : n = 0
 ·subst hz; rfl
 ·rw [show (n == 0) = false by rw [beq_eq_false_iff_ne]; exact hz, cond_false, dec_true (by omega), dec_true (by omega)]) K
theorem Yam.f_of {β : Type} {k : Nat} {aB : Int} {aA : BA} {aE aD aG : Int} {aT : Bool} {aM : LD} {aQ : Int} {aI : BA} {aR : Int} {aJ aN : LD} {aP : Int} {aK : BA} {aS : Int} {aL aO : LD} {a1 a2 : Int} {a3 z0 : Bool} (h : Yam.t k aB aA aE aD aG aT aM aQ aI aR aJ aN aP aK aS aL aO a1 a2 a3 = some z0) (K : Bool → Option β) : Yam.f k aB aA aE aD aG aT aM aQ aI aR aJ aN aP aK aS aL aO a1 a2 a3 K = K z0 := by
 unfold Yam.f
 rw [h]
theorem Y9.f_of {β : Type} {k : Nat} {a0 : Int} {z0 : Bool} (h : Y9.t k a0 = some z0) (K : Bool → Option β) : Y9.f k a0 K = K z0 := by
 unfold Y9.f
 rw [h]
theorem Y1.f_of {β : Type} {k : Nat} {a0 a1 z0 : Int} (h : Y1.t k a0 a1 = some z0) (K : Int → Option β) : Y1.f k a0 a1 K = K z0 := by
 unfold Y1.f
 rw [h]
theorem Y0.f_of {β : Type} {k : Nat} {a0 a1 : BA} {z0 : Int} (h : Y0.t k a0 a1 = some z0) (K : Int → Option β) : Y0.f k a0 a1 K = K z0 := by
 unfold Y0.f
 rw [h]
theorem Yaf.f_of {β : Type} {k : Nat} {aB : Int} {aA : BA} {aE aD aG : Int} {aT : Bool} {aM : LD} {aQ : Int} {aI : BA} {aR : Int} {aJ aN : LD} {aP : Int} {aK : BA} {aS : Int} {aL aO : LD} {aU : Int} {aV : BA} {aX aY aZ : Int} {bC : Bool} {bD : LD} {bE : Int} {bF : BA} {bG : Int} {bH bI : LD} {bJ : Int} {bK : BA} {bL : Int} {bM bN : LD} {z0 : Int} (h : Yaf.t k aB aA aE aD aG aT aM aQ aI aR aJ aN aP aK aS aL aO aU aV aX aY aZ bC bD bE bF bG bH bI bJ bK bL bM bN = some z0) (K : Int → Option β) : Yaf.f k aB aA aE aD aG aT aM aQ aI aR aJ aN aP aK aS aL aO aU aV aX aY aZ bC bD bE bF bG bH bI bJ bK bL bM bN K = K z0 := by
 unfold Yaf.f
 rw [h]
theorem Yaa.f_of {β : Type} {k : Nat} {aB : Int} {aA : BA} {aE aD aG : Int} {aT : Bool} {aM : LD} {aQ : Int} {aI : BA} {aR : Int} {aJ aN : LD} {aP : Int} {aK : BA} {aS : Int} {aL aO : LD} {f0_0 : Int} {f0_1 : BA} {f0_2 f0_3 f0_4 : Int} {f0_5 : Bool} {f0_6 : LD} {f0_7 : Int} {f0_8 : BA} {f0_9 : Int} {f0_10 f0_11 : LD} {f0_12 : Int} {f0_13 : BA} {f0_14 : Int} {f0_15 f0_16 : LD} {z0 : Bool} (h : Yaa.t k aB aA aE aD aG aT aM aQ aI aR aJ aN aP aK aS aL aO f0_0 f0_1 f0_2 f0_3 f0_4 f0_5 f0_6 f0_7 f0_8 f0_9 f0_10 f0_11 f0_12 f0_13 f0_14 f0_15 f0_16 = some z0) (K : Bool → Option β) : Yaa.f k aB aA aE aD aG aT aM aQ aI aR aJ aN aP aK aS aL aO f0_0 f0_1 f0_2 f0_3 f0_4 f0_5 f0_6 f0_7 f0_8 f0_9 f0_10 f0_11 f0_12 f0_13 f0_14 f0_15 f0_16 K = K z0 := by
 unfold Yaa.f
 rw [h]
theorem Ya.f_of {β : Type} {k : Nat} {a0 : LD} {a1_0_0 : Int} {a1_0_1 : BA} {a1_0_2 a1_0_3 a1_0_4 : Int} {a1_0_5 : Bool} {a1_0_6 : LD} {a1_0_7 : Int} {a1_0_8 : BA} {a1_0_9 : Int} {a1_0_10 a1_0_11 : LD} {a1_0_12 : Int} {a1_0_13 : BA} {a1_0_14 : Int} {a1_0_15 a1_0_16 : LD} {z0 : Int} (h : Ya.t k a0 a1_0_0 a1_0_1 a1_0_2 a1_0_3 a1_0_4 a1_0_5 a1_0_6 a1_0_7 a1_0_8 a1_0_9 a1_0_10 a1_0_11 a1_0_12 a1_0_13 a1_0_14 a1_0_15 a1_0_16 = some z0) (K : Int → Option β) : Ya.f k a0 a1_0_0 a1_0_1 a1_0_2 a1_0_3 a1_0_4 a1_0_5 a1_0_6 a1_0_7 a1_0_8 a1_0_9 a1_0_10 a1_0_11 a1_0_12 a1_0_13 a1_0_14 a1_0_15 a1_0_16 K = K z0 := by
 unfold Ya.f
 rw [h]
theorem Yd.f_of {β : Type} {k : Nat} {a0 : LD} {a1_0_0 : Int} {a1_0_1 : BA} {a1_0_2 a1_0_3 a1_0_4 : Int} {a1_0_5 : Bool} {a1_0_6 : LD} {a1_0_7 : Int} {a1_0_8 : BA} {a1_0_9 : Int} {a1_0_10 a1_0_11 : LD} {a1_0_12 : Int} {a1_0_13 : BA} {a1_0_14 : Int} {a1_0_15 a1_0_16 : LD} {z0 : Bool} (h : Yd.t k a0 a1_0_0 a1_0_1 a1_0_2 a1_0_3 a1_0_4 a1_0_5 a1_0_6 a1_0_7 a1_0_8 a1_0_9 a1_0_10 a1_0_11 a1_0_12 a1_0_13 a1_0_14 a1_0_15 a1_0_16 = some z0) (K : Bool → Option β) : Yd.f k a0 a1_0_0 a1_0_1 a1_0_2 a1_0_3 a1_0_4 a1_0_5 a1_0_6 a1_0_7 a1_0_8 a1_0_9 a1_0_10 a1_0_11 a1_0_12 a1_0_13 a1_0_14 a1_0_15 a1_0_16 K = K z0 := by
 unfold Yd.f
 rw [h]
theorem YU.f_of {β : Type} {k : Nat} {a0 : LD} {a1 a2 : Int} {z0 : Bool} (h : YU.t k a0 a1 a2 = some z0) (K : Bool → Option β) : YU.f k a0 a1 a2 K = K z0 := by
 unfold YU.f
 rw [h]
theorem less_cmp : ∀ (a b : List UInt8), decide (Go.Lib.compareBytes a b ≥ 0) = !Op.bytesLess a b
 | [], [] => rfl
 | [], _ :: _ => rfl
 | _ :: _, [] => rfl
 | x :: a, y :: b => by
  have ih := less_cmp a b
  unfold Go.Lib.compareBytes Op.bytesLess
  by_cases h1 : x < y
  ·simp [h1]
  ·by_cases h2 : y < x
   ·have h3 : x ≠ y := fun e => by subst e; exact h1 h2
    simp [h1, h2, h3]
   ·have h3 : x = y := UInt8.le_antisymm (UInt8.not_lt.1 h2) (UInt8.not_lt.1 h1)
    subst h3
    simp only [h1, if_false, ih]
    simp
theorem cmpS_less (a b : BA) : decide (cmpS a b ≥ 0) = !strLt a b := by
 unfold cmpS strLt
 rw [less_cmp, Go.Lib.toList_data, Go.Lib.toList_data]
theorem waits_v {a : LD} (g : Zm RS lim a) {k : Nat} (hk : Zar k) : Yu.v a = (namesB a && decide ((a.length : Int) ≤ 4)) := by
 have hv := Yu.tv g hk
 suffices h : Yu.t k a = some (namesB a && decide ((a.length : Int) ≤ 4)) by
  rw [hv] at h
  injection h
 have hl := g.1
 have hlim : lim = 1048576 := rfl
 have hb : big = 2 ^ 64 := rfl
 unfold Yu.t Yu.g
 rw [iter_all0 (n := a.length) (fun i => Yq.v (gS a (i : Int) 0) && (!decide ((i : Int) > 0) || strLt (gS a ((i : Int) - 1) 0) (gS a (i : Int) 0))) (r1 := some false) (r2 := some (decide ((a.length : Int) ≤ 4))) (by unfold Zar at hk; omega)]
 ·unfold namesB
  generalize List.all _ _ = x
  cases x <;> rfl
 ·intro L i hi
  have k0 := (RS.get g (v := (i : Int)) (by omega) (by omega)).2.1
  simp (disch := omega) only [Yu.l0, dec_true (show (i : Int) < a.length by omega), cond_true, RS.row g, uncons_at, dStr_at, atEnd_at, Yq.fv k0 hk, ZC]
  by_cases h0 : (i : Int) > 0
  ·simp (disch := omega) only [dec_true h0, cond_true, RS.row g, uncons_at, dStr_at, atEnd_at]
   cases Yq.v (gS a (i : Int) 0) <;> cases strLt (gS a ((i : Int) - 1) 0) (gS a (i : Int) 0) <;> rfl
  ·simp only [dec_false h0, cond_false]
   cases Yq.v (gS a (i : Int) 0) <;> rfl
 ·intro L
  simp [Yu.l0]
theorem impl_ValueOk_v {c0 : Int} {c1 : BA} {c2 : Int} {c3 c4 : LD} (g1 : c1.size ≤ lim) (g3 : Zm RS lim c3) (g4 : Zm YQ lim c4) {k : Nat} (hk : Zay 1 k) {β : Type} (K : Bool → Option β) : Y8.f k c0 c1 c2 c3 c4 K = K (YK.v c0 c1 c2 c3 c4) := by
 have h : some (YK.v c0 c1 c2 c3 c4) = some (valB c0 c1 c2 c3 c4) := (YK.fv (aB := c0) (aE := c2) g1 g3 g4 hk some).symm.trans (spec_ValueOk_fv g1 g3 g4 hk some)
 injection h with h
 rw [impl_ValueOk_fv g1 g3 g4 hk, h]
theorem objOk_fv {x0 : Int} {x1 : BA} {x2 x3 x4 : Int} {x5 : Bool} {x6 : LD} {x7 : Int} {x8 : BA} {x9 : Int} {x10 x11 : LD} {x12 : Int} {x13 : BA} {x14 : Int} {x15 x16 : LD} {rev Z6 : Int} {gone : Bool} (g1 : x1.size ≤ lim) (g6 : Zm RS lim x6) (g8 : x8.size ≤ lim) (g10 : Zm RS lim x10) (g11 : Zm YQ lim x11) (g13 : x13.size ≤ lim) (g15 : Zm RS lim x15) (g16 : Zm YQ lim x16) {k : Nat} (hk : Zay 1 k) {β : Type} (K : Bool → Option β) :
  Yam.f k x0 x1 x2 x3 x4 x5 x6 x7 x8 x9 x10 x11 x12 x13 x14 x15 x16 Z6 rev gone K = K (objV x0 x1 x2 x3 x4 x5 x6 x7 x8 x9 x10 x11 x12 x13 x14 x15 x16 Z6 rev gone) := Yam.f_of (by
 have hk0 : Zar k := up0 hk
 have hi : ∀ {n : Int} {β : Type} (K : Bool → Option β), Yal.f k n K = K (inB n 1 3) := fun K => Yal.f_of (by unfold Yal.t Yal.g; rw [within_fv]) K
 unfold Yam.t Yam.g objV
 simp only [hi, within_fv, impl_NameOk_f, Yq.fv g1 hk0, namesOk_fv g6 hk0, ← waits_v g6 hk0, impl_ValueOk_v g8 g10 g11 hk, impl_ValueOk_v g13 g15 g16 hk]
 generalize inB x0 1 3 = b0
 generalize Yq.v x1 = b1
 generalize inB x2 1 Z6 = b2
 generalize inB x3 1 rev = b3
 generalize inB x4 1 x3 = b4
 generalize Yu.v x6 = b5
 generalize YK.v x7 x8 x9 x10 x11 = b6
 generalize YK.v x12 x13 x14 x15 x16 = b7
 generalize decide ((x6.length : Int) > 0) = b8
 cases b0
 ·rfl
 cases b1
 ·rfl
 cases b2
 ·rfl
 cases b3
 ·rfl
 cases b4
 ·rfl
 cases b5
 ·rfl
 cases b6 <;> cases b7 <;> cases gone <;> cases x5 <;> cases b8 <;> rfl) K
theorem cmpObjs_fv {x0 : Int} {x1 : BA} {x2 x3 x4 : Int} {x5 : Bool} {x6 : LD} {x7 : Int} {x8 : BA} {x9 : Int} {x10 x11 : LD} {x12 : Int} {x13 : BA} {x14 : Int} {x15 x16 : LD} {y0 : Int} {y1 : BA} {y2 y3 y4 : Int} {y5 : Bool} {y6 : LD} {y7 : Int} {y8 : BA} {y9 : Int} {y10 y11 : LD} {y12 : Int} {y13 : BA} {y14 : Int} {y15 y16 : LD} {k : Nat} :
  ∃ c : Int, decide (c ≥ 0) = !lessV x0 x1 y0 y1 ∧ ∀ {β : Type} (K : Int → Option β), Yaf.f k x0 x1 x2 x3 x4 x5 x6 x7 x8 x9 x10 x11 x12 x13 x14 x15 x16 y0 y1 y2 y3 y4 y5 y6 y7 y8 y9 y10 y11 y12 y13 y14 y15 y16 K = K c := by
 have hn : ∀ {n : Int} {β : Type} (K : Bool → Option β), Y9.f k n K = K false := fun {n β} K => Y9.f_of (by unfold Y9.t Y9.g; simp) K
 have hc : ∀ {β : Type} (K : Int → Option β), Y1.f k x0 y0 K = K (if x0 < y0 then -1 else if x0 > y0 then 1 else 0) := fun K => Y1.f_of (by
  unfold Y1.t Y1.g
  simp only [hn, cond_false]
  by_cases h1 : x0 < y0
  ·simp [h1]
  ·by_cases h2 : x0 > y0 <;> simp [h1, h2]) K
 have hs : ∀ {β : Type} (K : Int → Option β), Y0.f k x1 y1 K = K (cmpS x1 y1) := fun K => Y0.f_of (by unfold Y0.t Y0.g; rfl) K
 refine ⟨if x0 < y0 then -1 else if x0 > y0 then 1 else cmpS x1 y1, ?_, fun {β} K => Yaf.f_of ?_ K⟩
 ·unfold lessV
  by_cases h1 : x0 < y0
  ·simp [h1]
  ·by_cases h2 : x0 > y0
   ·have h3 : ¬ x0 = y0 := by omega
    simp [h1, h2, h3]
   ·have h3 : x0 = y0 := by omega
    subst h3
    simp only [h1, gt_iff_lt, if_false, decide_false, Bool.false_or, beq_self_eq_true, Bool.true_and]
    exact cmpS_less x1 y1
 ·unfold Yaf.t Yaf.g
  simp only [hc, hs]
  by_cases h1 : x0 < y0
  ·simp [h1]
  ·by_cases h2 : x0 > y0 <;> simp [h1, h2]
theorem objsOk_fv {a : LD} {rev Z6 : Int} (g : Zm Yb lim a) {k : Nat} (hk : Zay 1 k) {β : Type} (K : Bool → Option β) : YU.f k a Z6 rev K = K (objsB a Z6 rev) := YU.f_of (by
 have hk0 : Zar k := up0 hk
 have hl := g.1
 have hlim : lim = 1048576 := rfl
 have hb : big = 2 ^ 64 := rfl
 unfold YU.t YU.g
 rw [iter_all0 (n := a.length) (objsP a Z6 rev) (r1 := some false) (r2 := some (decide ((a.length : Int) ≤ 60))) (by unfold Zar at hk0; omega)]
 ·unfold objsB
  cases (List.range a.length).all (objsP a Z6 rev) <;> rfl
 ·intro L i hi
  obtain ⟨-, -, k1, -, -, -, k6, -, k8, -, k10, k11, -, k13, -, k15, k16, -⟩ := Yb.get g (v := (i : Int)) (by omega) (by omega)
  have e3 : ∀ {F : Bool → Option Bool}, Yam.f k (gI a i 0) (gS a i 1) (gI a i 2) (gI a i 3) (gI a i 4) (gB a i 5) (gL a i 6) (gI a i 7) (gS a i 8) (gI a i 9) (gL a i 10) (gL a i 11) (gI a i 12) (gS a i 13) (gI a i 14) (gL a i 15) (gL a i 16) Z6 rev false F = F (objR a i Z6 rev) := objOk_fv k1 k6 k8 k10 k11 k13 k15 k16 hk _
  have gt : Zm Yb lim (a.take i) := ⟨by rw [List.length_take]; omega, rows_take g.2⟩
  have hx : ∀ {y0 : Int} {y1 : BA} {y2 y3 y4 : Int} {y5 : Bool} {y6 : LD} {y7 : Int} {y8 : BA} {y9 : Int} {y10 y11 : LD} {y12 : Int} {y13 : BA} {y14 : Int} {y15 y16 : LD} {β : Type} (K : Bool → Option β), Yd.f k (a.take i) y0 y1 y2 y3 y4 y5 y6 y7 y8 y9 y10 y11 y12 y13 y14 y15 y16 K = K (!(List.range i).all fun j => !(gI a (j : Int) 2 == y2)) := by
   intro y0 y1 y2 y3 y4 y5 y6 y7 y8 y9 y10 y11 y12 y13 y14 y15 y16 β K
   refine Yd.f_of ?_ K
   have hli : (a.take i).length = i := by rw [List.length_take]; omega
   have hf : ∀ {β : Type} (K : Int → Option β), Ya.f k (a.take i) y0 y1 y2 y3 y4 y5 y6 y7 y8 y9 y10 y11 y12 y13 y14 y15 y16 K = K (ZbX (fun j => gI a (j : Int) 2 == y2) i) := fun K => Ya.f_of (by
    unfold Ya.t Ya.g
    refine iter_findI (n := i) _ some (by unfold Zar at hk0; omega) (fun L j hj => ?_) (fun L => by simp [Ya.l0, hli])
    have hs : ∀ {z0 : Int} {z1 : BA} {z2 z3 z4 : Int} {z5 : Bool} {z6 : LD} {z7 : Int} {z8 : BA} {z9 : Int} {z10 z11 : LD} {z12 : Int} {z13 : BA} {z14 : Int} {z15 z16 : LD} {β : Type} (K : Bool → Option β), Yaa.f k z0 z1 z2 z3 z4 z5 z6 z7 z8 z9 z10 z11 z12 z13 z14 z15 z16 y0 y1 y2 y3 y4 y5 y6 y7 y8 y9 y10 y11 y12 y13 y14 y15 y16 K = K (z2 == y2) := fun K => Yaa.f_of (by unfold Yaa.t Yaa.g; rfl) K
    have hg : gI (a.take i) (j : Int) 2 = gI a (j : Int) 2 := by unfold gI; rw [gR_take (by omega) (by omega)]
    simp (disch := omega) only [Ya.l0, dec_true (show (j : Int) < (a.take i).length by omega), cond_true, Yb.row gt, uncons_at, dInt_self, dStr_at, dBool_at, dSl_at, atEnd_at, hs, hg, ZC]) K
   unfold Yd.t Yd.g
   rw [hf, findI_all]
  have hd : (a.drop (Int.toNat (0 : Int))).take (Int.toNat (i : Int) - Int.toNat (0 : Int)) = a.take i := by simp
  have hg : ∀ {F : Option Bool}, ZH (0 ≤ (0 : Int) ∧ (0 : Int) ≤ (i : Int) ∧ (i : Int) ≤ (a.length : Int) ∧ rowsOk 17 a) F = F := guard_at ⟨by omega, by omega, by omega, fun r hr => (g.2 r hr).len⟩
  unfold objsP
  simp (disch := omega) only [YU.l0, dec_true (show (i : Int) < a.length by omega), cond_true, Yb.row g, uncons_at, dInt_self, dStr_at, dBool_at, dSl_at, atEnd_at, e3, hg, hd, hx]
  cases objR a (i : Int) Z6 rev
  ·rfl
  by_cases h0 : (i : Int) > 0
  ·simp (disch := omega) only [dec_true h0, cond_true, ZC, Yb.row g, uncons_at, dInt_self, dStr_at, dBool_at, dSl_at, atEnd_at, Bool.not_true, cond_false]
   obtain ⟨c, hc, hf⟩ := cmpObjs_fv (k := k) (x0 := gI a ((i : Int) - 1) 0) (x1 := gS a ((i : Int) - 1) 1) (x2 := gI a ((i : Int) - 1) 2) (x3 := gI a ((i : Int) - 1) 3) (x4 := gI a ((i : Int) - 1) 4) (x5 := gB a ((i : Int) - 1) 5) (x6 := gL a ((i : Int) - 1) 6) (x7 := gI a ((i : Int) - 1) 7) (x8 := gS a ((i : Int) - 1) 8) (x9 := gI a ((i : Int) - 1) 9) (x10 := gL a ((i : Int) - 1) 10) (x11 := gL a ((i : Int) - 1) 11) (x12 := gI a ((i : Int) - 1) 12) (x13 := gS a ((i : Int) - 1) 13) (x14 := gI a ((i : Int) - 1) 14) (x15 := gL a ((i : Int) - 1) 15) (x16 := gL a ((i : Int) - 1) 16) (y0 := gI a (i : Int) 0) (y1 := gS a (i : Int) 1) (y2 := gI a (i : Int) 2) (y3 := gI a (i : Int) 3) (y4 := gI a (i : Int) 4) (y5 := gB a (i : Int) 5) (y6 := gL a (i : Int) 6) (y7 := gI a (i : Int) 7) (y8 := gS a (i : Int) 8) (y9 := gI a (i : Int) 9) (y10 := gL a (i : Int) 10) (y11 := gL a (i : Int) 11) (y12 := gI a (i : Int) 12) (y13 := gS a (i : Int) 13) (y14 := gI a (i : Int) 14) (y15 := gL a (i : Int) 15) (y16 := gL a (i : Int) 16)
   rw [hf, hc]
   cases lessV (gI a ((i : Int) - 1) 0) (gS a ((i : Int) - 1) 1) (gI a (i : Int) 0) (gS a (i : Int) 1)
   ·rfl
   ·simp (disch := omega) only [Bool.not_true, cond_false, Bool.not_false, Bool.false_or, Bool.true_and, ZC]
    cases (List.range i).all _ <;> rfl
  ·simp only [dec_false h0, cond_false, Bool.not_true, Bool.not_false, Bool.true_or, Bool.true_and]
   simp (disch := omega) only [ZC]
   cases (List.range i).all _ <;> rfl
 ·intro L
  simp [YU.l0]) K
theorem YO.f_of {β : Type} {k : Nat} {aB : LD} {aA aE : Int} {aD : LD} {z0 : Bool} (h : YO.t k aB aA aE aD = some z0) (K : Bool → Option β) : YO.f k aB aA aE aD K = K z0 := by
 unfold YO.f
 rw [h]
theorem YO.same {aB : LD} {aA aE : Int} {aD : LD} (g0 : Zm Yb lim aB) (g3 : Zm Yc lim aD) {k : Nat} (hk : Zay 1 k) : YO.t k aB aA aE aD = YD.t k aB aA aE aD := by
 have hl := g3.1
 have hlim : lim = 1048576 := rfl
 have hloop : Z4 (YO.l0 k aD (aD.length : Int) aB aA aE aD some) k 0 = Z4 (YD.l0 k aB aA aE aD some) k 0 := by
  refine congrArg (fun b => Z4 b k 0) (funext fun L => funext fun v => ?_)
  simp only [YO.l0, YD.l0]
  refine bif_congr (fun h => ?_) (fun _ => rfl)
  by_cases h0 : 0 ≤ v ∧ v < aD.length
  ·obtain ⟨h0, h1⟩ := h0
   obtain ⟨-, -, -, k1, -, -, -, k6, -, k8, -, k10, k11, -, k13, -, k15, k16, -⟩ := Yc.get g3 h0 h1
   simp (disch := omega) only [Yc.row g3, uncons_at, dInt_self, dStr_at, dBool_at, dSl_at, atEnd_at, l7Obj_fv k1 k6 k8 k10 k11 k13 k15 k16 hk, objOk_fv k1 k6 k8 k10 k11 k13 k15 k16 hk]
  ·simp only [atRow_none h0]
 unfold YO.t YD.t YO.g YD.g
 simp only [within_fv, l1In_fv, objsOk_fv g0 hk, l7Objs_fv g0 hk]
 rw [hloop]
 cases inB aA 0 1000000
 ·rfl
 cases inB aE 1 1000000
 ·rfl
 cases objsB aB (IntKind.wrap .i64 (aE - 1)) aA <;> cases decide ((aD.length : Int) > 40) <;> rfl
theorem BaseOkI {aB : LD} {aA aE : Int} {aD : LD} (g0 : Zm Yb lim aB) (g3 : Zm Yc lim aD) {k : Nat} (hk : Zay 1 k) {β : Type} (K : Bool → Option β) : YO.f k aB aA aE aD K = K (YD.v aB aA aE aD) :=
 YO.f_of ((YO.same g0 g3 hk).trans (YD.tv g0 g3 hk)) K
theorem YF.f_of {β : Type} {k : Nat} {a0 : LD} {z0 : LC} (h : YF.t k a0 = some z0) (K : LC → Option β) : YF.f k a0 K = K z0 := by
 unfold YF.f
 rw [h]
theorem clone_string_fv {a : LD} (g : Zm RS lim a) {k : Nat} {β : Type} (K : LC → Option β) : YF.f k a K = K (a.map (·.map C.d)) := YF.f_of (by
 have hl := g.1
 have hlim : lim = 1048576 := rfl
 have hm : Z6 = 2 ^ 36 := rfl
 unfold YF.t YF.g
 rw [guard_at (RS.flat g.2), guard_at (by simp only [List.length_nil, map_len]; omega), List.nil_append]
 exact nilSl_same) K
theorem Yk.f_of {β : Type} {k : Nat} {aB : Int} {aA : BA} {aE : Int} {aD aG : LD} {z0 : Int} {z1 : BA} {z2 : Int} {z3 z4 : LC} (h : Yk.t k aB aA aE aD aG = some (z0, z1, z2, z3, z4)) (K : Int → BA → Int → LC → LC → Option β) : Yk.f k aB aA aE aD aG K = K z0 z1 z2 z3 z4 := by
 unfold Yk.f
 unfold Yk.w
 rw [h]
theorem copyVal (n : Nat) : ∀ (c0 : Int) (c1 : BA) (c2 : Int) (c3 c4 : LD), Zm RS lim c3 → c4.length ≤ lim → (∀ x ∈ c4, Yap lim n x) → ∀ {k : Nat}, big + n + 1 ≤ k → Yk.t k c0 c1 c2 c3 c4 = some (c0, c1, c2, Zs c3, Zs c4) := by
 have hm : Z6 = 2 ^ 36 := rfl
 have hlim : lim = 1048576 := rfl
 have hb : big = 2 ^ 64 := rfl
 induction n using Nat.strongRecOn with
 | ind n ih =>
 intro c0 c1 c2 c3 c4 g3 l4 g4 k hk
 obtain ⟨k, rfl⟩ : ∃ k', k = k' + 1 := ⟨k - 1, by omega⟩
 rw [Yk.t_succ]
 unfold Yk.g Yk.body
 rw [clone_string_fv g3]
 refine (iter_copy (xs := c4) (r := some (c0, c1, c2, c3.map (·.map C.d), Zs c4)) (by omega) (fun L i hi => ?_) (fun L => ?_)).trans (by rw [RS.deep g3.2])
 ·have hl : (Zs (c4.take i)).length = i := by rw [deepRows_length, List.length_take]; omega
  obtain ⟨n', hn', d0, d1, d2, d3, d4, e, w0, w1, w2, w3, w4, w5⟩ : ∃ n', n = n' + 1 ∧ ∃ d0 d1 d2 d3 d4, gR c4 (i : Int) = [.int .i64 d0, .str d1, .int .i64 d2, .sl d3, .sl d4] ∧ (Lit.int .i64 d0).wf = true ∧ d1.size ≤ lim ∧ (Lit.int .i64 d2).wf = true ∧ Zm RS lim d3 ∧ d4.length ≤ lim ∧ ∀ x ∈ d4, Yap lim n' x := by
   have := g4 _ (gR_mem (xs := c4) (v := (i : Int)) (by omega) (by omega))
   generalize gR c4 (i : Int) = r at this
   cases this with
   | mk e0 e1 e2 e3 e4 w0 p1 w2 p3 p4 p5 => exact ⟨_, rfl, _, _, _, _, _, rfl, w0, p1, w2, p3, p4, p5⟩
  simp (disch := omega) only [Yk.l0, dec_true (show (i : Int) < c4.length by omega), cond_true, ZbB (xs := c4) (v := (i : Int)), e, uncons_at, dInt_self, dStr_at, dSl_at, atEnd_at, Yk.f_of (ih n' (by omega) d0 d1 d2 d3 d4 w3 w4 w5 (k := k) (by omega)), ZC]
  rw [guard_at (by rw [hl, List.length_singleton]; omega)]
  simp only [Zal, deepD]
 ·simp only [Yk.l0, dec_false (show ¬ (c4.length : Int) < c4.length by omega), cond_false]
theorem l4CopyVal (n : Nat) : ∀ (c0 : Int) (c1 : BA) (c2 : Int) (c3 c4 : LD), Zm RS lim c3 → c4.length ≤ lim → (∀ x ∈ c4, Yap lim n x) → ∀ {k : Nat}, big + n + 1 ≤ k → YC.t k c0 c1 c2 c3 c4 = some (c0, c1, c2, Zs c3, Zs c4) := by
 have hm : Z6 = 2 ^ 36 := rfl
 have hlim : lim = 1048576 := rfl
 have hb : big = 2 ^ 64 := rfl
 induction n using Nat.strongRecOn with
 | ind n ih =>
 intro c0 c1 c2 c3 c4 g3 l4 g4 k hk
 have l3 := g3.1
 obtain ⟨k, rfl⟩ : ∃ k', k = k' + 1 := ⟨k - 1, by omega⟩
 rw [YC.t_succ]
 unfold YC.g YC.body
 rw [guard_at (RS.flat g3.2), guard_at (by simp only [List.length_nil, map_len]; omega), List.nil_append]
 refine (iter_copy (xs := c4) (r := some (c0, c1, c2, c3.map (·.map C.d), Zs c4)) (by omega) (fun L i hi => ?_) (fun L => ?_)).trans (by rw [RS.deep g3.2])
 ·have hl : (Zs (c4.take i)).length = i := by rw [deepRows_length, List.length_take]; omega
  obtain ⟨n', hn', d0, d1, d2, d3, d4, e, w0, w1, w2, w3, w4, w5⟩ : ∃ n', n = n' + 1 ∧ ∃ d0 d1 d2 d3 d4, gR c4 (i : Int) = [.int .i64 d0, .str d1, .int .i64 d2, .sl d3, .sl d4] ∧ (Lit.int .i64 d0).wf = true ∧ d1.size ≤ lim ∧ (Lit.int .i64 d2).wf = true ∧ Zm RS lim d3 ∧ d4.length ≤ lim ∧ ∀ x ∈ d4, Yap lim n' x := by
   have := g4 _ (gR_mem (xs := c4) (v := (i : Int)) (by omega) (by omega))
   generalize gR c4 (i : Int) = r at this
   cases this with
   | mk e0 e1 e2 e3 e4 w0 p1 w2 p3 p4 p5 => exact ⟨_, rfl, _, _, _, _, _, rfl, w0, p1, w2, p3, p4, p5⟩
  simp (disch := omega) only [YC.l0, dec_true (show (i : Int) < c4.length by omega), cond_true, ZbB (xs := c4) (v := (i : Int)), e, uncons_at, dInt_self, dStr_at, dSl_at, atEnd_at, YC.f_of (ih n' (by omega) d0 d1 d2 d3 d4 w3 w4 w5 (k := k) (by omega)), ZC]
  rw [guard_at (by rw [hl, List.length_singleton]; omega)]
  simp only [Zal, deepD]
 ·simp only [YC.l0, dec_false (show ¬ (c4.length : Int) < c4.length by omega), cond_false]
theorem value_h {xs : LD} (g : Zm YQ lim xs) : ∀ x ∈ xs, Yap lim 1099511627776 x := fun x hx => by
 obtain ⟨h, hh, hx⟩ := g.2 x hx
 exact hx.mono (hh (by decide))
theorem copyValue_fv {c0 c2 : Int} {c1 : BA} {c3 c4 : LD} (g3 : Zm RS lim c3) (g4 : Zm YQ lim c4) {k : Nat} (hk : Zay 1 k) {β : Type} (K : Int → BA → Int → LC → LC → Option β) : Yk.f k c0 c1 c2 c3 c4 K = K c0 c1 c2 (Zs c3) (Zs c4) :=
 Yk.f_of (copyVal 1099511627776 c0 c1 c2 c3 c4 g3 g4.1 (value_h g4) (Nat.le_trans (big_lv1 (n := 1099511627776 + 1) (by omega)) hk)) K
theorem l4Copy_fv {c0 c2 : Int} {c1 : BA} {c3 c4 : LD} (g3 : Zm RS lim c3) (g4 : Zm YQ lim c4) {k : Nat} (hk : Zay 1 k) {β : Type} (K : Int → BA → Int → LC → LC → Option β) : YC.f k c0 c1 c2 c3 c4 K = K c0 c1 c2 (Zs c3) (Zs c4) :=
 YC.f_of (l4CopyVal 1099511627776 c0 c1 c2 c3 c4 g3 g4.1 (value_h g4) (Nat.le_trans (big_lv1 (n := 1099511627776 + 1) (by omega)) hk)) K
theorem Yae.f_of {β : Type} {k : Nat} {aB : Int} {aA : BA} {aE aD aG : Int} {aT : Bool} {aM : LD} {aQ : Int} {aI : BA} {aR : Int} {aJ aN : LD} {aP : Int} {aK : BA} {aS : Int} {aL aO : LD} {z0 : Int} {z1 : BA} {z2 z3 z4 : Int} {z5 : Bool} {z6 : LC} {z7 : Int} {z8 : BA} {z9 : Int} {z10 z11 : LC} {z12 : Int} {z13 : BA} {z14 : Int} {z15 z16 : LC} (h : Yae.t k aB aA aE aD aG aT aM aQ aI aR aJ aN aP aK aS aL aO = some (z0, z1, z2, z3, z4, z5, z6, z7, z8, z9, z10, z11, z12, z13, z14, z15, z16)) (K : Int → BA → Int → Int → Int → Bool → LC → Int → BA → Int → LC → LC → Int → BA → Int → LC → LC → Option β) : Yae.f k aB aA aE aD aG aT aM aQ aI aR aJ aN aP aK aS aL aO K = K z0 z1 z2 z3 z4 z5 z6 z7 z8 z9 z10 z11 z12 z13 z14 z15 z16 := by
 unfold Yae.f
 rw [h]
theorem YG.f_of {β : Type} {k : Nat} {a0 : LD} {z0 : LC} (h : YG.t k a0 = some z0) (K : LC → Option β) : YG.f k a0 K = K z0 := by
 unfold YG.f
 rw [h]
theorem l7Copy_fv {x0 : Int} {x1 : BA} {x2 x3 x4 : Int} {x5 : Bool} {x6 : LD} {x7 : Int} {x8 : BA} {x9 : Int} {x10 x11 : LD} {x12 : Int} {x13 : BA} {x14 : Int} {x15 x16 : LD} (g6 : Zm RS lim x6) (g10 : Zm RS lim x10) (g11 : Zm YQ lim x11) (g15 : Zm RS lim x15) (g16 : Zm YQ lim x16) {k : Nat} (hk : Zay 1 k) {β : Type} (K : Int → BA → Int → Int → Int → Bool → LC → Int → BA → Int → LC → LC → Int → BA → Int → LC → LC → Option β) : Yak.f k x0 x1 x2 x3 x4 x5 x6 x7 x8 x9 x10 x11 x12 x13 x14 x15 x16 K = K x0 x1 x2 x3 x4 x5 (Zs x6) x7 x8 x9 (Zs x10) (Zs x11) x12 x13 x14 (Zs x15) (Zs x16) := Yak.f_of (by
 have hm : Z6 = 2 ^ 36 := rfl
 have hlim : lim = 1048576 := rfl
 have l := g6.1
 unfold Yak.t Yak.g
 rw [guard_at (RS.flat g6.2), guard_at (by simp only [List.length_nil, map_len]; omega), List.nil_append, l4Copy_fv g10 g11 hk, l4Copy_fv g15 g16 hk, ← RS.deep g6.2]) K
theorem copyObj_fv {x0 : Int} {x1 : BA} {x2 x3 x4 : Int} {x5 : Bool} {x6 : LD} {x7 : Int} {x8 : BA} {x9 : Int} {x10 x11 : LD} {x12 : Int} {x13 : BA} {x14 : Int} {x15 x16 : LD} (g6 : Zm RS lim x6) (g10 : Zm RS lim x10) (g11 : Zm YQ lim x11) (g15 : Zm RS lim x15) (g16 : Zm YQ lim x16) {k : Nat} (hk : Zay 1 k) {β : Type} (K : Int → BA → Int → Int → Int → Bool → LC → Int → BA → Int → LC → LC → Int → BA → Int → LC → LC → Option β) : Yae.f k x0 x1 x2 x3 x4 x5 x6 x7 x8 x9 x10 x11 x12 x13 x14 x15 x16 K = K x0 x1 x2 x3 x4 x5 (Zs x6) x7 x8 x9 (Zs x10) (Zs x11) x12 x13 x14 (Zs x15) (Zs x16) := Yae.f_of (by
 unfold Yae.t Yae.g
 rw [clone_string_fv g6, copyValue_fv g10 g11 hk, copyValue_fv g15 g16 hk, ← RS.deep g6.2]) K
theorem l7CopyObjs_fv {a : LD} (g : Zm Yb lim a) {k : Nat} (hk : Zay 1 k) {β : Type} (K : LC → Option β) : Yy.f k a K = K (Zs a) := Yy.f_of (by
 have hm : Z6 = 2 ^ 36 := rfl
 have hlim : lim = 1048576 := rfl
 have hb : big = 2 ^ 64 := rfl
 have hk0 : big ≤ k := up0 hk
 have l := g.1
 unfold Yy.t Yy.g
 refine iter_copy (xs := a) (by omega) (fun L i hi => ?_) (fun L => ?_)
 ·have hl : (Zs (a.take i)).length = i := by rw [deepRows_length, List.length_take]; omega
  obtain ⟨e, -, -, -, -, -, k6, -, -, -, k10, k11, -, -, -, k15, k16, -⟩ := Yb.get g (v := (i : Int)) (by omega) (by omega)
  simp (disch := omega) only [Yy.l0, dec_true (show (i : Int) < a.length by omega), cond_true, ZbB (xs := a) (v := (i : Int)), e, uncons_at, dInt_self, dStr_at, dBool_at, dSl_at, atEnd_at, l7Copy_fv k6 k10 k11 k15 k16 hk, ZC]
  rw [guard_at (by rw [hl, List.length_singleton]; omega)]
  simp only [Zal, deepD]
 ·simp only [Yy.l0, dec_false (show ¬ (a.length : Int) < a.length by omega), cond_false]) K
theorem copyObjs_fv {a : LD} (g : Zm Yb lim a) {k : Nat} (hk : Zay 1 k) {β : Type} (K : LC → Option β) : YG.f k a K = K (Zs a) := YG.f_of (by
 have hm : Z6 = 2 ^ 36 := rfl
 have hlim : lim = 1048576 := rfl
 have hb : big = 2 ^ 64 := rfl
 have hk0 : big ≤ k := up0 hk
 have l := g.1
 unfold YG.t YG.g
 refine iter_copy (xs := a) (by omega) (fun L i hi => ?_) (fun L => ?_)
 ·have hl : (Zs (a.take i)).length = i := by rw [deepRows_length, List.length_take]; omega
  obtain ⟨e, -, -, -, -, -, k6, -, -, -, k10, k11, -, -, -, k15, k16, -⟩ := Yb.get g (v := (i : Int)) (by omega) (by omega)
  simp (disch := omega) only [YG.l0, dec_true (show (i : Int) < a.length by omega), cond_true, ZbB (xs := a) (v := (i : Int)), e, uncons_at, dInt_self, dStr_at, dBool_at, dSl_at, atEnd_at, copyObj_fv k6 k10 k11 k15 k16 hk, ZC]
  rw [guard_at (by rw [hl, List.length_singleton]; omega)]
  simp only [Zal, deepD]
 ·simp only [YG.l0, dec_false (show ¬ (a.length : Int) < a.length by omega), cond_false]) K
theorem Yan.f_of {β : Type} {k : Nat} {aB : LD} {aA aE : Int} {aD : LD} {z0 : Int} {z1 : LC} (h : Yan.t k aB aA aE aD = some (z0, z1)) (K : Int → LC → Option β) : Yan.f k aB aA aE aD K = K z0 z1 := by
 unfold Yan.f
 rw [h]
theorem Yan.tm {ι α : Type} {ok : ι → Prop} {ψ : α → Prop} {p : ι → Nat} {B : Nat} (hp : ∀ i, ok i → B ≤ p i) {aB : LD} {aA aE : Int} {aD : LD} {φ : Int × LC → Prop} (h : Tm (fun k => B ≤ k) (fun k => Yan.t k aB aA aE aD) φ) {G : ι → Int → LC → Option α} (hG : ∀ z0 z1, φ (z0, z1) → Tm ok (fun ι0 => G ι0 z0 z1) ψ) : Tm ok (fun ι0 => Yan.f (p ι0) aB aA aE aD (G ι0)) ψ := by
 obtain ⟨⟨z0, z1⟩, h1, h2⟩ := h
 exact (hG z0 z1 h1).congr fun i0 hi0 => Yan.f_of (h2 (p i0) (hp i0 hi0)) _
noncomputable def listV (a : LD) (b c : Int) (d : LD) : Int × LC := bif YD.v a b c d then (b, Zs a) else (0, [])
theorem spec_List_t {a0 : LD} {a1 a2 : Int} {a3 : LD} (g0 : Zm Yb lim a0) (g3 : Zm Yc lim a3) {k : Nat} (hk : Zay 1 k) : Yao.t k a0 a1 a2 a3 = some (listV a0 a1 a2 a3) := by
 unfold Yao.t Yao.g listV
 rw [YD.fv g0 g3 hk, l7CopyObjs_fv g0 hk]
 cases YD.v a0 a1 a2 a3 <;> rfl
theorem impl_List_t {a0 : LD} {a1 a2 : Int} {a3 : LD} (g0 : Zm Yb lim a0) (g3 : Zm Yc lim a3) {k : Nat} (hk : Zay 1 k) : Yan.t k a0 a1 a2 a3 = some (listV a0 a1 a2 a3) := by
 unfold Yan.t Yan.g listV
 rw [BaseOkI g0 g3 hk, copyObjs_fv g0 hk]
 cases YD.v a0 a1 a2 a3 <;> rfl
theorem Yao.T {aB : LD} {aA aE : Int} {aD : LD} (g0 : Zm Yb lim aB) (_ : (Lit.int .i64 aA).wf = true) (_ : (Lit.int .i64 aE).wf = true) (g3 : Zm Yc lim aD) (w0 : ZE aB ≤ 67108864) (w3 : ZE aD ≤ 67108864) :
  Tm (Zay 1) (fun k => Yao.t k aB aA aE aD) (fun z => Zm Yb 2097152 (C.immRows z.2) ∧ ZE (C.immRows z.2) ≤ 1125899906842624 ∧ True) := by
 have hlim : lim = 1048576 := rfl
 refine Tm.of (fun k hk => spec_List_t g0 g3 hk) ?_
 unfold listV
 cases YD.v aB aA aE aD <;> simp only [cond_true, cond_false, ZF]
 ·exact ⟨⟨Nat.zero_le _, fun r hr => by cases hr⟩, Nat.zero_le _, trivial⟩
 ·exact ⟨Yb.wide g0, by omega, trivial⟩
theorem Yan.same {aB : LD} {aA aE : Int} {aD : LD} (g0 : Zm Yb lim aB) (_ : (Lit.int .i64 aA).wf = true) (_ : (Lit.int .i64 aE).wf = true) (g3 : Zm Yc lim aD) (w0 : ZE aB ≤ 67108864) (w3 : ZE aD ≤ 67108864) {k : Nat} (hk : Zay 1 k) {z0 : Int} {z1 : LC}
  (hz : Yao.t k aB aA aE aD = some (z0, z1)) : Yan.t k aB aA aE aD = some (z0, Zs (C.immRows z1)) := by
 rw [spec_List_t g0 g3 hk] at hz
 rw [impl_List_t g0 g3 hk, hz]
 injection hz with hz
 unfold listV at hz
 cases hq : YD.v aB aA aE aD <;> rw [hq] at hz <;> simp only [cond_true, cond_false, Prod.mk.injEq] at hz <;> obtain ⟨rfl, rfl⟩ := hz
 ·rfl
 ·simp only [ZF]
theorem Ys.f_of {β : Type} {k : Nat} {a0 a1 : LD} {z0 : Bool} (h : Ys.t k a0 a1 = some z0) (K : Bool → Option β) : Ys.f k a0 a1 K = K z0 := by
 unfold Ys.f
 rw [h]
theorem Ys.tm {ι α : Type} {ok : ι → Prop} {ψ : α → Prop} {p : ι → Nat} {B : Nat} (hp : ∀ i, ok i → B ≤ p i) {a0 a1 : LD} {φ : Bool → Prop} (h : Tm (fun k => B ≤ k) (fun k => Ys.t k a0 a1) φ) {G : ι → Bool → Option α} (hG : ∀ z0, φ z0 → Tm ok (fun ι0 => G ι0 z0) ψ) : Tm ok (fun ι0 => Ys.f (p ι0) a0 a1 (G ι0)) ψ := by
 obtain ⟨z0, h1, h2⟩ := h
 exact (hG z0 h1).congr fun i0 hi0 => Ys.f_of (h2 (p i0) (hp i0 hi0)) _
theorem Ys.T {B : Nat} {a0 : LD} (ga0 : Zm RS B a0) (hB : B ≤ 1099511627776) : Tm Zar (fun k => Ys.t k a0 a0) (fun r => r = true) := by
 unfold Ys.t Ys.g
 have hm := Za
 have hlim : lim = 1048576 := rfl
 have hlen := ga0.1
 refine Tm.ite (fun h1 => ?_) (fun h1 => ?_)
 ·try simp only [bz0, bz1, bz2, bz3, bz4, bz5, bz6, bz7, bz8, bz9, bza] at h1
  exact Tm.ret (by first | rfl | (exfalso; simp [Zi] at *))
 ·try simp only [bz0, bz1, bz2, bz3, bz4, bz5, bz6, bz7, bz8, bz9, bza] at h1
  refine Tm.loop (okk := Zar) (p := fun k => k) (fun i hi => hi) (b := fun k => Ys.l0 k a0 a0 (fun z0 => some z0)) (fun i => (((a0.length : Int)) - i).toNat) (fun i => 0 ≤ i ∧ i ≤ (a0.length : Int)) ?_ ?_ ?_
  ·rintro i hI
   try simp only [] at hI ⊢
   have : big = 2 ^ 64 := rfl
   have := ga0.1
   omega
  ·((try simp only []); omega)
  ·rintro i hI L hL
   try simp only [] at hI
   obtain ⟨i0, i1⟩ := hI
   simp only [Ys.l0]
   refine Tm.ite (fun h2 => ?_) (fun h2 => ?_)
   ·try simp only [bz0, bz1, bz2, bz3, bz4, bz5, bz6, bz7, bz8, bz9, bza] at h2
    refine Tm.atRow (by first | assumption | omega) (by first | assumption | omega) (fun x3 hx4 hm5 => ?_)
    obtain ⟨c6, rfl, g7, _⟩ := (ga0.2 x3 hm5).open
    refine Tm.uncons ?_
    refine Tm.dStr ?_
    refine Tm.atEnd ?_
    refine Tm.atRow (by first | assumption | omega) (by first | assumption | omega) (fun x8 hx9 hm10 => ?_)
    rw [hx4] at hx9
    injection hx9 with hx9
    subst hx9
    refine Tm.uncons ?_
    refine Tm.dStr ?_
    refine Tm.atEnd ?_
    refine Tm.ite (fun h12 => ?_) (fun h12 => ?_)
    ·try simp only [bz0, bz1, bz2, bz3, bz4, bz5, bz6, bz7, bz8, bz9, bza] at h12
     exact Tm.ret (by first | rfl | (exfalso; simp [Zi] at *))
    ·try simp only [bz0, bz1, bz2, bz3, bz4, bz5, bz6, bz7, bz8, bz9, bza] at h12
     try rw [ZC (x := i + 1) (by omega) (by omega)]
     exact hL _ (by (try simp only []); omega) (by (try simp only []); omega)
   ·try simp only [bz0, bz1, bz2, bz3, bz4, bz5, bz6, bz7, bz8, bz9, bza] at h2
    exact Tm.ret (by first | rfl | (exfalso; simp [Zi] at *))
theorem Ym.f_of {β : Type} {k : Nat} {a0 a1 : LD} {z0 : Bool} (h : Ym.t k a0 a1 = some z0) (K : Bool → Option β) : Ym.f k a0 a1 K = K z0 := by
 unfold Ym.f
 unfold Ym.w
 rw [h]
theorem Ym.tm {ι α : Type} {ok : ι → Prop} {ψ : α → Prop} {p : ι → Nat} {B : Nat} (hp : ∀ i, ok i → B ≤ p i) {a0 a1 : LD} {φ : Bool → Prop} (h : Tm (fun k => B ≤ k) (fun k => Ym.t k a0 a1) φ) {G : ι → Bool → Option α} (hG : ∀ z0, φ z0 → Tm ok (fun ι0 => G ι0 z0) ψ) : Tm ok (fun ι0 => Ym.f (p ι0) a0 a1 (G ι0)) ψ := by
 obtain ⟨z0, h1, h2⟩ := h
 exact (hG z0 h1).congr fun i0 hi0 => Ym.f_of (h2 (p i0) (hp i0 hi0)) _
theorem YJ.f_of {β : Type} {k : Nat} {aB : Int} {aA : BA} {aE : Int} {aD aG : LD} {aU : Int} {aV : BA} {aX : Int} {aY aZ : LD} {z0 : Bool} (h : YJ.t k aB aA aE aD aG aU aV aX aY aZ = some z0) (K : Bool → Option β) : YJ.f k aB aA aE aD aG aU aV aX aY aZ K = K z0 := by
 unfold YJ.f
 unfold YJ.w
 rw [h]
theorem YJ.tm {ι α : Type} {ok : ι → Prop} {ψ : α → Prop} {p : ι → Nat} {B : Nat} (hp : ∀ i, ok i → B ≤ p i) {aB : Int} {aA : BA} {aE : Int} {aD aG : LD} {aU : Int} {aV : BA} {aX : Int} {aY aZ : LD} {φ : Bool → Prop} (h : Tm (fun k => B ≤ k) (fun k => YJ.t k aB aA aE aD aG aU aV aX aY aZ) φ) {G : ι → Bool → Option α} (hG : ∀ z0, φ z0 → Tm ok (fun ι0 => G ι0 z0) ψ) : Tm ok (fun ι0 => YJ.f (p ι0) aB aA aE aD aG aU aV aX aY aZ (G ι0)) ψ := by
 obtain ⟨z0, h1, h2⟩ := h
 exact (hG z0 h1).congr fun i0 hi0 => YJ.f_of (h2 (p i0) (hp i0 hi0)) _
theorem eqVal {B : Nat} (hB : B ≤ 1099511627776) (n : Nat) : (∀ (a : LD), a.length ≤ B → (∀ x ∈ a, Yap B n x) → Tm (fun k => big + 2 * n + 1 ≤ k) (fun k => Ym.t k a a) (fun r => r = true)) ∧
  (∀ (c0 : Int) (c1 : BA) (c2 : Int) (c3 c4 : LD), c1.size ≤ B → Zm RS B c3 → c4.length ≤ B → (∀ x ∈ c4, Yap B n x) → Tm (fun k => big + 2 * n + 2 ≤ k) (fun k => YJ.t k c0 c1 c2 c3 c4 c0 c1 c2 c3 c4) (fun r => r = true)) := by
 have hb : big = 2 ^ 64 := rfl
 induction n using Nat.strongRecOn with
 | ind n ih =>
 have S : ∀ (a : LD), a.length ≤ B → (∀ x ∈ a, Yap B n x) → Tm (fun k => big + 2 * n + 1 ≤ k) (fun k => Ym.t k a a) (fun r => r = true) := by
  intro a hlen g
  refine Tm.succ (g := fun k => Ym.g k a a (fun z0 => some z0)) (fun k => Ym.t_succ k a a) ?_
  unfold Ym.g Ym.body
  refine Tm.ite (fun h3 => by simp at h3) (fun h3 => ?_)
  refine Tm.loop (okk := fun k => big + 2 * n ≤ k) (p := fun k => k) (fun i hi => by omega) (b := fun k => Ym.l0 k (Ym.f k) (YJ.f k) a a (fun z0 => some z0)) (fun i => (((a.length : Int)) - i).toNat) (fun i => 0 ≤ i ∧ i ≤ (a.length : Int)) ?_ ?_ ?_
  ·rintro i hI
   omega
  ·omega
  ·rintro i hI L hL
   obtain ⟨i0, i1⟩ := hI
   simp only [Ym.l0]
   refine Tm.ite (fun h4 => ?_) (fun h4 => ?_)
   ·simp only [decide_eq_true_eq] at h4
    refine Tm.atRow (by omega) (by omega) (fun x5 hx6 hm7 => ?_)
    obtain ⟨n', hn', c0, c1, c2, c3, c4, rfl, w0, g1, w2, g3, l4, g4⟩ : ∃ n', n = n' + 1 ∧ ∃ c0 c1 c2 c3 c4, x5 = [.int .i64 c0, .str c1, .int .i64 c2, .sl c3, .sl c4] ∧ (Lit.int .i64 c0).wf = true ∧ c1.size ≤ B ∧ (Lit.int .i64 c2).wf = true ∧ Zm RS B c3 ∧ c4.length ≤ B ∧ ∀ x ∈ c4, Yap B n' x := by
     have := g x5 hm7
     cases this with
     | mk c0 c1 c2 c3 c4 w0 g1 w2 g3 l4 g4 => exact ⟨_, rfl, _, _, _, _, _, rfl, w0, g1, w2, g3, l4, g4⟩
    refine Tm.uncons (Tm.dInt (Tm.uncons (Tm.dStr (Tm.uncons (Tm.dInt (Tm.uncons (Tm.dSl (Tm.uncons (Tm.dSl (Tm.atEnd ?_))))))))))
    refine Tm.atRow (by omega) (by omega) (fun x8 hx8 _ => ?_)
    rw [hx6] at hx8
    injection hx8 with hx8
    subst hx8
    refine Tm.uncons (Tm.dInt (Tm.uncons (Tm.dStr (Tm.uncons (Tm.dInt (Tm.uncons (Tm.dSl (Tm.uncons (Tm.dSl (Tm.atEnd ?_))))))))))
    refine YJ.tm (B := big + 2 * n' + 2) (fun i hi => by have := hi.1; omega) ((ih n' (by omega)).2 c0 c1 c2 c3 c4 g1 g3 l4 g4) (fun y hy => ?_)
    subst hy
    refine Tm.ite (fun h => by simp at h) (fun _ => ?_)
    rw [ZC (x := i + 1) (by omega) (by omega)]
    exact hL (i + 1) ⟨by omega, by omega⟩ (by omega)
   ·exact Tm.ret rfl
 refine ⟨S, ?_⟩
 intro c0 c1 c2 c3 c4 g1 g3 l4 g4
 refine Tm.succ (g := fun k => YJ.g k c0 c1 c2 c3 c4 c0 c1 c2 c3 c4 (fun z0 => some z0)) (fun k => YJ.t_succ k c0 c1 c2 c3 c4 c0 c1 c2 c3 c4) ?_
 unfold YJ.g YJ.body
 refine Tm.ite (fun h => by simp at h) (fun _ => ?_)
 refine Tm.ite (fun h => by simp [Zi] at h) (fun _ => ?_)
 refine Tm.ite (fun h => by simp at h) (fun _ => ?_)
 refine Ys.tm (B := big) (fun i hi => by omega) (Ys.T g3 hB) (fun y hy => ?_)
 subst hy
 refine Tm.ite (fun h => by simp at h) (fun _ => ?_)
 refine Ym.tm (B := big + 2 * n + 1) (fun i hi => hi) (S c4 l4 g4) (fun y' hy' => ?_)
 subst hy'
 exact Tm.ite (fun h => by simp at h) (fun _ => Tm.ret rfl)
theorem big_lv1e {n : Nat} (h : n ≤ 4398046511104) : big + n ≤ lv 1 := by
 have hb : big = 2 ^ 64 := rfl
 have : lv 1 = 2 ^ 65 := rfl
 omega
theorem YJ.T {B : Nat} {aB : Int} {aA : BA} {aE : Int} {aD aG : LD} (g1 : aA.size ≤ B) (g3 : Zm RS B aD) (g4 : Zm YQ B aG) (hB : B ≤ 1099511627776) : Tm (Zay 1) (fun k => YJ.t k aB aA aE aD aG aB aA aE aD aG) (fun r => r = true) := by
 have g' : ∀ x ∈ aG, Yap B 1099511627776 x := fun x hx => by
  obtain ⟨h, hh, hx⟩ := g4.2 x hx
  exact hx.mono (hh hB)
 exact ((eqVal hB 1099511627776).2 aB aA aE aD aG g1 g3 g4.1 g').up (big_lv1e (n := 2 * 1099511627776 + 2) (by omega))
theorem Yai.f_of {β : Type} {k : Nat} {aB : Int} {aA : BA} {aE aD aG : Int} {aT : Bool} {aM : LD} {aQ : Int} {aI : BA} {aR : Int} {aJ aN : LD} {aP : Int} {aK : BA} {aS : Int} {aL aO : LD} {aU : Int} {aV : BA} {aX aY aZ : Int} {bC : Bool} {bD : LD} {bE : Int} {bF : BA} {bG : Int} {bH bI : LD} {bJ : Int} {bK : BA} {bL : Int} {bM bN : LD} {z0 : Bool} (h : Yai.t k aB aA aE aD aG aT aM aQ aI aR aJ aN aP aK aS aL aO aU aV aX aY aZ bC bD bE bF bG bH bI bJ bK bL bM bN = some z0) (K : Bool → Option β) : Yai.f k aB aA aE aD aG aT aM aQ aI aR aJ aN aP aK aS aL aO aU aV aX aY aZ bC bD bE bF bG bH bI bJ bK bL bM bN K = K z0 := by
 unfold Yai.f
 rw [h]
theorem Yai.tm {ι α : Type} {ok : ι → Prop} {ψ : α → Prop} {p : ι → Nat} {B : Nat} (hp : ∀ i, ok i → B ≤ p i) {aB : Int} {aA : BA} {aE aD aG : Int} {aT : Bool} {aM : LD} {aQ : Int} {aI : BA} {aR : Int} {aJ aN : LD} {aP : Int} {aK : BA} {aS : Int} {aL aO : LD} {aU : Int} {aV : BA} {aX aY aZ : Int} {bC : Bool} {bD : LD} {bE : Int} {bF : BA} {bG : Int} {bH bI : LD} {bJ : Int} {bK : BA} {bL : Int} {bM bN : LD} {φ : Bool → Prop} (h : Tm (fun k => B ≤ k) (fun k => Yai.t k aB aA aE aD aG aT aM aQ aI aR aJ aN aP aK aS aL aO aU aV aX aY aZ bC bD bE bF bG bH bI bJ bK bL bM bN) φ) {G : ι → Bool → Option α} (hG : ∀ z0, φ z0 → Tm ok (fun ι0 => G ι0 z0) ψ) : Tm ok (fun ι0 => Yai.f (p ι0) aB aA aE aD aG aT aM aQ aI aR aJ aN aP aK aS aL aO aU aV aX aY aZ bC bD bE bF bG bH bI bJ bK bL bM bN (G ι0)) ψ := by
 obtain ⟨z0, h1, h2⟩ := h
 exact (hG z0 h1).congr fun i0 hi0 => Yai.f_of (h2 (p i0) (hp i0 hi0)) _
theorem Yai.T {B : Nat} {aB : Int} {aA : BA} {aE aD aG : Int} {aT : Bool} {aM : LD} {aQ : Int} {aI : BA} {aR : Int} {aJ aN : LD} {aP : Int} {aK : BA} {aS : Int} {aL aO : LD} (ga0_1 : aA.size ≤ B) (ga0_6 : Zm RS B aM) (ga0_8 : aI.size ≤ B) (ga0_10 : Zm RS B aJ) (ga0_11 : Zm YQ B aN) (ga0_13 : aK.size ≤ B) (ga0_15 : Zm RS B aL) (ga0_16 : Zm YQ B aO) (hB : B ≤ 1099511627776) : Tm (Zay 1) (fun k => Yai.t k aB aA aE aD aG aT aM aQ aI aR aJ aN aP aK aS aL aO aB aA aE aD aG aT aM aQ aI aR aJ aN aP aK aS aL aO) (fun r => r = true) := by
 unfold Yai.t Yai.g
 have hm := Za
 have hlim : lim = 1048576 := rfl
 refine Tm.ite (fun h1 => ?_) (fun h1 => ?_)
 ·try simp only [bz0, bz1, bz2, bz3, bz4, bz5, bz6, bz7, bz8, bz9, bza] at h1
  exact Tm.ret (by first | rfl | (exfalso; simp [Zi] at *))
 ·try simp only [bz0, bz1, bz2, bz3, bz4, bz5, bz6, bz7, bz8, bz9, bza] at h1
  refine Tm.ite (fun h2 => ?_) (fun h2 => ?_)
  ·try simp only [bz0, bz1, bz2, bz3, bz4, bz5, bz6, bz7, bz8, bz9, bza] at h2
   exact Tm.ret (by first | rfl | (exfalso; simp [Zi] at *))
  ·try simp only [bz0, bz1, bz2, bz3, bz4, bz5, bz6, bz7, bz8, bz9, bza] at h2
   refine Tm.ite (fun h3 => ?_) (fun h3 => ?_)
   ·try simp only [bz0, bz1, bz2, bz3, bz4, bz5, bz6, bz7, bz8, bz9, bza] at h3
    exact Tm.ret (by first | rfl | (exfalso; simp [Zi] at *))
   ·try simp only [bz0, bz1, bz2, bz3, bz4, bz5, bz6, bz7, bz8, bz9, bza] at h3
    refine Tm.ite (fun h4 => ?_) (fun h4 => ?_)
    ·try simp only [bz0, bz1, bz2, bz3, bz4, bz5, bz6, bz7, bz8, bz9, bza] at h4
     exact Tm.ret (by first | rfl | (exfalso; simp [Zi] at *))
    ·try simp only [bz0, bz1, bz2, bz3, bz4, bz5, bz6, bz7, bz8, bz9, bza] at h4
     refine Tm.ite (fun h5 => ?_) (fun h5 => ?_)
     ·try simp only [bz0, bz1, bz2, bz3, bz4, bz5, bz6, bz7, bz8, bz9, bza] at h5
      exact Tm.ret (by first | rfl | (exfalso; simp [Zi] at *))
     ·try simp only [bz0, bz1, bz2, bz3, bz4, bz5, bz6, bz7, bz8, bz9, bza] at h5
      refine Tm.ite (fun h6 => ?_) (fun h6 => ?_)
      ·try simp only [bz0, bz1, bz2, bz3, bz4, bz5, bz6, bz7, bz8, bz9, bza] at h6
       exact Tm.ret (by first | rfl | (exfalso; simp [Zi] at *))
      ·try simp only [bz0, bz1, bz2, bz3, bz4, bz5, bz6, bz7, bz8, bz9, bza] at h6
       refine Ys.tm (fun i hi => up0 hi) (Ys.T (by first | assumption | omega) (by first | assumption | omega)) (fun y8 hy7 => ?_)
       subst hy7
       refine Tm.ite (fun h9 => ?_) (fun h9 => ?_)
       ·try simp only [bz0, bz1, bz2, bz3, bz4, bz5, bz6, bz7, bz8, bz9, bza] at h9
        exact Tm.ret (by first | rfl | (exfalso; simp [Zi] at *))
       ·try simp only [bz0, bz1, bz2, bz3, bz4, bz5, bz6, bz7, bz8, bz9, bza] at h9
        refine YJ.tm (fun i hi => hi) (YJ.T (by first | assumption | omega) (by first | assumption | omega) (by first | assumption | omega) (by first | assumption | omega)) (fun y11 hy10 => ?_)
        subst hy10
        refine Tm.ite (fun h12 => ?_) (fun h12 => ?_)
        ·try simp only [bz0, bz1, bz2, bz3, bz4, bz5, bz6, bz7, bz8, bz9, bza] at h12
         exact Tm.ret (by first | rfl | (exfalso; simp [Zi] at *))
        ·try simp only [bz0, bz1, bz2, bz3, bz4, bz5, bz6, bz7, bz8, bz9, bza] at h12
         refine YJ.tm (fun i hi => hi) (YJ.T (by first | assumption | omega) (by first | assumption | omega) (by first | assumption | omega) (by first | assumption | omega)) (fun y14 hy13 => ?_)
         subst hy13
         refine Tm.ite (fun h15 => ?_) (fun h15 => ?_)
         ·try simp only [bz0, bz1, bz2, bz3, bz4, bz5, bz6, bz7, bz8, bz9, bza] at h15
          exact Tm.ret (by first | rfl | (exfalso; simp [Zi] at *))
         ·try simp only [bz0, bz1, bz2, bz3, bz4, bz5, bz6, bz7, bz8, bz9, bza] at h15
          exact Tm.ret (by first | rfl | (exfalso; simp [Zi] at *))
theorem YM.f_of {β : Type} {k : Nat} {a0 a1 : LD} {z0 : Bool} (h : YM.t k a0 a1 = some z0) (K : Bool → Option β) : YM.f k a0 a1 K = K z0 := by
 unfold YM.f
 rw [h]
theorem YM.tm {ι α : Type} {ok : ι → Prop} {ψ : α → Prop} {p : ι → Nat} {B : Nat} (hp : ∀ i, ok i → B ≤ p i) {a0 a1 : LD} {φ : Bool → Prop} (h : Tm (fun k => B ≤ k) (fun k => YM.t k a0 a1) φ) {G : ι → Bool → Option α} (hG : ∀ z0, φ z0 → Tm ok (fun ι0 => G ι0 z0) ψ) : Tm ok (fun ι0 => YM.f (p ι0) a0 a1 (G ι0)) ψ := by
 obtain ⟨z0, h1, h2⟩ := h
 exact (hG z0 h1).congr fun i0 hi0 => YM.f_of (h2 (p i0) (hp i0 hi0)) _
theorem YM.T {B : Nat} {a0 : LD} (ga0 : Zm Yb B a0) (hB : B ≤ 1099511627776) : Tm (Zay 1) (fun k => YM.t k a0 a0) (fun r => r = true) := by
 unfold YM.t YM.g
 have hm := Za
 have hlim : lim = 1048576 := rfl
 have hlen := ga0.1
 refine Tm.ite (fun h1 => ?_) (fun h1 => ?_)
 ·try simp only [bz0, bz1, bz2, bz3, bz4, bz5, bz6, bz7, bz8, bz9, bza] at h1
  exact Tm.ret (by first | rfl | (exfalso; simp [Zi] at *))
 ·try simp only [bz0, bz1, bz2, bz3, bz4, bz5, bz6, bz7, bz8, bz9, bza] at h1
  refine Tm.loop (okk := (Zay 1)) (p := fun k => k) (fun i hi => up0 hi) (b := fun k => YM.l0 k a0 a0 (fun z0 => some z0)) (fun i => (((a0.length : Int)) - i).toNat) (fun i => 0 ≤ i ∧ i ≤ (a0.length : Int)) ?_ ?_ ?_
  ·rintro i hI
   try simp only [] at hI ⊢
   have : big = 2 ^ 64 := rfl
   have := ga0.1
   omega
  ·((try simp only []); omega)
  ·rintro i hI L hL
   try simp only [] at hI
   obtain ⟨i0, i1⟩ := hI
   simp only [YM.l0]
   refine Tm.ite (fun h2 => ?_) (fun h2 => ?_)
   ·try simp only [bz0, bz1, bz2, bz3, bz4, bz5, bz6, bz7, bz8, bz9, bza] at h2
    refine Tm.atRow (by first | assumption | omega) (by first | assumption | omega) (fun x3 hx4 hm5 => ?_)
    obtain ⟨c6, c7, c8, c9, c10, c11, c12, c13, c14, c15, c16, c17, c18, c19, c20, c21, c22, rfl, g23, g24, g25, g26, g27, g28, g29, g30, g31, g32, g33, g34, g35, g36, g37, g38, _⟩ := (ga0.2 x3 hm5).open
    refine Tm.uncons ?_
    refine Tm.dInt ?_
    refine Tm.uncons ?_
    refine Tm.dStr ?_
    refine Tm.uncons ?_
    refine Tm.dInt ?_
    refine Tm.uncons ?_
    refine Tm.dInt ?_
    refine Tm.uncons ?_
    refine Tm.dInt ?_
    refine Tm.uncons ?_
    refine Tm.dBool ?_
    refine Tm.uncons ?_
    refine Tm.dSl ?_
    refine Tm.uncons ?_
    refine Tm.dInt ?_
    refine Tm.uncons ?_
    refine Tm.dStr ?_
    refine Tm.uncons ?_
    refine Tm.dInt ?_
    refine Tm.uncons ?_
    refine Tm.dSl ?_
    refine Tm.uncons ?_
    refine Tm.dSl ?_
    refine Tm.uncons ?_
    refine Tm.dInt ?_
    refine Tm.uncons ?_
    refine Tm.dStr ?_
    refine Tm.uncons ?_
    refine Tm.dInt ?_
    refine Tm.uncons ?_
    refine Tm.dSl ?_
    refine Tm.uncons ?_
    refine Tm.dSl ?_
    refine Tm.atEnd ?_
    refine Tm.atRow (by first | assumption | omega) (by first | assumption | omega) (fun x39 hx40 hm41 => ?_)
    rw [hx4] at hx40
    injection hx40 with hx40
    subst hx40
    refine Tm.uncons ?_
    refine Tm.dInt ?_
    refine Tm.uncons ?_
    refine Tm.dStr ?_
    refine Tm.uncons ?_
    refine Tm.dInt ?_
    refine Tm.uncons ?_
    refine Tm.dInt ?_
    refine Tm.uncons ?_
    refine Tm.dInt ?_
    refine Tm.uncons ?_
    refine Tm.dBool ?_
    refine Tm.uncons ?_
    refine Tm.dSl ?_
    refine Tm.uncons ?_
    refine Tm.dInt ?_
    refine Tm.uncons ?_
    refine Tm.dStr ?_
    refine Tm.uncons ?_
    refine Tm.dInt ?_
    refine Tm.uncons ?_
    refine Tm.dSl ?_
    refine Tm.uncons ?_
    refine Tm.dSl ?_
    refine Tm.uncons ?_
    refine Tm.dInt ?_
    refine Tm.uncons ?_
    refine Tm.dStr ?_
    refine Tm.uncons ?_
    refine Tm.dInt ?_
    refine Tm.uncons ?_
    refine Tm.dSl ?_
    refine Tm.uncons ?_
    refine Tm.dSl ?_
    refine Tm.atEnd ?_
    refine Yai.tm (fun i hi => hi.1) (Yai.T (by first | assumption | omega) (by first | assumption | omega) (by first | assumption | omega) (by first | assumption | omega) (by first | assumption | omega) (by first | assumption | omega) (by first | assumption | omega) (by first | assumption | omega) (by first | assumption | omega)) (fun y60 hy59 => ?_)
    subst hy59
    refine Tm.ite (fun h61 => ?_) (fun h61 => ?_)
    ·try simp only [bz0, bz1, bz2, bz3, bz4, bz5, bz6, bz7, bz8, bz9, bza] at h61
     exact Tm.ret (by first | rfl | (exfalso; simp [Zi] at *))
    ·try simp only [bz0, bz1, bz2, bz3, bz4, bz5, bz6, bz7, bz8, bz9, bza] at h61
     try rw [ZC (x := i + 1) (by omega) (by omega)]
     exact hL _ (by (try simp only []); omega) (by (try simp only []); omega)
   ·try simp only [bz0, bz1, bz2, bz3, bz4, bz5, bz6, bz7, bz8, bz9, bza] at h2
    exact Tm.ret (by first | rfl | (exfalso; simp [Zi] at *))
theorem YZ.f_of {β : Type} {k : Nat} {aB : Int} {aA : LD} {aU : Int} {aV : LD} {z0 : Bool} (h : YZ.t k aB aA aU aV = some z0) (K : Bool → Option β) : YZ.f k aB aA aU aV K = K z0 := by
 unfold YZ.f
 rw [h]
theorem YZ.tm {ι α : Type} {ok : ι → Prop} {ψ : α → Prop} {p : ι → Nat} {B : Nat} (hp : ∀ i, ok i → B ≤ p i) {aB : Int} {aA : LD} {aU : Int} {aV : LD} {φ : Bool → Prop} (h : Tm (fun k => B ≤ k) (fun k => YZ.t k aB aA aU aV) φ) {G : ι → Bool → Option α} (hG : ∀ z0, φ z0 → Tm ok (fun ι0 => G ι0 z0) ψ) : Tm ok (fun ι0 => YZ.f (p ι0) aB aA aU aV (G ι0)) ψ := by
 obtain ⟨z0, h1, h2⟩ := h
 exact (hG z0 h1).congr fun i0 hi0 => YZ.f_of (h2 (p i0) (hp i0 hi0)) _
theorem YZ.T {B : Nat} {aB : Int} {aA : LD} (ga0_1 : Zm Yb B aA) (hB : B ≤ 1099511627776) : Tm (Zay 1) (fun k => YZ.t k aB aA aB aA) (fun r => r = true) := by
 unfold YZ.t YZ.g
 have hm := Za
 have hlim : lim = 1048576 := rfl
 refine Tm.ite (fun h1 => ?_) (fun h1 => ?_)
 ·try simp only [bz0, bz1, bz2, bz3, bz4, bz5, bz6, bz7, bz8, bz9, bza] at h1
  exact Tm.ret (by first | rfl | (exfalso; simp [Zi] at *))
 ·try simp only [bz0, bz1, bz2, bz3, bz4, bz5, bz6, bz7, bz8, bz9, bza] at h1
  refine YM.tm (fun i hi => hi) (YM.T (by first | assumption | omega) (by first | assumption | omega)) (fun y3 hy2 => ?_)
  subst hy2
  refine Tm.ite (fun h4 => ?_) (fun h4 => ?_)
  ·try simp only [bz0, bz1, bz2, bz3, bz4, bz5, bz6, bz7, bz8, bz9, bza] at h4
   exact Tm.ret (by first | rfl | (exfalso; simp [Zi] at *))
  ·try simp only [bz0, bz1, bz2, bz3, bz4, bz5, bz6, bz7, bz8, bz9, bza] at h4
   exact Tm.ret (by first | rfl | (exfalso; simp [Zi] at *))
theorem Y6.f_of {β : Type} {k : Nat} {aB : Int} {aA : Bool} {aE : Int} {aD : BA} {aG aT aM : Int} {aQ : Bool} {aI : LD} {aR : Int} {aJ : BA} {aN : Int} {aP aK : LD} {aS : Int} {aL : BA} {aO : Int} {bO bP : LD} {aU : Int} {aV : Bool} {aX : Int} {aY : BA} {aZ bC bD : Int} {bE : Bool} {bF : LD} {bG : Int} {bH : BA} {bI : Int} {bJ bK : LD} {bL : Int} {bM : BA} {bN : Int} {a1_17 a1_18 : LD} {z0 : Bool} (h : Y6.t k aB aA aE aD aG aT aM aQ aI aR aJ aN aP aK aS aL aO bO bP aU aV aX aY aZ bC bD bE bF bG bH bI bJ bK bL bM bN a1_17 a1_18 = some z0) (K : Bool → Option β) : Y6.f k aB aA aE aD aG aT aM aQ aI aR aJ aN aP aK aS aL aO bO bP aU aV aX aY aZ bC bD bE bF bG bH bI bJ bK bL bM bN a1_17 a1_18 K = K z0 := by
 unfold Y6.f
 rw [h]
theorem Y6.tm {ι α : Type} {ok : ι → Prop} {ψ : α → Prop} {p : ι → Nat} {B : Nat} (hp : ∀ i, ok i → B ≤ p i) {aB : Int} {aA : Bool} {aE : Int} {aD : BA} {aG aT aM : Int} {aQ : Bool} {aI : LD} {aR : Int} {aJ : BA} {aN : Int} {aP aK : LD} {aS : Int} {aL : BA} {aO : Int} {bO bP : LD} {aU : Int} {aV : Bool} {aX : Int} {aY : BA} {aZ bC bD : Int} {bE : Bool} {bF : LD} {bG : Int} {bH : BA} {bI : Int} {bJ bK : LD} {bL : Int} {bM : BA} {bN : Int} {a1_17 a1_18 : LD} {φ : Bool → Prop} (h : Tm (fun k => B ≤ k) (fun k => Y6.t k aB aA aE aD aG aT aM aQ aI aR aJ aN aP aK aS aL aO bO bP aU aV aX aY aZ bC bD bE bF bG bH bI bJ bK bL bM bN a1_17 a1_18) φ) {G : ι → Bool → Option α} (hG : ∀ z0, φ z0 → Tm ok (fun ι0 => G ι0 z0) ψ) : Tm ok (fun ι0 => Y6.f (p ι0) aB aA aE aD aG aT aM aQ aI aR aJ aN aP aK aS aL aO bO bP aU aV aX aY aZ bC bD bE bF bG bH bI bJ bK bL bM bN a1_17 a1_18 (G ι0)) ψ := by
 obtain ⟨z0, h1, h2⟩ := h
 exact (hG z0 h1).congr fun i0 hi0 => Y6.f_of (h2 (p i0) (hp i0 hi0)) _
theorem Y6.T {B : Nat} {aB : Int} {aA : Bool} {aE : Int} {aD : BA} {aG aT aM : Int} {aQ : Bool} {aI : LD} {aR : Int} {aJ : BA} {aN : Int} {aP aK : LD} {aS : Int} {aL : BA} {aO : Int} {bO bP : LD} (ga0_3 : aD.size ≤ B) (ga0_8 : Zm RS B aI) (ga0_10 : aJ.size ≤ B) (ga0_12 : Zm RS B aP) (ga0_13 : Zm YQ B aK) (ga0_15 : aL.size ≤ B) (ga0_17 : Zm RS B bO) (ga0_18 : Zm YQ B bP) (hB : B ≤ 1099511627776) : Tm (Zay 1) (fun k => Y6.t k aB aA aE aD aG aT aM aQ aI aR aJ aN aP aK aS aL aO bO bP aB aA aE aD aG aT aM aQ aI aR aJ aN aP aK aS aL aO bO bP) (fun r => r = true) := by
 unfold Y6.t Y6.g
 have hm := Za
 have hlim : lim = 1048576 := rfl
 refine Tm.ite (fun h1 => ?_) (fun h1 => ?_)
 ·try simp only [bz0, bz1, bz2, bz3, bz4, bz5, bz6, bz7, bz8, bz9, bza] at h1
  exact Tm.ret (by first | rfl | (exfalso; simp [Zi] at *))
 ·try simp only [bz0, bz1, bz2, bz3, bz4, bz5, bz6, bz7, bz8, bz9, bza] at h1
  refine Tm.ite (fun h2 => ?_) (fun h2 => ?_)
  ·try simp only [bz0, bz1, bz2, bz3, bz4, bz5, bz6, bz7, bz8, bz9, bza] at h2
   exact Tm.ret (by first | rfl | (exfalso; simp [Zi] at *))
  ·try simp only [bz0, bz1, bz2, bz3, bz4, bz5, bz6, bz7, bz8, bz9, bza] at h2
   refine Yai.tm (fun i hi => hi) (Yai.T (by first | assumption | omega) (by first | assumption | omega) (by first | assumption | omega) (by first | assumption | omega) (by first | assumption | omega) (by first | assumption | omega) (by first | assumption | omega) (by first | assumption | omega) (by first | assumption | omega)) (fun y4 hy3 => ?_)
   subst hy3
   refine Tm.ite (fun h5 => ?_) (fun h5 => ?_)
   ·try simp only [bz0, bz1, bz2, bz3, bz4, bz5, bz6, bz7, bz8, bz9, bza] at h5
    exact Tm.ret (by first | rfl | (exfalso; simp [Zi] at *))
   ·try simp only [bz0, bz1, bz2, bz3, bz4, bz5, bz6, bz7, bz8, bz9, bza] at h5
    exact Tm.ret (by first | rfl | (exfalso; simp [Zi] at *))
theorem Yx.f_of {β : Type} {k : Nat} {a0 a1 : LD} {z0 : Bool} (h : Yx.t k a0 a1 = some z0) (K : Bool → Option β) : Yx.f k a0 a1 K = K z0 := by
 unfold Yx.f
 rw [h]
theorem Yx.tm {ι α : Type} {ok : ι → Prop} {ψ : α → Prop} {p : ι → Nat} {B : Nat} (hp : ∀ i, ok i → B ≤ p i) {a0 a1 : LD} {φ : Bool → Prop} (h : Tm (fun k => B ≤ k) (fun k => Yx.t k a0 a1) φ) {G : ι → Bool → Option α} (hG : ∀ z0, φ z0 → Tm ok (fun ι0 => G ι0 z0) ψ) : Tm ok (fun ι0 => Yx.f (p ι0) a0 a1 (G ι0)) ψ := by
 obtain ⟨z0, h1, h2⟩ := h
 exact (hG z0 h1).congr fun i0 hi0 => Yx.f_of (h2 (p i0) (hp i0 hi0)) _
theorem Yx.T {B : Nat} {a0 : LD} (ga0 : Zm Yc B a0) (hB : B ≤ 1099511627776) : Tm (Zay 1) (fun k => Yx.t k a0 a0) (fun r => r = true) := by
 unfold Yx.t Yx.g
 have hm := Za
 have hlim : lim = 1048576 := rfl
 have hlen := ga0.1
 refine Tm.ite (fun h1 => ?_) (fun h1 => ?_)
 ·try simp only [bz0, bz1, bz2, bz3, bz4, bz5, bz6, bz7, bz8, bz9, bza] at h1
  exact Tm.ret (by first | rfl | (exfalso; simp [Zi] at *))
 ·try simp only [bz0, bz1, bz2, bz3, bz4, bz5, bz6, bz7, bz8, bz9, bza] at h1
  refine Tm.loop (okk := (Zay 1)) (p := fun k => k) (fun i hi => up0 hi) (b := fun k => Yx.l0 k a0 a0 (fun z0 => some z0)) (fun i => (((a0.length : Int)) - i).toNat) (fun i => 0 ≤ i ∧ i ≤ (a0.length : Int)) ?_ ?_ ?_
  ·rintro i hI
   try simp only [] at hI ⊢
   have : big = 2 ^ 64 := rfl
   have := ga0.1
   omega
  ·((try simp only []); omega)
  ·rintro i hI L hL
   try simp only [] at hI
   obtain ⟨i0, i1⟩ := hI
   simp only [Yx.l0]
   refine Tm.ite (fun h2 => ?_) (fun h2 => ?_)
   ·try simp only [bz0, bz1, bz2, bz3, bz4, bz5, bz6, bz7, bz8, bz9, bza] at h2
    refine Tm.atRow (by first | assumption | omega) (by first | assumption | omega) (fun x3 hx4 hm5 => ?_)
    obtain ⟨c6, c7, c8, c9, c10, c11, c12, c13, c14, c15, c16, c17, c18, c19, c20, c21, c22, c23, c24, rfl, g25, g26, g27, g28, g29, g30, g31, g32, g33, g34, g35, g36, g37, g38, g39, g40, g41, _⟩ := (ga0.2 x3 hm5).open
    refine Tm.uncons ?_
    refine Tm.dInt ?_
    refine Tm.uncons ?_
    refine Tm.dBool ?_
    refine Tm.uncons ?_
    refine Tm.dInt ?_
    refine Tm.uncons ?_
    refine Tm.dStr ?_
    refine Tm.uncons ?_
    refine Tm.dInt ?_
    refine Tm.uncons ?_
    refine Tm.dInt ?_
    refine Tm.uncons ?_
    refine Tm.dInt ?_
    refine Tm.uncons ?_
    refine Tm.dBool ?_
    refine Tm.uncons ?_
    refine Tm.dSl ?_
    refine Tm.uncons ?_
    refine Tm.dInt ?_
    refine Tm.uncons ?_
    refine Tm.dStr ?_
    refine Tm.uncons ?_
    refine Tm.dInt ?_
    refine Tm.uncons ?_
    refine Tm.dSl ?_
    refine Tm.uncons ?_
    refine Tm.dSl ?_
    refine Tm.uncons ?_
    refine Tm.dInt ?_
    refine Tm.uncons ?_
    refine Tm.dStr ?_
    refine Tm.uncons ?_
    refine Tm.dInt ?_
    refine Tm.uncons ?_
    refine Tm.dSl ?_
    refine Tm.uncons ?_
    refine Tm.dSl ?_
    refine Tm.atEnd ?_
    refine Tm.atRow (by first | assumption | omega) (by first | assumption | omega) (fun x42 hx43 hm44 => ?_)
    rw [hx4] at hx43
    injection hx43 with hx43
    subst hx43
    refine Tm.uncons ?_
    refine Tm.dInt ?_
    refine Tm.uncons ?_
    refine Tm.dBool ?_
    refine Tm.uncons ?_
    refine Tm.dInt ?_
    refine Tm.uncons ?_
    refine Tm.dStr ?_
    refine Tm.uncons ?_
    refine Tm.dInt ?_
    refine Tm.uncons ?_
    refine Tm.dInt ?_
    refine Tm.uncons ?_
    refine Tm.dInt ?_
    refine Tm.uncons ?_
    refine Tm.dBool ?_
    refine Tm.uncons ?_
    refine Tm.dSl ?_
    refine Tm.uncons ?_
    refine Tm.dInt ?_
    refine Tm.uncons ?_
    refine Tm.dStr ?_
    refine Tm.uncons ?_
    refine Tm.dInt ?_
    refine Tm.uncons ?_
    refine Tm.dSl ?_
    refine Tm.uncons ?_
    refine Tm.dSl ?_
    refine Tm.uncons ?_
    refine Tm.dInt ?_
    refine Tm.uncons ?_
    refine Tm.dStr ?_
    refine Tm.uncons ?_
    refine Tm.dInt ?_
    refine Tm.uncons ?_
    refine Tm.dSl ?_
    refine Tm.uncons ?_
    refine Tm.dSl ?_
    refine Tm.atEnd ?_
    refine Y6.tm (fun i hi => hi.1) (Y6.T (by first | assumption | omega) (by first | assumption | omega) (by first | assumption | omega) (by first | assumption | omega) (by first | assumption | omega) (by first | assumption | omega) (by first | assumption | omega) (by first | assumption | omega) (by first | assumption | omega)) (fun y65 hy64 => ?_)
    subst hy64
    refine Tm.ite (fun h66 => ?_) (fun h66 => ?_)
    ·try simp only [bz0, bz1, bz2, bz3, bz4, bz5, bz6, bz7, bz8, bz9, bza] at h66
     exact Tm.ret (by first | rfl | (exfalso; simp [Zi] at *))
    ·try simp only [bz0, bz1, bz2, bz3, bz4, bz5, bz6, bz7, bz8, bz9, bza] at h66
     try rw [ZC (x := i + 1) (by omega) (by omega)]
     exact hL _ (by (try simp only []); omega) (by (try simp only []); omega)
   ·try simp only [bz0, bz1, bz2, bz3, bz4, bz5, bz6, bz7, bz8, bz9, bza] at h2
    exact Tm.ret (by first | rfl | (exfalso; simp [Zi] at *))
theorem Yad.f_of {β : Type} {k : Nat} {aB : LD} {aA aE : Int} {aD aU : LD} {aV aX : Int} {aY : LD} {z0 : Bool} (h : Yad.t k aB aA aE aD aU aV aX aY = some z0) (K : Bool → Option β) : Yad.f k aB aA aE aD aU aV aX aY K = K z0 := by
 unfold Yad.f
 rw [h]
theorem Yad.tm {ι α : Type} {ok : ι → Prop} {ψ : α → Prop} {p : ι → Nat} {B : Nat} (hp : ∀ i, ok i → B ≤ p i) {aB : LD} {aA aE : Int} {aD aU : LD} {aV aX : Int} {aY : LD} {φ : Bool → Prop} (h : Tm (fun k => B ≤ k) (fun k => Yad.t k aB aA aE aD aU aV aX aY) φ) {G : ι → Bool → Option α} (hG : ∀ z0, φ z0 → Tm ok (fun ι0 => G ι0 z0) ψ) : Tm ok (fun ι0 => Yad.f (p ι0) aB aA aE aD aU aV aX aY (G ι0)) ψ := by
 obtain ⟨z0, h1, h2⟩ := h
 exact (hG z0 h1).congr fun i0 hi0 => Yad.f_of (h2 (p i0) (hp i0 hi0)) _
theorem Yad.T {B : Nat} {aB : LD} {aA aE : Int} {aD : LD} (ga0_0 : Zm Yb B aB) (ga0_3 : Zm Yc B aD) (hB : B ≤ 1099511627776) : Tm (Zay 1) (fun k => Yad.t k aB aA aE aD aB aA aE aD) (fun r => r = true) := by
 unfold Yad.t Yad.g
 have hm := Za
 have hlim : lim = 1048576 := rfl
 refine YM.tm (fun i hi => hi) (YM.T (by first | assumption | omega) (by first | assumption | omega)) (fun y2 hy1 => ?_)
 subst hy1
 refine Tm.ite (fun h3 => ?_) (fun h3 => ?_)
 ·try simp only [bz0, bz1, bz2, bz3, bz4, bz5, bz6, bz7, bz8, bz9, bza] at h3
  exact Tm.ret (by first | rfl | (exfalso; simp [Zi] at *))
 ·try simp only [bz0, bz1, bz2, bz3, bz4, bz5, bz6, bz7, bz8, bz9, bza] at h3
  refine Tm.ite (fun h4 => ?_) (fun h4 => ?_)
  ·try simp only [bz0, bz1, bz2, bz3, bz4, bz5, bz6, bz7, bz8, bz9, bza] at h4
   exact Tm.ret (by first | rfl | (exfalso; simp [Zi] at *))
  ·try simp only [bz0, bz1, bz2, bz3, bz4, bz5, bz6, bz7, bz8, bz9, bza] at h4
   refine Tm.ite (fun h5 => ?_) (fun h5 => ?_)
   ·try simp only [bz0, bz1, bz2, bz3, bz4, bz5, bz6, bz7, bz8, bz9, bza] at h5
    exact Tm.ret (by first | rfl | (exfalso; simp [Zi] at *))
   ·try simp only [bz0, bz1, bz2, bz3, bz4, bz5, bz6, bz7, bz8, bz9, bza] at h5
    refine Yx.tm (fun i hi => hi) (Yx.T (by first | assumption | omega) (by first | assumption | omega)) (fun y7 hy6 => ?_)
    subst hy6
    refine Tm.ite (fun h8 => ?_) (fun h8 => ?_)
    ·try simp only [bz0, bz1, bz2, bz3, bz4, bz5, bz6, bz7, bz8, bz9, bza] at h8
     exact Tm.ret (by first | rfl | (exfalso; simp [Zi] at *))
    ·try simp only [bz0, bz1, bz2, bz3, bz4, bz5, bz6, bz7, bz8, bz9, bza] at h8
     exact Tm.ret (by first | rfl | (exfalso; simp [Zi] at *))
theorem Ye.f_of {β : Type} {k : Nat} {a0 : Int} {z0 : BA} (h : Ye.t k a0 = some z0) (K : BA → Option β) : Ye.f k a0 K = K z0 := by
 unfold Ye.f
 rw [h]
theorem Ye.tm {ι α : Type} {ok : ι → Prop} {ψ : α → Prop} {p : ι → Nat} {B : Nat} (hp : ∀ i, ok i → B ≤ p i) {a0 : Int} {φ : BA → Prop} (h : Tm (fun k => B ≤ k) (fun k => Ye.t k a0) φ) {G : ι → BA → Option α} (hG : ∀ z0, φ z0 → Tm ok (fun ι0 => G ι0 z0) ψ) : Tm ok (fun ι0 => Ye.f (p ι0) a0 (G ι0)) ψ := by
 obtain ⟨z0, h1, h2⟩ := h
 exact (hG z0 h1).congr fun i0 hi0 => Ye.f_of (h2 (p i0) (hp i0 hi0)) _
end Go.Proofs.Ytljkbknnnpjmgaa
