/- That a printed function comes to its end: a value that is the same for all fuel from some on. -/
import Derived.Test.YtljkbknnnpjmgaaTFrame
set_option linter.unusedVariables false
set_option linter.unusedSimpArgs false
namespace Go.T
theorem bz0 {p : Prop} [Decidable p] : (decide p = true) = p := decide_eq_true_eq
theorem bz1 {p : Prop} [Decidable p] : decide p = false ↔ ¬ p := decide_eq_false_iff_not
theorem bz2 {a b : Int} : ¬ a < b ↔ b ≤ a := Int.not_lt
theorem bz3 {a b : Int} : ¬ a ≤ b ↔ b < a := Int.not_le
theorem bz4 {α : Type} [BEq α] [LawfulBEq α] {a b : α} : (a != b) = true ↔ ¬ a = b := bne_iff_ne
theorem bz5 {α : Type} (a b : α) : (a ≠ b) = ¬ a = b := rfl
theorem bz6 {α : Type} [BEq α] [LawfulBEq α] {a b : α} : (a != b) = false ↔ a = b := bne_eq_false_iff_eq
theorem bz7 {α : Type} [BEq α] [LawfulBEq α] {a b : α} : (a == b) = true ↔ a = b := beq_iff_eq
theorem bz8 {α : Type} [BEq α] [LawfulBEq α] {a b : α} : (a == b) = false ↔ ¬ a = b := beq_eq_false_iff_ne
theorem bz9 (b : Bool) : ((!b) = true) = (b = false) := Bool.not_eq_true' b
theorem bza (b : Bool) : ((!b) = false) = (b = true) := Bool.not_eq_false' b
def big : Nat := 2 ^ 64
def lv (n : Nat) : Nat := 2 ^ (64 + n)
theorem lv_le {m n : Nat} (h : m ≤ n) : lv m ≤ lv n := Nat.pow_le_pow_right (by decide) (by omega)
theorem up0 {n k : Nat} (h : lv n ≤ k) : big ≤ k := Nat.le_trans (lv_le (Nat.zero_le n) : lv 0 ≤ lv n) h
def Tm {ι α : Type} (ok : ι → Prop) (F : ι → Option α) (φ : α → Prop) : Prop := ∃ v, φ v ∧ ∀ i, ok i → F i = some v
abbrev Zar : Nat → Prop := fun k => big ≤ k
abbrev Zay (n : Nat) : Nat → Prop := fun k => lv n ≤ k
section
variable {ι α : Type} {ok : ι → Prop} {ψ : α → Prop}
theorem Tm.ret {v : α} (h : ψ v) : Tm ok (fun _ => some v) ψ := ⟨v, h, fun _ _ => rfl⟩
theorem Tm.mono {F : ι → Option α} {φ : α → Prop} (h : Tm ok F φ) (hi : ∀ v, φ v → ψ v) : Tm ok F ψ := by
 obtain ⟨v, h1, h2⟩ := h
 exact ⟨v, hi v h1, h2⟩
theorem Tm.congr {F G : ι → Option α} (h : Tm ok G ψ) (e : ∀ i, ok i → F i = G i) : Tm ok F ψ := by
 obtain ⟨v, h1, h2⟩ := h
 exact ⟨v, h1, fun i hi => (e i hi).trans (h2 i hi)⟩
theorem Tm.ite {c : Bool} {F G : ι → Option α} (h1 : c = true → Tm ok F ψ) (h2 : c = false → Tm ok G ψ) : Tm ok (fun i => bif c then F i else G i) ψ := by
 cases c with
 | true => exact h1 rfl
 | false => exact h2 rfl
theorem Tm.guard {c : Prop} [Decidable c] {F : ι → Option α} (hc : c) (h : Tm ok F ψ) : Tm ok (fun i => ZH c (F i)) ψ := by
 simp only [ZH, if_pos hc]
 exact h
theorem Tm.uncons {γ : Type} {x : γ} {l : List γ} {F : ι → γ → List γ → Option α} (h : Tm ok (fun i => F i x l) ψ) : Tm ok (fun i => Zd (x :: l) (F i)) ψ := h
theorem Tm.atEnd {γ : Type} {F : ι → Option α} (h : Tm ok F ψ) : Tm ok (fun i => Ze ([] : List γ) (F i)) ψ := h
theorem Tm.dStr {s : ByteArray} {F : ι → ByteArray → Option α} (h : Tm ok (fun i => F i s) ψ) : Tm ok (fun i => Zan (.str s) (F i)) ψ := h
theorem Tm.dBool {s : Bool} {F : ι → Bool → Option α} (h : Tm ok (fun i => F i s) ψ) : Tm ok (fun i => ZaF (.bool s) (F i)) ψ := h
theorem Tm.dSl {s : List (List D)} {F : ι → List (List D) → Option α} (h : Tm ok (fun i => F i s) ψ) : Tm ok (fun i => dSl (.sl s) (F i)) ψ := h
theorem Tm.dInt {q : IntKind} {s : Int} {F : ι → Int → Option α} (h : Tm ok (fun i => F i s) ψ) : Tm ok (fun i => ZM q (.int q s) (F i)) ψ := by
 simp only [Go.T.ZM, if_true]
 exact h
theorem Tm.cD {x : D} {F : ι → D → Option α} (h : Tm ok (fun i => F i x) ψ) : Tm ok (fun i => cD (.d x) (F i)) ψ := h
theorem Tm.cOwn {x : List (List C)} {F : ι → List (List C) → Option α} (h : Tm ok (fun i => F i x) ψ) : Tm ok (fun i => ZaU (.own x) (F i)) ψ := h
theorem Tm.atRow {γ : Type} {xs : List γ} {j : Int} {F : ι → γ → Option α} (h0 : 0 ≤ j) (h1 : j < xs.length) (h : ∀ x, xs[j.toNat]? = some x → x ∈ xs → Tm ok (fun i => F i x) ψ) : Tm ok (fun i => ZX xs j (F i)) ψ := by
 have hl : j.toNat < xs.length := by omega
 have e : xs[j.toNat]? = some xs[j.toNat] := by simp [hl]
 refine (h _ e (List.getElem_mem hl)).congr fun i _ => ?_
 simp only [Go.T.ZX, if_pos h0, atNat, e]
theorem Tm.atNat {γ : Type} {xs : List γ} {j : Nat} {F : ι → γ → Option α} (h1 : j < xs.length) (h : ∀ x, xs[j]? = some x → x ∈ xs → Tm ok (fun i => F i x) ψ) : Tm ok (fun i => atNat xs j (F i)) ψ := by
 have e : xs[j]? = some xs[j] := by simp [h1]
 refine (h _ e (List.getElem_mem h1)).congr fun i _ => ?_
 simp only [Go.T.atNat, e]
theorem Tm.atStr {s : ByteArray} {j : Int} {F : ι → Int → Option α} (h0 : 0 ≤ j) (h1 : j < s.size) (h : ∀ b : UInt8, s[j.toNat]? = some b → Tm ok (fun i => F i (b.toNat : Int)) ψ) : Tm ok (fun i => atStr s j (F i)) ψ := by
 have hl : j.toNat < s.size := by omega
 have e : s[j.toNat]? = some s[j.toNat] := by simp [hl]
 refine (h _ e).congr fun i _ => ?_
 simp only [Go.T.atStr, if_pos h0, e]
theorem Tm.loop {V : Type} {okk : ι → Prop} {p : ι → Nat} (hp : ∀ i, okk i → big ≤ p i) {b : ι → (V → Option α) → V → Option α} (m : V → Nat) (Inv : V → Prop) (hm : ∀ v, Inv v → m v < big) {v : V} (h0 : Inv v)
  (step : ∀ v, Inv v → ∀ L : ι × Nat → V → Option α, (∀ v', Inv v' → m v' < m v → Tm (fun i : ι × Nat => okk i.1 ∧ m v ≤ i.2) (fun i => L i v') ψ) → Tm (fun i : ι × Nat => okk i.1 ∧ m v ≤ i.2) (fun i => b i.1 (L i) v) ψ) :
  Tm okk (fun i => Z4 (b i) (p i) v) ψ := by
 have key : ∀ (n : Nat) (v : V), m v = n → Inv v → ∃ r, ψ r ∧ ∀ i, okk i → ∀ j, m v < j → Z4 (b i) j v = some r := by
  intro n
  induction n using Nat.strongRecOn with
  | ind n ih =>
   intro v hv hI
   obtain ⟨r, h1, h2⟩ := step v hI (fun i => Z4 (b i.1) i.2) (fun v' hI' hlt => by
    obtain ⟨r', q1, q2⟩ := ih (m v') (by omega) v' rfl hI'
    exact ⟨r', q1, fun i hi => q2 i.1 hi.1 i.2 (Nat.lt_of_lt_of_le hlt hi.2)⟩)
   refine ⟨r, h1, fun i hi j hj => ?_⟩
   cases j with
   | zero => omega
   | succ j => exact h2 (i, j) ⟨hi, by omega⟩
 obtain ⟨r, h1, h2⟩ := key (m v) v rfl h0
 exact ⟨r, h1, fun i hi => h2 i hi (p i) (Nat.lt_of_lt_of_le (hm v h0) (hp i hi))⟩
end
theorem ZC {x : Int} (h1 : -9223372036854775808 ≤ x) (h2 : x ≤ 9223372036854775807) : IntKind.wrap .i64 x = x := by
 simp only [IntKind.wrap, IntKind.signed, IntKind.bits]
 simp
 omega
abbrev lim : Nat := 1048576
theorem Za : maxLen = 9223372036854775807 := rfl
def Zm (R : Nat → List D → Prop) (B : Nat) (xs : List (List D)) : Prop := xs.length ≤ B ∧ ∀ r ∈ xs, R B r
theorem Zbd {R : List D → Prop} {xs : List (List D)} {i : Int} {x : List D} (h0 : 0 ≤ i) (hx : xs[i.toNat]? = some x) (h : ∀ r ∈ xs.take i.toNat, R r) (hr : R x) : ∀ r ∈ xs.take (i + 1).toNat, R r := by
 rw [show (i + 1).toNat = i.toNat + 1 from by omega, List.take_add_one, hx]
 intro r hr'
 rcases List.mem_append.mp hr' with q | q
 ·exact h r q
 ·simp at q; subst q; exact hr
theorem Zau {R : List D → Prop} {xs : List (List D)} {i : Int} (hi : (xs.length : Int) ≤ i) (h : ∀ r ∈ xs.take i.toNat, R r) : ∀ r ∈ xs, R r := by
 rw [List.take_of_length_le (by omega)] at h
 exact h
theorem Zi (s : ByteArray) : strEq s s = true := by simp [strEq]
theorem Tm.self {ι α : Type} {ok : ι → Prop} {F : ι → Option α} {φ : α → Prop} (h : Tm ok F φ) : Tm ok F (fun v => φ v ∧ ∀ i, ok i → F i = some v) := by
 obtain ⟨v, h1, h2⟩ := h
 exact ⟨v, ⟨h1, h2⟩, h2⟩
theorem Tm.succ {α : Type} {N : Nat} {t g : Nat → Option α} {φ : α → Prop} (e : ∀ k, t (k + 1) = g k) (h : Tm (fun k => N ≤ k) g φ) : Tm (fun k => N + 1 ≤ k) t φ := by
 obtain ⟨v, h1, h2⟩ := h
 refine ⟨v, h1, fun k hk => ?_⟩
 cases k with
 | zero => omega
 | succ k => rw [e]; exact h2 k (by omega)
theorem Tm.up {α : Type} {M N : Nat} {t : Nat → Option α} {φ : α → Prop} (h : Tm (fun k => M ≤ k) t φ) (hn : M ≤ N) : Tm (fun k => N ≤ k) t φ := by
 obtain ⟨v, h1, h2⟩ := h
 exact ⟨v, h1, fun k hk => h2 k (Nat.le_trans hn hk)⟩
theorem Tm.at {ι α : Type} {ok : ι → Prop} {F : ι → Option α} {v : α} (h : ∀ i, ok i → F i = some v) : Tm ok F (fun z => z = v) := ⟨v, rfl, h⟩
theorem bif_congr {β : Type} {c : Bool} {a a' b b' : β} (h1 : c = true → a = a') (h2 : c = false → b = b') : (bif c then a else b) = (bif c then a' else b') := by
 cases c
 ·exact h2 rfl
 ·exact h1 rfl
theorem atRow_get {γ β : Type} {xs : List γ} {v : Int} {x : γ} (h0 : 0 ≤ v) (hx : xs[v.toNat]? = some x) (F : γ → Option β) : ZX xs v F = F x := by
 simp only [ZX, if_pos h0, atNat, hx]
theorem atRow_none {γ β : Type} {xs : List γ} {v : Int} (h : ¬ (0 ≤ v ∧ v < xs.length)) (F : γ → Option β) : ZX xs v F = none := by
 unfold ZX atNat
 split
 ·rw [List.getElem?_eq_none (by omega)]
 ·rfl
mutual
def deepD : D → C
 | .bool b => .d (.bool b)
 | .int q n => .d (.int q n)
 | .str s => .d (.str s)
 | .sl xs => .own (Zs xs)
 | .fn f cs => .d (.fn f cs)
def Zal : List D → List C
 | [] => []
 | d :: r => deepD d :: Zal r
def Zs : List (List D) → List (List C)
 | [] => []
 | r :: xs => Zal r :: Zs xs
end
mutual
theorem imm_deepD : ∀ d : D, C.imm (deepD d) = d
 | .bool _ | .int _ _ | .str _ | .fn _ _ => by simp only [deepD, C.imm]
 | .sl xs => by simp only [deepD, C.imm, ZF xs]
theorem imm_deepCells : ∀ r : List D, C.immCells (Zal r) = r
 | [] => by simp only [Zal, C.immCells]
 | d :: r => by simp only [Zal, C.immCells, imm_deepD d, imm_deepCells r]
theorem ZF : ∀ xs : List (List D), C.immRows (Zs xs) = xs
 | [] => by simp only [Zs, C.immRows]
 | r :: xs => by simp only [Zs, C.immRows, imm_deepCells r, ZF xs]
end
theorem deepRows_length : ∀ xs : List (List D), (Zs xs).length = xs.length
 | [] => by simp only [Zs, List.length_nil]
 | r :: xs => by simp only [Zs, List.length_cons, deepRows_length xs]
theorem Zcf : ∀ (xs ys : List (List D)), Zs (xs ++ ys) = Zs xs ++ Zs ys
 | [], ys => by simp only [Zs, List.nil_append]
 | r :: xs, ys => by simp only [Zs, List.cons_append, Zcf xs ys]
theorem deep_flat {R : List D → Prop} (hR : ∀ r, R r → Zal r = r.map C.d) : ∀ xs : List (List D), (∀ r ∈ xs, R r) → Zs xs = xs.map (·.map C.d)
 | [], _ => by simp only [Zs, List.map_nil]
 | r :: xs, h => by simp only [Zs, List.map_cons, hR r (h r (by simp)), deep_flat hR xs fun r hr => h r (by simp [hr])]
structure Zaw (xs : List (List D)) (Z : List C) (i : Int) (out : List (List C)) : Prop where
 get : ∃ done, out = done ++ List.replicate (xs.length - i.toNat) Z ∧ done.length = i.toNat ∧ done = Zs (xs.take i.toNat)
theorem Zaw.start (xs : List (List D)) (Z : List C) : Zaw xs Z 0 (List.replicate (Int.toNat (xs.length : Int)) Z) := ⟨[], by simp, rfl, by simp [Zs]⟩
theorem Zaw.len {xs : List (List D)} {Z : List C} {i : Int} {out : List (List C)} (h : Zaw xs Z i out) (h1 : i ≤ xs.length) : out.length = xs.length := by
 obtain ⟨done, rfl, hl, _⟩ := h.get
 simp; omega
theorem Zaw.next {xs : List (List D)} {Z new : List C} {i : Int} {out : List (List C)} {x : List D} (h : Zaw xs Z i out) (h0 : 0 ≤ i) (hx : xs[i.toNat]? = some x) (hz : Z.length = new.length) (hn : new = Zal x) :
  Zaw xs Z (i + 1) (out.modify i.toNat fun c => Z1 c 0 new) := by
 obtain ⟨done, rfl, hl, hi⟩ := h.get
 have hlt := (List.getElem?_eq_some_iff.mp hx).1
 have e1 : (i + 1).toNat = i.toNat + 1 := by omega
 refine ⟨done ++ [new], ?_, by simp [hl, e1], ?_⟩
 ·obtain ⟨n, hn'⟩ : ∃ n, xs.length - i.toNat = n + 1 := ⟨xs.length - i.toNat - 1, by omega⟩
  rw [hn', e1, show xs.length - (i.toNat + 1) = n from by omega, List.replicate_succ]
  have hsp : Z1 Z 0 new = new := by simp [Z1, ← hz]
  have hil : i.toNat < (done ++ Z :: List.replicate n Z).length := by simp; omega
  rw [List.modify_eq_take_cons_drop hil]
  have a1 : (done ++ Z :: List.replicate n Z).take i.toNat = done := by rw [← hl]; simp
  have a2 : (done ++ Z :: List.replicate n Z).drop (i.toNat + 1) = List.replicate n Z := by rw [← hl]; simp
  have a3 : (done ++ Z :: List.replicate n Z)[i.toNat] = Z := by simp [← hl]
  rw [a1, a2, a3, hsp]
  simp
 ·rw [e1, List.take_add_one, hx, Zcf, ← hi]
  simp [Zs, hn]
theorem Zaw.all {xs : List (List D)} {Z : List C} {i : Int} {out : List (List C)} (h : Zaw xs Z i out) (hi : (xs.length : Int) ≤ i) : out = Zs xs := by
 obtain ⟨done, rfl, hl, he⟩ := h.get
 rw [show xs.length - i.toNat = 0 from by omega]
 simp only [List.replicate_zero, List.append_nil]
 rw [he, List.take_of_length_le (by omega)]
end Go.T
