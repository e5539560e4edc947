/- How the evaluator's abstract data stand to the machine's memory. -/
import Derived.Test.YtlobhlnahhjpjaaTDen
namespace Go.T
mutual
def RdD (w : World) (I : Nat → Prop) : D → Value → Prop
 | .bool b, v => v = .bool b
 | .int k n, v => v = .int k n
 | .str s, v => v = .string s
 | .sl xs, v => ∃ a len cap, v = .slice a len cap ∧ len = xs.length ∧ len ≤ cap ∧
   (xs = [] ∨ ∃ b off c e fr sz, a = some ⟨b, off, none⟩ ∧ I b ∧ w.heap[b]? = some (.cells c e fr) ∧ 0 < sz ∧ ZH w I c sz off xs)
 | .fn f caps, v => ∃ vs : List Value, v = .func (.func f) #[] vs.toArray ∧ ZaE w I caps vs
def Zr (w : World) (I : Nat → Prop) (c : Array Value) : Nat → List D → Prop
 | _, [] => True
 | p, d :: ds => (∃ v, c[p]? = some v ∧ RdD w I d v) ∧ Zr w I c (p + 1) ds
def ZH (w : World) (I : Nat → Prop) (c : Array Value) (sz : Nat) : Nat → List (List D) → Prop
 | _, [] => True
 | p, x :: xs => (x.length = sz ∧ Zr w I c p x) ∧ ZH w I c sz (p + sz) xs
def ZaE (w : World) (I : Nat → Prop) : List (List D) → List Value → Prop
 | [], vs => vs = []
 | x :: xs, vs => ∃ b off c e fr vs', vs = .pointer (some ⟨b, off, none⟩) :: vs' ∧ I b ∧ w.heap[b]? = some (.cells c e fr) ∧ Zr w I c off x ∧ ZaE w I xs vs'
end
mutual
def OwC (P : Program) (w : World) (I : Nat → Prop) : C → TypeId → Value → List Nat → Prop
 | .d x, _, v, F => F = [] ∧ RdD w I x v
 | .own xs, ct, v, F => ∃ a cap, v = .slice a xs.length cap ∧
   ((xs = [] ∧ cap = 0 ∧ F = []) ∨
    ∃ b c e F', a = some ⟨b, 0, none⟩ ∧ F = b :: F' ∧ w.heap[b]? = some (.cells c e (0, 0)) ∧ 0 < Zs P ct ∧ c.size = cap * Zs P ct ∧ xs.length ≤ cap ∧
     Zg P w I c (Z1 P ct) (Zs P ct) xs 0 F')
def Ze (P : Program) (w : World) (I : Nat → Prop) (c : Array Value) : List C → List TypeId → Nat → List Nat → Prop
 | [], cts, _, F => F = [] ∧ cts = []
 | x :: xs, cts, p, F => ∃ ct cts' v F1 F2, cts = ct :: cts' ∧ F = F1 ++ F2 ∧ c[p]? = some v ∧ OwC P w I x ct v F1 ∧ Ze P w I c xs cts' (p + 1) F2
def Zg (P : Program) (w : World) (I : Nat → Prop) (c : Array Value) (cts : List TypeId) (sz : Nat) : List (List C) → Nat → List Nat → Prop
 | [], _, F => F = []
 | x :: xs, p, F => ∃ F1 F2, F = F1 ++ F2 ∧ Ze P w I c x cts p F1 ∧ Zg P w I c cts sz xs (p + sz) F2
end
structure Keeps (w w' : World) (I I' : Nat → Prop) : Prop where
 imp : ∀ b, I b → I' b
 same : ∀ b, I b → w'.heap[b]? = w.heap[b]?
theorem Keeps.refl (w : World) (I : Nat → Prop) : Keeps w w I I := ⟨fun _ h => h, fun _ _ => rfl⟩
mutual
theorem RdD.mono {w w' : World} {I I' : Nat → Prop} (h : Keeps w w' I I') : ∀ {d : D} {v : Value}, RdD w I d v → RdD w' I' d v
 | .bool _, _, r => r
 | .int _ _, _, r => r
 | .str _, _, r => r
 | .sl xs, v, r => by
  simp only [RdD] at r ⊢
  obtain ⟨a, len, cap, hv, hl, hc, r⟩ := r
  refine ⟨a, len, cap, hv, hl, hc, ?_⟩
  rcases r with r | ⟨b, off, c, e, fr, sz, ha, hI, hb, hs, r⟩
  ·exact .inl r
  ·exact .inr ⟨b, off, c, e, fr, sz, ha, h.imp b hI, by rw [h.same b hI]; exact hb, hs, ZH.mono h r⟩
 | .fn f caps, v, r => by
  simp only [RdD] at r ⊢
  obtain ⟨vs, hv, r⟩ := r
  exact ⟨vs, hv, ZaE.mono h r⟩
theorem Zr.mono {w w' : World} {I I' : Nat → Prop} (h : Keeps w w' I I') {c : Array Value} : ∀ {ds : List D} {p : Nat}, Zr w I c p ds → Zr w' I' c p ds
 | [], _, _ => by simp only [Zr]
 | d :: ds, p, r => by
  simp only [Zr] at r ⊢
  obtain ⟨⟨v, hv, r1⟩, r2⟩ := r
  exact ⟨⟨v, hv, RdD.mono h r1⟩, Zr.mono h r2⟩
theorem ZH.mono {w w' : World} {I I' : Nat → Prop} (h : Keeps w w' I I') {c : Array Value} {sz : Nat} : ∀ {xs : List (List D)} {p : Nat}, ZH w I c sz p xs → ZH w' I' c sz p xs
 | [], _, _ => by simp only [ZH]
 | x :: xs, p, r => by
  simp only [ZH] at r ⊢
  exact ⟨⟨r.1.1, Zr.mono h r.1.2⟩, ZH.mono h r.2⟩
theorem ZaE.mono {w w' : World} {I I' : Nat → Prop} (h : Keeps w w' I I') : ∀ {xs : List (List D)} {vs : List Value}, ZaE w I xs vs → ZaE w' I' xs vs
 | [], _, r => by simp only [ZaE] at r ⊢; exact r
 | x :: xs, vs, r => by
  simp only [ZaE] at r ⊢
  obtain ⟨b, off, c, e, fr, vs', hv, hI, hb, r1, r2⟩ := r
  exact ⟨b, off, c, e, fr, vs', hv, h.imp b hI, by rw [h.same b hI]; exact hb, Zr.mono h r1, ZaE.mono h r2⟩
end
structure KeepsO (w w' : World) (I I' : Nat → Prop) (F : List Nat) : Prop extends Keeps w w' I I' where
 own : ∀ b, b ∈ F → w'.heap[b]? = w.heap[b]?
mutual
theorem OwC.mono {P : Program} {w w' : World} {I I' : Nat → Prop} : ∀ {x : C} {ct : TypeId} {v : Value} {F : List Nat}, KeepsO w w' I I' F → OwC P w I x ct v F → OwC P w' I' x ct v F
 | .d x, ct, v, F, h, r => by
  simp only [OwC] at r ⊢
  exact ⟨r.1, RdD.mono h.toKeeps r.2⟩
 | .own xs, ct, v, F, h, r => by
  simp only [OwC] at r ⊢
  obtain ⟨a, cap, hv, r⟩ := r
  refine ⟨a, cap, hv, ?_⟩
  rcases r with r | ⟨b, c, e, F', ha, hF, hb, h0, hs, hl, r⟩
  ·exact .inl r
  ·subst hF
   exact .inr ⟨b, c, e, F', ha, rfl, by rw [h.own b (by simp)]; exact hb, h0, hs, hl, Zg.mono ⟨h.toKeeps, fun b hb => h.own b (by simp [hb])⟩ r⟩
theorem Ze.mono {P : Program} {w w' : World} {I I' : Nat → Prop} {c : Array Value} : ∀ {xs : List C} {cts : List TypeId} {p : Nat} {F : List Nat}, KeepsO w w' I I' F → Ze P w I c xs cts p F → Ze P w' I' c xs cts p F
 | [], _, _, _, _, r => by simp only [Ze] at r ⊢; exact r
 | x :: xs, cts, p, F, h, r => by
  simp only [Ze] at r ⊢
  obtain ⟨ct, cts', v, F1, F2, hc, hF, hv, r1, r2⟩ := r
  subst hF
  exact ⟨ct, cts', v, F1, F2, hc, rfl, hv, OwC.mono ⟨h.toKeeps, fun b hb => h.own b (by simp [hb])⟩ r1, Ze.mono ⟨h.toKeeps, fun b hb => h.own b (by simp [hb])⟩ r2⟩
theorem Zg.mono {P : Program} {w w' : World} {I I' : Nat → Prop} {c : Array Value} {cts : List TypeId} {sz : Nat} : ∀ {xs : List (List C)} {p : Nat} {F : List Nat}, KeepsO w w' I I' F → Zg P w I c cts sz xs p F → Zg P w' I' c cts sz xs p F
 | [], _, _, _, r => by simp only [Zg] at r ⊢; exact r
 | x :: xs, p, F, h, r => by
  simp only [Zg] at r ⊢
  obtain ⟨F1, F2, hF, r1, r2⟩ := r
  subst hF
  exact ⟨F1, F2, rfl, Ze.mono ⟨h.toKeeps, fun b hb => h.own b (by simp [hb])⟩ r1, Zg.mono ⟨h.toKeeps, fun b hb => h.own b (by simp [hb])⟩ r2⟩
end
theorem Ze.length {P : Program} {w : World} {I : Nat → Prop} {c : Array Value} : ∀ {xs : List C} {cts : List TypeId} {p : Nat} {F : List Nat}, Ze P w I c xs cts p F → xs.length = cts.length
 | [], _, _, _, r => by simp only [Ze] at r; simp [r.2]
 | x :: xs, cts, p, F, r => by
  simp only [Ze] at r
  obtain ⟨ct, cts', v, F1, F2, hc, hF, hv, r1, r2⟩ := r
  subst hc
  simp [Ze.length r2]
theorem C.immRows_length : ∀ (xs : List (List C)), (C.immRows xs).length = xs.length
 | [] => rfl
 | x :: xs => by simp [C.immRows, C.immRows_length xs]
theorem C.immCells_length : ∀ (xs : List C), (C.immCells xs).length = xs.length
 | [] => rfl
 | x :: xs => by simp [C.immCells, C.immCells_length xs]
mutual
theorem OwC.imm {P : Program} {w : World} {I J : Nat → Prop} (hJ : ∀ b, I b → J b) : ∀ {x : C} {ct : TypeId} {v : Value} {F : List Nat}, (∀ b, b ∈ F → J b) → (∀ ct : TypeId, Zs P ct ≠ 0 → (Z1 P ct).length = Zs P ct) → OwC P w I x ct v F → RdD w J x.imm v
 | .d x, ct, v, F, hF, hT, r => by
  simp only [OwC] at r
  simp only [C.imm]
  exact RdD.mono ⟨hJ, fun _ _ => rfl⟩ r.2
 | .own xs, ct, v, F, hF, hT, r => by
  simp only [OwC] at r
  simp only [C.imm, RdD]
  obtain ⟨a, cap, hv, r⟩ := r
  rcases r with ⟨rfl, h0, _⟩ | ⟨b, c, e, F', ha, rfl, hb, h0, hs, hl, r⟩
  ·exact ⟨a, 0, cap, by simpa using hv, by simp [C.immRows], by simp, .inl (by simp [C.immRows])⟩
  ·refine ⟨a, xs.length, cap, hv, by simp [C.immRows_length], hl, .inr ⟨b, 0, c, e, (0, 0), Zs P ct, ha, hF b (by simp), hb, h0, ?_⟩⟩
   exact Zg.imm hJ (fun b hb => hF b (by simp [hb])) hT (hT ct (by omega)) r
theorem Ze.imm {P : Program} {w : World} {I J : Nat → Prop} (hJ : ∀ b, I b → J b) {c : Array Value} : ∀ {xs : List C} {cts : List TypeId} {p : Nat} {F : List Nat}, (∀ b, b ∈ F → J b) → (∀ ct : TypeId, Zs P ct ≠ 0 → (Z1 P ct).length = Zs P ct) → Ze P w I c xs cts p F → Zr w J c p (C.immCells xs)
 | [], _, _, _, _, _, _ => by simp only [C.immCells, Zr]
 | x :: xs, cts, p, F, hF, hT, r => by
  simp only [Ze] at r
  obtain ⟨ct, cts', v, F1, F2, hc, rfl, hv, r1, r2⟩ := r
  simp only [C.immCells, Zr]
  exact ⟨⟨v, hv, OwC.imm hJ (fun b hb => hF b (by simp [hb])) hT r1⟩, Ze.imm hJ (fun b hb => hF b (by simp [hb])) hT r2⟩
theorem Zg.imm {P : Program} {w : World} {I J : Nat → Prop} (hJ : ∀ b, I b → J b) {c : Array Value} {cts : List TypeId} {sz : Nat} : ∀ {xs : List (List C)} {p : Nat} {F : List Nat}, (∀ b, b ∈ F → J b) → (∀ ct : TypeId, Zs P ct ≠ 0 → (Z1 P ct).length = Zs P ct) → cts.length = sz → Zg P w I c cts sz xs p F → ZH w J c sz p (C.immRows xs)
 | [], _, _, _, _, _, _ => by simp only [C.immRows, ZH]
 | x :: xs, p, F, hF, hT, hs, r => by
  simp only [Zg] at r
  obtain ⟨F1, F2, rfl, r1, r2⟩ := r
  simp only [C.immRows, ZH]
  exact ⟨⟨by rw [C.immCells_length, Ze.length r1, hs], Ze.imm hJ (fun b hb => hF b (by simp [hb])) hT r1⟩, Zg.imm hJ (fun b hb => hF b (by simp [hb])) hT hs r2⟩
end
end Go.T
