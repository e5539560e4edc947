/- Library functions that are not read by the evaluator: their contracts, proved by hand. -/
import Derived.Test.YtpgplbalenfgfaaTMark
import Derived.Lib.Bytealg
import Derived.Lib.Walk
import Derived.Tactics2
import Derived.Shelf.RegionOpenPlain
import Derived.WalkKit
import Derived.Deep.RegionLaw
import Derived.Deep.LoopGhost
import Derived.Shelf.Abstract
set_option linter.unusedVariables false
set_option linter.unusedSimpArgs false
namespace Go.T
open Go.Proofs
abbrev LD := List (List D)
abbrev LC := List (List C)
abbrev BA := ByteArray
structure Hold (p : Prop) : Prop where
 out : p
structure Only (b : Nat) (w w' : World) : Prop where
 size : w'.heap.size = w.heap.size
 os : w'.os = w.os
 tape : w'.tape = w.tape
 output : w'.output = w.output
 other : ∀ b', b' ≠ b → w'.heap[b']? = w.heap[b']?
theorem Only.refl (b : Nat) (w : World) : Only b w w := ⟨rfl, rfl, rfl, rfl, fun _ _ => rfl⟩
theorem Only.trans {b : Nat} {w w' w'' : World} (h : Only b w w') (h' : Only b w' w'') : Only b w w'' :=
 ⟨h'.size.trans h.size, h'.os.trans h.os, h'.tape.trans h.tape, h'.output.trans h.output, fun b' hb => (h'.other b' hb).trans (h.other b' hb)⟩
theorem Only.drew (b : Nat) (w : World) : Only b w w.drew := ⟨rfl, rfl, rfl, rfl, fun _ _ => rfl⟩
theorem Ze.move {P : Program} {w : World} {I : Nat → Prop} {c c' : Array Value} : ∀ {xs : List C} {cts : List TypeId} {p p' : Nat} {F : List Nat}, Ze P w I c xs cts p F → (∀ t, t < xs.length → c'[p' + t]? = c[p + t]?) → Ze P w I c' xs cts p' F
 | [], _, _, _, _, r, _ => by simpa only [Ze] using r
 | x :: xs, cts, p, p', F, r, h => by
  simp only [Ze] at r ⊢
  obtain ⟨ct, cts', v, F1, F2, e1, e2, e3, r1, r2⟩ := r
  refine ⟨ct, cts', v, F1, F2, e1, e2, by have := h 0 (by simp); simp only [Nat.add_zero] at this; rw [this]; exact e3, r1, Ze.move r2 fun t ht => ?_⟩
  have := h (t + 1) (by simp; omega)
  rwa [show p' + (t + 1) = p' + 1 + t from by omega, show p + (t + 1) = p + 1 + t from by omega] at this
theorem Zg.move {P : Program} {w : World} {I : Nat → Prop} {c c' : Array Value} {cts : List TypeId} {sz : Nat} (hs : cts.length = sz) : ∀ {xs : List (List C)} {p p' : Nat} {F : List Nat}, Zg P w I c cts sz xs p F → (∀ t, t < xs.length * sz → c'[p' + t]? = c[p + t]?) → Zg P w I c' cts sz xs p' F
 | [], _, _, _, r, _ => by simpa only [Zg] using r
 | x :: xs, p, p', F, r, h => by
  simp only [Zg] at r ⊢
  obtain ⟨F1, F2, e, r1, r2⟩ := r
  have hl : x.length = sz := by rw [Ze.length r1, hs]
  refine ⟨F1, F2, e, Ze.move r1 fun t ht => h t (by simp only [List.length_cons, Nat.add_mul, Nat.one_mul]; omega), Zg.move hs r2 fun t ht => ?_⟩
  have := h (sz + t) (by simp only [List.length_cons, Nat.add_mul, Nat.one_mul]; omega)
  rwa [← Nat.add_assoc, ← Nat.add_assoc] at this
structure Gr (b : Nat) (w w' : World) : Prop where
 size : w.heap.size ≤ w'.heap.size
 os : w'.os = w.os
 tape : w'.tape = w.tape
 output : w'.output = w.output
 other : ∀ b', b' ≠ b → b' < w.heap.size → w'.heap[b']? = w.heap[b']?
theorem Gr.refl (b : Nat) (w : World) : Gr b w w := ⟨Nat.le_refl _, rfl, rfl, rfl, fun _ _ _ => rfl⟩
theorem Gr.trans {b : Nat} {w w' w'' : World} (h : Gr b w w') (h' : Gr b w' w'') : Gr b w w'' :=
 ⟨Nat.le_trans h.size h'.size, h'.os.trans h.os, h'.tape.trans h.tape, h'.output.trans h.output, fun b' hb hl => (h'.other b' hb (Nat.lt_of_lt_of_le hl h.size)).trans (h.other b' hb hl)⟩
theorem Only.gr {b : Nat} {w w' : World} (h : Only b w w') : Gr b w w' := ⟨Nat.le_of_eq h.size.symm, h.os, h.tape, h.output, fun b' hb _ => h.other b' hb⟩
structure Gs (w w' : World) : Prop where
 size : w.heap.size ≤ w'.heap.size
 os : w'.os = w.os
 tape : w'.tape = w.tape
 output : w'.output = w.output
 same : ∀ b', b' < w.heap.size → w'.heap[b']? = w.heap[b']?
theorem Gs.gr {w w' : World} (b : Nat) (h : Gs w w') : Gr b w w' := ⟨h.size, h.os, h.tape, h.output, fun b' _ hl => h.same b' hl⟩
def kpt (p : Nat → Bool) (k0 n : Nat) : List Nat := (List.range k0) ++ ((List.range' (k0 + 1) (n - (k0 + 1))).filter fun j => !p j)
structure DfI (b k0 : Nat) (c : Array Value) (e : TypeId) (p : Nat → Bool) (w wr : World) (i j : Nat) (ck : Array Value) : Prop where
 lt : k0 < j
 gr : Gr b w wr
 at_ : wr.heap[b]? = some (.cells ck e (0, 0))
 size : ck.size = c.size
 len : (kpt p k0 j).length = i
 high : ∀ t, j ≤ t → ck[t]? = c[t]?
 low : ∀ m k : Nat, (kpt p k0 j)[m]? = some k → ck[m]? = c[k]?
theorem quiet {P : Program} {f : Nat} {e : Zk} {aa : List A} {d : D} (h : CallsOK P f e aa [[.d d]] []) {w : World} {I : Nat → Prop} {vs : List Value} (ha : ZU P w I aa e.modes vs []) (hI : ∀ b, I b → b < w.heap.size) (t : TypeId) (ht : e.rts = [t]) (hagg : (Z5 P t || isPtrB P t) = false) (Q : Value → Prop) (hQ : ∀ w I v, RdD w I d v → Q v) :
  Calls P f vs.toArray w fun ex w' => (∃ v, ex = .returned v ∧ Q v) ∧ Gs w w' := by
 obtain ⟨hagg, hp⟩ := Bool.or_eq_false_iff.mp hagg
 refine Calls.mono (h w I vs [] ha List.nodup_nil (by simp) hI) ?_
 rintro ex w' ⟨v, vs', I', Fr, Fo, rfl, hv, h1, h2, h3, h4, h5, -, -, -, -, -, hr, -⟩
 refine ⟨⟨v, rfl, ?_⟩, h1, h2, h3, h4, fun b hb => h5 b hb (by simp)⟩
 rw [ht] at hr
 simp only [ZaS] at hr
 obtain ⟨v', vs'', F1, F2, rfl, -, ⟨-, cells, rfl, -, hc⟩ | ⟨hp', -⟩, rfl, -⟩ := hr
 rotate_left
 ·rw [hp] at hp'; cases hp'
 subst hv
 rw [hagg]
 simp only [Ze, OwC] at hc
 obtain ⟨ct, cts', u, F3, F4, -, -, hu, ⟨-, hd⟩, -⟩ := hc
 have : cells.getD 0 undef = u := by rw [Array.getD_eq_getD_getElem?, hu]; rfl
 show Q (cells.getD 0 undef)
 rw [this]
 exact hQ _ _ _ hd
structure DfK (K b k0 : Nat) (c : Array Value) (e : TypeId) (p : Nat → Bool) (w wr : World) (i j : Nat) (ck : Array Value) : Prop where
 lt : k0 < j
 gr : Gr b w wr
 at_ : wr.heap[b]? = some (.cells ck e (0, 0))
 size : ck.size = c.size
 len : (kpt p k0 j).length = i
 high : ∀ t, j * K ≤ t → ck[t]? = c[t]?
 low : ∀ m k : Nat, (kpt p k0 j)[m]? = some k → ∀ t, t < K → ck[m * K + t]? = c[k * K + t]?
def ZbT {α : Type} (q : Nat → Bool) : Nat → List α → List α
 | _, [] => []
 | o, x :: xs => bif q o then x :: ZbT q (o + 1) xs else ZbT q (o + 1) xs
theorem Zg.pick {P : Program} {w : World} {I : Nat → Prop} {c c' : Array Value} {cts : List TypeId} {sz : Nat} (hs : cts.length = sz) (q : Nat → Bool) : ∀ {xs : List (List C)} {o d : Nat} {F : List Nat}, Zg P w I c cts sz xs (o * sz) F →
  (∀ m k : Nat, ((List.range' o xs.length).filter q)[m]? = some k → ∀ t, t < sz → c'[(d + m) * sz + t]? = c[k * sz + t]?) → ∃ F', Zg P w I c' cts sz (ZbT q o xs) (d * sz) F' ∧ F'.Sublist F
 | [], o, d, F, r, h => by
  simp only [Zg] at r
  subst r
  exact ⟨[], by simp [ZbT, Zg], List.Sublist.refl _⟩
 | x :: xs, o, d, F, r, h => by
  simp only [Zg] at r
  obtain ⟨F1, F2, rfl, r1, r2⟩ := r
  have hl : x.length = sz := by rw [Ze.length r1, hs]
  rw [show o * sz + sz = (o + 1) * sz from by rw [Nat.succ_mul]] at r2
  rw [List.length_cons, List.range'_succ, List.filter_cons] at h
  unfold ZbT
  cases hq : q o with
  | false =>
   rw [hq] at h
   obtain ⟨F', h1, h2⟩ := Zg.pick hs q (d := d) r2 h
   exact ⟨F', h1, h2.trans (List.sublist_append_right _ _)⟩
  | true =>
   rw [hq] at h
   obtain ⟨F', h1, h2⟩ := Zg.pick hs q (d := d + 1) r2 (fun m k hk t ht => by
    have := h (m + 1) k (by simpa using hk) t ht
    rwa [show d + (m + 1) = d + 1 + m from by omega] at this)
   refine ⟨F1 ++ F', ?_, List.Sublist.append (List.Sublist.refl _) h2⟩
   simp only [cond_true, Zg]
   refine ⟨F1, F', rfl, Ze.move r1 fun t ht => ?_, by rw [show d * sz + sz = (d + 1) * sz from by rw [Nat.succ_mul]]; exact h1⟩
   exact h 0 o rfl t (by omega)
def delR (pr : List D → Option Bool) : List (List C) → Option (List (List C))
 | [] => some []
 | s :: r => match pr (C.immCells s), delR pr r with
  | some true, some ys => some ys
  | some false, some ys => some (s :: ys)
  | _, _ => none
def delK (ix : List (List D) → Option Int) (pr : List D → Option Bool) (xs : List (List C)) : Option (List (List C)) :=
 match ix (C.immRows xs) with
 | none => none
 | some z => if z = -1 then some xs else Zc (0 ≤ z ∧ z < (xs.length : Int) ∧ xs.length ≤ 1099511627776) (match delR pr (xs.drop (z.toNat + 1)) with
  | none => none
  | some ys => some (xs.take z.toNat ++ ys))
end Go.T
