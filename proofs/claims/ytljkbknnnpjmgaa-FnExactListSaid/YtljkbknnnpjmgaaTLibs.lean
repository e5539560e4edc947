/- Library functions that are not read by the evaluator: their contracts, proved by hand. -/
import Derived.Test.YtljkbknnnpjmgaaTMark
import Derived.Lib.Bytealg
import Derived.Lib.Walk
import Derived.Tactics2
import Derived.Shelf.RegionOpenPlain
import Derived.WalkKit
import Derived.Deep.RegionLaw
import Derived.Deep.LoopGhost
import Derived.Shelf.Abstract
set_option linter.unusedVariables false
set_option linter.unusedSimpArgs false
namespace Go.T
open Go.Proofs
abbrev LD := List (List D)
abbrev LC := List (List C)
abbrev BA := ByteArray
def cmpS (a b : ByteArray) : Int := Go.Lib.compareBytes a.data.toList b.data.toList
theorem strs_ok {P : Program} {f : FuncId} {t : TypeId} (hent : Zcj P f = true) (ht : Zai P t = false) (hf : Zy P 6 t = [t]) {g : ByteArray → ByteArray → Int} (h : ∀ (a b : ByteArray) (w : World), Calls P f #[.string a, .string b] w fun e w' => e = .returned (.int .i64 (g a b)) ∧ w' = w)
  {run : {β : Type} → List A → (List (List C) → List Out → Option β) → Option β} (hrun : ∀ (β : Type) (aa : List A) (K : List (List C) → List Out → Option β) (r : β), run aa K = some r → ∃ a b, aa = [.d (.str a), .d (.str b)] ∧ K [[.d (.int .i64 (g a b))]] [] = some r) :
  Zv P f { modes := [(.imm, 0), (.imm, 0)], rts := [t], al := false, run := run } := by
 refine ⟨hent, fun β aa K r hr => ?_, fun L hL => by cases hL⟩
 obtain ⟨a, b, rfl, hk⟩ := hrun β aa K r hr
 refine ⟨_, _, hk, fun w I vs F hargs hnd hF hI => ?_⟩
 simp only [Zab, Zac, RdD] at hargs
 obtain ⟨v1, vs1, F1, F2, rfl, rfl, ⟨rfl, rfl⟩, v2, vs2, F3, F4, rfl, rfl, ⟨rfl, rfl⟩, rfl, rfl⟩ := hargs
 refine Calls.mono (h a b w) ?_
 rintro e w' ⟨rfl, rfl⟩
 refine ⟨_, [.int .i64 (g a b)], I, [], [], rfl, rfl, Nat.le_refl _, rfl, rfl, rfl, fun _ _ _ => rfl, fun _ h => h, fun b hb => ⟨hI b hb, .inl hb⟩, by simp, by simp, ?_, ?_, by simp⟩
 ·simp [ZZ]
 ·simp only [ZaQ]
  refine ⟨_, [], #[.int .i64 (g a b)], [], [], rfl, rfl, by rw [ht]; rfl, rfl, ?_, by simp⟩
  rw [hf]
  simp only [Zh, OwC, RdD]
  exact ⟨t, [], _, [], [], rfl, rfl, rfl, ⟨rfl, rfl⟩, by simp⟩
structure Hold (p : Prop) : Prop where
 out : p
structure Only (b : Nat) (w w' : World) : Prop where
 size : w'.heap.size = w.heap.size
 os : w'.os = w.os
 tape : w'.tape = w.tape
 output : w'.output = w.output
 other : ∀ b', b' ≠ b → w'.heap[b']? = w.heap[b']?
theorem Only.refl (b : Nat) (w : World) : Only b w w := ⟨rfl, rfl, rfl, rfl, fun _ _ => rfl⟩
theorem Only.trans {b : Nat} {w w' w'' : World} (h : Only b w w') (h' : Only b w' w'') : Only b w w'' :=
 ⟨h'.size.trans h.size, h'.os.trans h.os, h'.tape.trans h.tape, h'.output.trans h.output, fun b' hb => (h'.other b' hb).trans (h.other b' hb)⟩
theorem Only.drew (b : Nat) (w : World) : Only b w w.drew := ⟨rfl, rfl, rfl, rfl, fun _ _ => rfl⟩
theorem Zh.move {P : Program} {w : World} {I : Nat → Prop} {c c' : Array Value} : ∀ {xs : List C} {cts : List TypeId} {p p' : Nat} {F : List Nat}, Zh P w I c xs cts p F → (∀ t, t < xs.length → c'[p' + t]? = c[p + t]?) → Zh P w I c' xs cts p' F
 | [], _, _, _, _, r, _ => by simpa only [Zh] using r
 | x :: xs, cts, p, p', F, r, h => by
  simp only [Zh] at r ⊢
  obtain ⟨ct, cts', v, F1, F2, e1, e2, e3, r1, r2⟩ := r
  refine ⟨ct, cts', v, F1, F2, e1, e2, by have := h 0 (by simp); simp only [Nat.add_zero] at this; rw [this]; exact e3, r1, Zh.move r2 fun t ht => ?_⟩
  have := h (t + 1) (by simp; omega)
  rwa [show p' + (t + 1) = p' + 1 + t from by omega, show p + (t + 1) = p + 1 + t from by omega] at this
theorem Zn.move {P : Program} {w : World} {I : Nat → Prop} {c c' : Array Value} {cts : List TypeId} {sz : Nat} (hs : cts.length = sz) : ∀ {xs : List (List C)} {p p' : Nat} {F : List Nat}, Zn P w I c cts sz xs p F → (∀ t, t < xs.length * sz → c'[p' + t]? = c[p + t]?) → Zn P w I c' cts sz xs p' F
 | [], _, _, _, r, _ => by simpa only [Zn] using r
 | x :: xs, p, p', F, r, h => by
  simp only [Zn] at r ⊢
  obtain ⟨F1, F2, e, r1, r2⟩ := r
  have hl : x.length = sz := by rw [Zh.length r1, hs]
  refine ⟨F1, F2, e, Zh.move r1 fun t ht => h t (by simp only [List.length_cons, Nat.add_mul, Nat.one_mul]; omega), Zn.move hs r2 fun t ht => ?_⟩
  have := h (sz + t) (by simp only [List.length_cons, Nat.add_mul, Nat.one_mul]; omega)
  rwa [← Nat.add_assoc, ← Nat.add_assoc] at this
structure Gr (b : Nat) (w w' : World) : Prop where
 size : w.heap.size ≤ w'.heap.size
 os : w'.os = w.os
 tape : w'.tape = w.tape
 output : w'.output = w.output
 other : ∀ b', b' ≠ b → b' < w.heap.size → w'.heap[b']? = w.heap[b']?
theorem Gr.refl (b : Nat) (w : World) : Gr b w w := ⟨Nat.le_refl _, rfl, rfl, rfl, fun _ _ _ => rfl⟩
theorem Gr.trans {b : Nat} {w w' w'' : World} (h : Gr b w w') (h' : Gr b w' w'') : Gr b w w'' :=
 ⟨Nat.le_trans h.size h'.size, h'.os.trans h.os, h'.tape.trans h.tape, h'.output.trans h.output, fun b' hb hl => (h'.other b' hb (Nat.lt_of_lt_of_le hl h.size)).trans (h.other b' hb hl)⟩
theorem Only.gr {b : Nat} {w w' : World} (h : Only b w w') : Gr b w w' := ⟨Nat.le_of_eq h.size.symm, h.os, h.tape, h.output, fun b' hb _ => h.other b' hb⟩
structure Gs (w w' : World) : Prop where
 size : w.heap.size ≤ w'.heap.size
 os : w'.os = w.os
 tape : w'.tape = w.tape
 output : w'.output = w.output
 same : ∀ b', b' < w.heap.size → w'.heap[b']? = w.heap[b']?
theorem Gs.gr {w w' : World} (b : Nat) (h : Gs w w') : Gr b w w' := ⟨h.size, h.os, h.tape, h.output, fun b' _ hl => h.same b' hl⟩
def kpt (p : Nat → Bool) (k0 n : Nat) : List Nat := (List.range k0) ++ ((List.range' (k0 + 1) (n - (k0 + 1))).filter fun j => !p j)
structure DfI (b k0 : Nat) (c : Array Value) (e : TypeId) (p : Nat → Bool) (w wr : World) (i j : Nat) (ck : Array Value) : Prop where
 lt : k0 < j
 gr : Gr b w wr
 at_ : wr.heap[b]? = some (.cells ck e (0, 0))
 size : ck.size = c.size
 len : (kpt p k0 j).length = i
 high : ∀ t, j ≤ t → ck[t]? = c[t]?
 low : ∀ m k : Nat, (kpt p k0 j)[m]? = some k → ck[m]? = c[k]?
theorem quiet {P : Program} {f : Nat} {e : ZQ} {aa : List A} {d : D} (h : CallsOK P f e aa [[.d d]] []) {w : World} {I : Nat → Prop} {vs : List Value} (ha : Zab P w I aa e.modes vs []) (hI : ∀ b, I b → b < w.heap.size) (t : TypeId) (ht : e.rts = [t]) (hagg : Zai P t = false) (Q : Value → Prop) (hQ : ∀ w I v, RdD w I d v → Q v) :
  Calls P f vs.toArray w fun ex w' => (∃ v, ex = .returned v ∧ Q v) ∧ Gs w w' := by
 refine Calls.mono (h w I vs [] ha List.nodup_nil (by simp) hI) ?_
 rintro ex w' ⟨v, vs', I', Fr, Fo, rfl, hv, h1, h2, h3, h4, h5, -, -, -, -, -, hr, -⟩
 refine ⟨⟨v, rfl, ?_⟩, h1, h2, h3, h4, fun b hb => h5 b hb (by simp)⟩
 rw [ht] at hr
 simp only [ZaQ] at hr
 obtain ⟨v', vs'', cells, F1, F2, rfl, -, rfl, -, hc, rfl, -⟩ := hr
 subst hv
 rw [hagg]
 simp only [Zh, OwC] at hc
 obtain ⟨ct, cts', u, F3, F4, -, -, hu, ⟨-, hd⟩, -⟩ := hc
 have : cells.getD 0 undef = u := by rw [Array.getD_eq_getD_getElem?, hu]; rfl
 show Q (cells.getD 0 undef)
 rw [this]
 exact hQ _ _ _ hd
end Go.T
