/- Library functions that are not read by the evaluator: their contracts, proved by hand. -/
import Derived.Test.YtljkbknnnpjmgaaTMark
import Derived.Lib.Bytealg
import Derived.Lib.Walk
import Derived.Tactics2
set_option linter.unusedVariables false
set_option linter.unusedSimpArgs false
namespace Go.T
def cmpS (a b : ByteArray) : Int := Go.Lib.compareBytes a.data.toList b.data.toList
theorem strs_ok {P : Program} {f : FuncId} {t : TypeId} (hent : enterOk P f = true) (ht : isAggB P t = false) (hf : flatTypes P 6 t = [t]) {g : ByteArray → ByteArray → Int} (h : ∀ (a b : ByteArray) (w : World), Calls P f #[.string a, .string b] w fun e w' => e = .returned (.int .i64 (g a b)) ∧ w' = w)
    {run : {β : Type} → List A → (List (List C) → List Out → Option β) → Option β} (hrun : ∀ (β : Type) (as : List A) (K : List (List C) → List Out → Option β) (r : β), run as K = some r → ∃ a b, as = [.d (.str a), .d (.str b)] ∧ K [[.d (.int .i64 (g a b))]] [] = some r) :
    EntryOK P f { modes := [(.imm, 0), (.imm, 0)], rts := [t], al := false, run := run } := by
  refine ⟨hent, fun β as K r hr => ?_, fun L hL => by cases hL⟩
  obtain ⟨a, b, rfl, hk⟩ := hrun β as K r hr
  refine ⟨_, _, hk, fun w I vs F hargs hnd hF hI => ?_⟩
  simp only [ArgsRel, ArgRel, RdD] at hargs
  obtain ⟨v1, vs1, F1, F2, rfl, rfl, ⟨rfl, rfl⟩, v2, vs2, F3, F4, rfl, rfl, ⟨rfl, rfl⟩, rfl, rfl⟩ := hargs
  refine Calls.mono (h a b w) ?_
  rintro e w' ⟨rfl, rfl⟩
  refine ⟨_, [.int .i64 (g a b)], I, [], [], rfl, rfl, Nat.le_refl _, rfl, rfl, rfl, fun _ _ _ => rfl, fun _ h => h, fun b hb => ⟨hI b hb, .inl hb⟩, by simp, by simp, ?_, ?_, by simp⟩
  · simp [OutsRel]
  · simp only [ResRel]
    refine ⟨_, [], #[.int .i64 (g a b)], [], [], rfl, rfl, by rw [ht]; rfl, rfl, ?_, by simp⟩
    rw [hf]
    simp only [OwCells, OwC, RdD]
    exact ⟨t, [], _, [], [], rfl, rfl, rfl, ⟨rfl, rfl⟩, by simp⟩
end Go.T
