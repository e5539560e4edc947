/- The program's functions answer as the reference's. -/
import Derived.Test.YtnlhhhkeigjnoaaYEWeightOf
import Derived.KernelRfl
set_option linter.unusedVariables false
set_option linter.unusedSimpArgs false
namespace Go.Proofs.Ytnlhhhkeigjnoaa
open Go Go.T Go.Proofs

theorem impl_WeightOf.same {a0_0 : Int} {a0_1 a0_2 a0_3 : List (List D)} {a1 : ByteArray} (g0 : SlOk RISLSE lim a0_1) (g1 : SlOk RS lim a0_2) (g2 : SlOk RSI lim a0_3) (g3 : a1.size ≤ lim) {k : Nat} (hk : Fuel k) : impl_WeightOf.t k a0_0 a0_1 a0_2 a0_3 a1 = spec_WeightOf.t k a0_0 a0_1 a0_2 a0_3 a1 := by
  unfold impl_WeightOf.t spec_WeightOf.t impl_WeightOf.g spec_WeightOf.g
  congr 1
  funext L v
  simp only [impl_WeightOf.l0, spec_WeightOf.l0]
  refine bif_congr (fun h => ?_) (fun _ => rfl)
  by_cases h0 : 0 ≤ v ∧ v < a0_3.length
  · have hl : v.toNat < a0_3.length := by omega
    obtain ⟨s0, n1, hs, _⟩ := g2.2 _ (List.getElem_mem hl)
    have hr := fun F => atRow_get (β := Int) h0.1 (by rw [← hs]; simp [hl] : a0_3[v.toNat]? = some [.str s0, .int .i64 n1]) F
    simp only [hr, uncons, dStr, dInt, atEnd, if_true]
  · simp only [atRow_none h0]

end Go.Proofs.Ytnlhhhkeigjnoaa
