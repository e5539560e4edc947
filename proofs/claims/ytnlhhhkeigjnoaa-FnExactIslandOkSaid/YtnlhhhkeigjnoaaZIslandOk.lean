/- The program's functions answer as the reference's. -/
import Derived.Test.YtnlhhhkeigjnoaaYEIslandOk
import Derived.KernelRfl
set_option linter.unusedVariables false
set_option linter.unusedSimpArgs false
namespace Go.Proofs.Ytnlhhhkeigjnoaa
open Go Go.T Go.Proofs
theorem l1In_f {β : Type} {k : Nat} {a b c : Int} (K : Bool → Option β) : spec_l1In.f k a b c K = K (decide (b ≤ a) && decide (a ≤ c)) := by
  refine spec_l1In.f_of ?_ K
  unfold spec_l1In.t spec_l1In.g
  by_cases h : b ≤ a <;> simp [h]
theorem within_f {β : Type} {k : Nat} {a b c : Int} (K : Bool → Option β) : impl_within.f k a b c K = K (decide (b ≤ a) && decide (a ≤ c)) := by
  refine impl_within.f_of ?_ K
  unfold impl_within.t impl_within.g
  by_cases h : b ≤ a <;> simp [h]
theorem impl_NameOk.same {k : Nat} {a : ByteArray} : impl_NameOk.t k a = spec_NameOk.t k a := by
  unfold impl_NameOk.t spec_NameOk.t impl_NameOk.g spec_NameOk.g
  congr 1
  funext L v
  simp only [impl_NameOk.l0, spec_NameOk.l0, l1In_f, within_f]
  refine bif_congr (fun _ => ?_) (fun _ => rfl)
  unfold atStr
  split
  · split
    · rename_i b _
      have hb : b.toNat < 256 := b.toNat_lt
      simp only []
      rw [wrap_i64 (x := (b.toNat : Int)) (by omega) (by omega)]
      generalize (b.toNat : Int) = x
      by_cases h1 : x < 97 <;> by_cases h2 : x < 48 <;> by_cases h3 : x > 57 <;> by_cases h4 : x > 122 <;> simp [h1, h2, h3, h4] <;> (try omega) <;> grind
    · rfl
  · rfl

theorem impl_NameOk_f {β : Type} {k : Nat} {a : ByteArray} (K : Bool → Option β) : impl_NameOk.f k a K = spec_NameOk.f k a K := by
  unfold impl_NameOk.f spec_NameOk.f
  rw [impl_NameOk.same]
theorem impl_LabelsOk.same {k : Nat} {a : List (List D)} (g : SlOk RSS lim a) : impl_LabelsOk.t k a = spec_LabelsOk.t k a := by
  unfold impl_LabelsOk.t spec_LabelsOk.t impl_LabelsOk.g spec_LabelsOk.g
  congr 1
  funext L v
  simp only [impl_LabelsOk.l0, spec_LabelsOk.l0, impl_NameOk_f]
  refine bif_congr (fun h => ?_) (fun _ => rfl)
  by_cases h0 : 0 ≤ v ∧ v < a.length
  · have hl : v.toNat < a.length := by omega
    obtain ⟨s0, s1, hs, _⟩ := g.2 _ (List.getElem_mem hl)
    have hr := fun F => atRow_get (β := Bool) h0.1 (by rw [← hs]; simp [hl] : a[v.toNat]? = some [.str s0, .str s1]) F
    simp only [hr, uncons, dStr, atEnd]
  · simp only [atRow_none h0]
theorem impl_namesOk.same {k : Nat} {a : List (List D)} {n : Int} (g : SlOk RS lim a) : impl_namesOk.t k a n = spec_l10Names.t k a n := by
  unfold impl_namesOk.t spec_l10Names.t impl_namesOk.g spec_l10Names.g
  congr 1
  funext L v
  simp only [impl_namesOk.l0, spec_l10Names.l0, impl_NameOk_f]
  refine bif_congr (fun h => ?_) (fun _ => rfl)
  by_cases h0 : 0 ≤ v ∧ v < a.length
  · have hl : v.toNat < a.length := by omega
    obtain ⟨s0, hs, _⟩ := g.2 _ (List.getElem_mem hl)
    have hr := fun F => atRow_get (β := Bool) h0.1 (by rw [← hs]; simp [hl] : a[v.toNat]? = some [.str s0]) F
    simp only [hr, uncons, dStr, atEnd]
  · simp only [atRow_none h0]
theorem isCopies_f {β : Type} {k : Nat} {a : Int} (K : Bool → Option β) : impl_isCopies.f k a K = K (decide (0 ≤ a) && decide (a ≤ 10000)) := by
  refine impl_isCopies.f_of ?_ K
  unfold impl_isCopies.t impl_isCopies.g
  rw [within_f]
theorem impl_IslandOk.same {a0_0 : ByteArray} {a0_1 a0_2 : List (List D)} {a0_3 : Int} (g0 : a0_0.size ≤ lim) (g1 : SlOk RSS lim a0_1) (g2 : SlOk RS lim a0_2) {k : Nat} (hk : Fuel k) : impl_IslandOk.t k a0_0 a0_1 a0_2 a0_3 = spec_IslandOk.t k a0_0 a0_1 a0_2 a0_3 := by
  unfold impl_IslandOk.t spec_IslandOk.t impl_IslandOk.g spec_IslandOk.g impl_LabelsOk.f spec_LabelsOk.f impl_namesOk.f spec_l10Names.f
  simp only [impl_NameOk_f, impl_LabelsOk.same g1, impl_namesOk.same g2, isCopies_f, l1In_f]

end Go.Proofs.Ytnlhhhkeigjnoaa
