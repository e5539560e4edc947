/- Tables that are marked and held to the marks: what the laws do with the memory of a result. -/
import Derived.Test.YtpgplbalenfgfaaTVal
set_option linter.unusedVariables false
set_option linter.unusedSimpArgs false
namespace Go.T
mutual
def wtD : D → Nat
 | .sl xs => Zp xs
 | .bool _ => 1
 | .int _ _ => 1
 | .str _ => 1
 | .fn _ _ => 1
def ZbG : List D → Nat
 | [] => 0
 | d :: r => wtD d + ZbG r
def Zp : List (List D) → Nat
 | [] => 0
 | r :: xs => ZbG r + Zp xs
end
theorem wt_flat {R : List D → Prop} {m : Nat} (hR : ∀ r, R r → ZbG r = m) : ∀ xs : List (List D), (∀ r ∈ xs, R r) → Zp xs = m * xs.length
 | [], _ => by simp only [Zp, List.length_nil, Nat.mul_zero]
 | r :: xs, h => by
  simp only [Zp, List.length_cons, hR r (h r (by simp)), wt_flat hR xs fun r hr => h r (by simp [hr])]
  rw [Nat.mul_add]
  omega
theorem Zaf {α : Type} {A B : List α} {c : α} {n : Nat} (h : A.length = n) (F : α → α) : (A ++ c :: B).modify n F = A ++ F c :: B := by
 subst h
 rw [List.modify_eq_take_cons_drop (by simp)]
 simp
inductive ZbX (S : Int → List D → Int → Prop) : Int → List (List D) → Int → Prop
 | nil {n : Int} : ZbX S n [] n
 | snoc {n u u' : Int} {xs : List (List D)} {r : List D} (h : ZbX S n xs u) (hs : S u r u') : ZbX S n (xs ++ [r]) u'
theorem ZbX.mono {S S' : Int → List D → Int → Prop} (hi : ∀ u r u', S u r u' → S' u r u') {n u : Int} {xs : List (List D)} (h : ZbX S n xs u) : ZbX S' n xs u := by
 induction h with
 | nil => exact .nil
 | snoc _ hs ih => exact .snoc ih (hi _ _ _ hs)
end Go.T
