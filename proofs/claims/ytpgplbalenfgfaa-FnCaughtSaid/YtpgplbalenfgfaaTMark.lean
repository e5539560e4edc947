/- Tables that are marked and held to the marks: what the laws do with the memory of a result. -/
import Derived.Test.YtpgplbalenfgfaaTVal
set_option linter.unusedVariables false
set_option linter.unusedSimpArgs false
namespace Go.T
mutual
def wtD : D → Nat
 | .sl xs => Zu xs
 | .bool _ => 1
 | .int _ _ => 1
 | .str _ => 1
 | .fn _ _ => 1
def ZbY : List D → Nat
 | [] => 0
 | d :: r => wtD d + ZbY r
def Zu : List (List D) → Nat
 | [] => 0
 | r :: xs => ZbY r + Zu xs
end
theorem Zbe : ∀ (xs ys : List (List D)),Zu (xs ++ ys) = Zu xs + Zu ys
 | [],ys => by simp only [Zu,List.nil_append,Nat.zero_add]
 | r :: xs,ys => by simp only [Zu,List.cons_append,Zbe xs ys,Nat.add_assoc]
theorem wt_flat {R : List D → Prop} {m : Nat} (hR : ∀ r,R r → ZbY r = m) : ∀ xs : List (List D),(∀ r ∈ xs,R r) → Zu xs = m * xs.length
 | [],_ => by simp only [Zu,List.length_nil,Nat.mul_zero]
 | r :: xs,h => by
  simp only [Zu,List.length_cons,hR r (h r (by simp)),wt_flat hR xs fun r hr => h r (by simp [hr])]
  rw [Nat.mul_add]
  omega
theorem deep_snoc {xs : List (List D)} {i : Nat} (h : i < xs.length) : Zc (xs.take i) ++ [ZN (gR xs (i : Int))] = Zc (xs.take (i + 1)) := by
 have hx := gR_at (xs := xs) (v := (i : Int)) (by omega) (by omega)
 rw [Int.toNat_natCast] at hx
 rw [List.take_add_one,hx,Zbb]
 simp [Zc]
theorem ZbT {β : Type} {b : (Int × List (List C) → Option β) → Int × List (List C) → Option β} {xs : List (List D)} {k : Nat} {r : Option β} (hk : xs.length < k)
  (hstep : ∀ (L : Int × List (List C) → Option β) (i : Nat),i < xs.length → b L ((i : Int),Zc (xs.take i)) = L ((i : Int) + 1,Zc (xs.take i) ++ [ZN (gR xs (i : Int))])) (hend : ∀ L,b L ((xs.length : Int),Zc xs) = r) : ZA b k (0,[]) = r := by
 have := iter_seq (b := b) (fun i => ((i : Int),Zc (xs.take i))) (n := xs.length) (k := k) (r := r) hk (fun L i hi => by rw [hstep L i hi,deep_snoc hi]; rfl) (fun L => by rw [List.take_of_length_le (Nat.le_refl _)]; exact hend L)
 simpa [Zc] using this
inductive HeldL (S : Int → List D → Int → Prop) : Int → List (List D) → Int → Prop
 | nil {n : Int} : HeldL S n [] n
 | snoc {n u u' : Int} {xs : List (List D)} {r : List D} (h : HeldL S n xs u) (hs : S u r u') : HeldL S n (xs ++ [r]) u'
theorem HeldL.mono {S S' : Int → List D → Int → Prop} (hi : ∀ u r u',S u r u' → S' u r u') {n u : Int} {xs : List (List D)} (h : HeldL S n xs u) : HeldL S' n xs u := by
 induction h with
 | nil => exact .nil
 | snoc _ hs ih => exact .snoc ih (hi _ _ _ hs)
end Go.T
