/-
  ParaJoins: the plain law.
-/
import Derived.Test.YtkdgkjodllgalaaParaMake
namespace Go.Proofs.Ytkdgkjodllgalaa
open Go.RowKit

def shiftP (d : Nat) (p : Par) : Par := (p.1 + d, p.2.1 + d, p.2.2)
theorem split_shift (d : Nat) : ∀ (m : Nat) (z : List (Int × Int)) (k f : Nat), z.length ≤ m → f ≤ k → splitF z (k + d) (f + d) = (splitF z k f).map (shiftP d)
  | _, [], k, f, _, _ => by
    rw [splitF_nil, splitF_nil]
    by_cases h : f < k
    · rw [if_pos h, if_pos (by omega)]; simp [shiftP]
    · rw [if_neg h, if_neg (by omega)]; rfl
  | 0, p :: t, k, f, h, _ => by simp at h
  | m + 1, (r, c) :: t, k, f, h, hf => by
    have ht : t.length ≤ m := by simpa using h
    by_cases hc : c = 10
    · subst hc
      by_cases hn : r = 13 ∧ (t.head?.map (·.1)) = some 10
      · match t, ht, hn with
        | [], _, hn => simp at hn
        | (r2, c2) :: t2, ht, hn =>
          have h3 : r2 = 10 := by simpa using hn.2
          have := split_shift d m t2 (k + 2) (k + 2) (by simp at ht; omega) (Nat.le_refl _)
          rw [hn.1, h3, splitF_two, splitF_two, show k + d + 2 = k + 2 + d by omega, this]
          simp [shiftP]
      · have := split_shift d m t (k + 1) (k + 1) ht (Nat.le_refl _)
        rw [splitF_one hn, splitF_one hn, show k + d + 1 = k + 1 + d by omega, this]
        simp [shiftP]
    · have := split_shift d m t (k + 1) f ht (by omega)
      rw [splitF_no hc hf, splitF_no hc (by omega), show k + d + 1 = k + 1 + d by omega, this]
theorem split_join : ∀ (m : Nat) (y z : List (Int × Int)) (k f : Nat), y.length ≤ m → f ≤ k →
    splitF (y ++ (10, 10) :: z) k f = splitF (y ++ [(10, 10)]) k f ++ splitF z (k + y.length + 1) (k + y.length + 1)
  | _, [], z, k, f, _, _ => by
    rw [List.nil_append, List.nil_append, splitF_one (by simp), splitF_one (by simp), splitF_nil, if_neg (by omega)]
    simp
  | 0, p :: t, z, k, f, h, _ => by simp at h
  | m + 1, (r, c) :: t, z, k, f, h, hf => by
    have ht : t.length ≤ m := by simpa using h
    rw [List.cons_append, List.cons_append]
    by_cases hc : c = 10
    · subst hc
      by_cases hn : r = 13 ∧ ((t ++ [((10 : Int), (10 : Int))]).head?.map (·.1)) = some 10
      · match t, ht, hn with
        | [], _, hn =>
          rw [hn.1, List.nil_append, List.nil_append, splitF_two, splitF_two, splitF_nil, if_neg (by omega)]
          simp
        | (r2, c2) :: t2, ht, hn =>
          have h3 : r2 = 10 := by simpa using hn.2
          have := split_join m t2 z (k + 2) (k + 2) (by simp at ht; omega) (Nat.le_refl _)
          rw [hn.1, h3, List.cons_append, List.cons_append, splitF_two, splitF_two, this]
          simp [show k + 2 + t2.length + 1 = k + (t2.length + 1 + 1) + 1 by omega]
      · have := split_join m t z (k + 1) (k + 1) ht (Nat.le_refl _)
        have hn2 : ¬ (r = 13 ∧ ((t ++ ((10 : Int), (10 : Int)) :: z).head?.map (·.1)) = some 10) := by
          cases t with
          | nil => simpa using hn
          | cons q t2 => simpa using hn
        rw [splitF_one hn, splitF_one hn2, this]
        simp [show k + 1 + t.length + 1 = k + (t.length + 1) + 1 by omega]
    · have := split_join m t z (k + 1) f ht (by omega)
      rw [splitF_no hc hf, splitF_no hc hf, this]
      simp [show k + 1 + t.length + 1 = k + (t.length + 1) + 1 by omega]
/-- a text's paragraphs, and those of one behind it -/
theorem split_both (y z : List (Int × Int)) : splitF (y ++ (10, 10) :: z) 0 0 = splitF (y ++ [(10, 10)]) 0 0 ++ (splitF z 0 0).map (shiftP (y.length + 1)) := by
  rw [split_join y.length y z 0 0 (Nat.le_refl _) (Nat.le_refl _), show 0 + y.length + 1 = 0 + (y.length + 1) by omega, ← split_shift (y.length + 1) z.length z 0 0 (Nat.le_refl _) (Nat.le_refl _)]
end Go.Proofs.Ytkdgkjodllgalaa
