/-
  ParaSplits: the plain law.
-/
import Derived.Test.YtkdgkjodllgalaaParaMake
namespace Go.Proofs.Ytkdgkjodllgalaa
open Go.RowKit

def rN (z : List (Int × Int)) (i : Nat) : Int := (z.getD i (0, 0)).1
def cN (z : List (Int × Int)) (i : Nat) : Int := (z.getD i (0, 0)).2
/-- the paragraph from a to b, of which the last part places part it from the next -/
structure ParOk (z : List (Int × Int)) (a b part : Nat) : Prop where
  lt : a < b
  le : b ≤ z.length
  two : part ≤ 2
  long : a + part ≤ b
  none_ : part = 0 → b = z.length
  inside : ∀ i, a ≤ i → i < b - part → cN z i ≠ 10
  one : part = 1 → cN z (b - 1) = 10 ∧ ¬ (rN z (b - 1) = 13 ∧ b < z.length ∧ rN z b = 10)
  pair : part = 2 → cN z (b - 2) = 10 ∧ rN z (b - 2) = 13 ∧ rN z (b - 1) = 10
def Chain (z : List (Int × Int)) : Nat → List Par → Prop
  | a, [] => a = z.length
  | a, p :: r => ∃ b part : Nat, p = ((a : Int), (b : Int), (part : Int)) ∧ ParOk z a b part ∧ Chain z b r
theorem drop_head {z : List (Int × Int)} {k : Nat} {x : Int × Int} {t : List (Int × Int)} (h : z.drop k = x :: t) : k < z.length ∧ rN z k = x.1 ∧ cN z k = x.2 ∧ z.drop (k + 1) = t := by
  have hlt : k < z.length := by
    have := congrArg List.length h
    simp at this; omega
  rw [List.drop_eq_getElem_cons hlt] at h
  injection h with h1 h2
  refine ⟨hlt, ?_, ?_, h2⟩
  · unfold rN; simp [List.getD_eq_getElem?_getD, List.getElem?_eq_getElem hlt, h1]
  · unfold cN; simp [List.getD_eq_getElem?_getD, List.getElem?_eq_getElem hlt, h1]
theorem chain_split (z : List (Int × Int)) : ∀ (m k f : Nat), z.length ≤ k + m → k ≤ z.length → f ≤ k → (∀ i, f ≤ i → i < k → cN z i ≠ 10) → Chain z f (splitF (z.drop k) k f) := by
  intro m
  induction m using Nat.strongRecOn with
  | _ m ih =>
  intro k f hm hk hf hin
  cases hd : z.drop k with
  | nil =>
    have hkn : k = z.length := by
      have := congrArg List.length hd
      simp at this; omega
    rw [splitF_nil]
    by_cases h : f < k
    · rw [if_pos h]
      exact ⟨k, 0, rfl, ⟨h, hk, by omega, by omega, fun _ => hkn, fun i h1 h2 => hin i h1 (by omega), fun h => by omega, fun h => by omega⟩, hkn⟩
    · rw [if_neg h]
      show f = z.length
      omega
  | cons x t =>
    obtain ⟨hlt, hr, hc, ht⟩ := drop_head hd
    obtain ⟨r, c⟩ := x
    simp only at hr hc
    by_cases hc10 : c = 10
    · subst hc10
      by_cases hn : r = 13 ∧ (t.head?.map (·.1)) = some 10
      · cases t with
        | nil => simp at hn
        | cons y t2 =>
          obtain ⟨r2, c2⟩ := y
          have h3 : r2 = 10 := by simpa using hn.2
          obtain ⟨hlt2, hr2, hc2, ht2⟩ := drop_head ht
          simp only at hr2
          rw [hn.1, h3, splitF_two]
          refine ⟨k + 2, 2, by simp, ⟨by omega, by omega, by omega, by omega, fun h => by omega, fun i h1 h2 => hin i h1 (by omega), fun h => by omega, fun _ => ⟨?_, ?_, ?_⟩⟩, ?_⟩
          · rw [show k + 2 - 2 = k by omega]; exact hc
          · rw [show k + 2 - 2 = k by omega, hr]; exact hn.1
          · rw [show k + 2 - 1 = k + 1 by omega, hr2]; exact h3
          · rw [← ht2]
            exact ih (m - 2) (by omega) (k + 2) (k + 2) (by omega) (by omega) (Nat.le_refl _) (fun i h1 h2 => by omega)
      · rw [splitF_one hn]
        refine ⟨k + 1, 1, by simp, ⟨by omega, by omega, by omega, by omega, fun h => by omega, fun i h1 h2 => hin i h1 (by omega), fun _ => ⟨?_, ?_⟩, fun h => by omega⟩, ?_⟩
        · rw [show k + 1 - 1 = k by omega]; exact hc
        · rw [show k + 1 - 1 = k by omega, hr]
          rintro ⟨a1, a2, a3⟩
          apply hn
          refine ⟨a1, ?_⟩
          cases t with
          | nil =>
            have := congrArg List.length ht
            simp at this; omega
          | cons y t2 =>
            have := (drop_head ht).2.1
            rw [a3] at this
            simp [← this]
        · rw [← ht]
          exact ih (m - 1) (by omega) (k + 1) (k + 1) (by omega) (by omega) (Nat.le_refl _) (fun i h1 h2 => by omega)
    · rw [splitF_no hc10 hf, ← ht]
      refine ih (m - 1) (by omega) (k + 1) f (by omega) (by omega) (by omega) (fun i h1 h2 => ?_)
      by_cases hik : i = k
      · subst hik; rw [hc]; exact hc10
      · exact hin i h1 (by omega)
/-- the paragraphs of a text -/
theorem chain_all (z : List (Int × Int)) : Chain z 0 (splitF z 0 0) :=
  chain_split z z.length 0 0 (by omega) (Nat.zero_le _) (Nat.le_refl _) (fun i h1 h2 => by omega)
end Go.Proofs.Ytkdgkjodllgalaa
