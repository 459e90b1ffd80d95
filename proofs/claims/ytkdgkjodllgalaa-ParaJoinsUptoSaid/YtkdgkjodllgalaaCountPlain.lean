/-
  ParaCount: the plain law.
-/
import Derived.Test.YtkdgkjodllgalaaParaMake
namespace Go.Proofs.Ytkdgkjodllgalaa
open Go.RowKit

/-- the rune and the class that a number stands for -/
def runeF (n : Int) : Int := if n % 3 = 1 then 97 else if n % 3 = 0 then 13 else 10
def classF (n : Int) : Int := if runeF n = 97 then 0 else 10
/-- separators, from a place on; p: the rune before is a return -/
def wantF (p : Bool) : List Int → Int
  | [] => 0
  | n :: t => (if classF n = 10 ∧ ¬ (runeF n = 10 ∧ p = true) then 1 else 0) + wantF (runeF n == 13) t
def gotF (ps : List Par) : Int := ps.foldl (fun s p => if 0 < p.2.2 then s + 1 else s) 0
theorem gotF_shift (ps : List Par) (s : Int) : ps.foldl (fun s p => if 0 < p.2.2 then s + 1 else s) s = s + gotF ps := by
  induction ps generalizing s with
  | nil => simp [gotF]
  | cons p r ih =>
    unfold gotF
    simp only [List.foldl_cons]
    rw [ih, ih (if 0 < p.2.2 then 0 + 1 else 0)]
    split <;> omega
theorem gotF_cons (p : Par) (r : List Par) : gotF (p :: r) = (if 0 < p.2.2 then 1 else 0) + gotF r := by
  conv => lhs; unfold gotF
  simp only [List.foldl_cons]
  rw [gotF_shift]
  split <;> omega
theorem rune_cases (n : Int) : runeF n = 97 ∧ classF n = 0 ∨ runeF n = 13 ∧ classF n = 10 ∨ runeF n = 10 ∧ classF n = 10 := by
  unfold classF runeF
  repeat' split
  all_goals omega
theorem want_flag {p q : Bool} {n : Int} {t : List Int} (h : runeF n ≠ 10) : wantF p (n :: t) = wantF q (n :: t) := by
  unfold wantF; simp [h]
def zipF (ns : List Int) : List (Int × Int) := ns.map fun n => (runeF n, classF n)
theorem zip_zipF (ns : List Int) : (ns.map runeF).zip (ns.map classF) = zipF ns := by
  induction ns with
  | nil => rfl
  | cons n t ih => simp [zipF] at ih ⊢; exact ih
theorem count_eq : ∀ (m : Nat) (ns : List Int) (k f : Nat), ns.length ≤ m → f ≤ k → gotF (splitF (zipF ns) k f) = wantF false ns
  | _, [], k, f, _, _ => by
    rw [show zipF [] = [] from rfl, splitF_nil]
    split
    · simp [gotF, wantF]
    · simp [gotF, wantF]
  | 0, n :: t, k, f, h, _ => by simp at h
  | m + 1, n :: t, k, f, h, hf => by
    have ht : t.length ≤ m := by simpa using h
    rw [show zipF (n :: t) = (runeF n, classF n) :: zipF t from rfl]
    rcases rune_cases n with ⟨h1, h2⟩ | ⟨h1, h2⟩ | ⟨h1, h2⟩
    · rw [splitF_no (by omega) hf, count_eq m t (k + 1) f ht (by omega)]
      conv => rhs; unfold wantF
      simp [h1, h2]
    · rw [h1, h2]
      by_cases hn : ((zipF t).head?.map (·.1)) = some 10
      · match t, ht, hn with
        | [], _, hn => simp [zipF] at hn
        | n2 :: t2, ht, hn =>
          have h3 : runeF n2 = 10 := by simpa [zipF] using hn
          have h4 : classF n2 = 10 := by rcases rune_cases n2 with ⟨a, b⟩ | ⟨a, b⟩ | ⟨a, b⟩ <;> omega
          rw [show zipF (n2 :: t2) = (runeF n2, classF n2) :: zipF t2 from rfl, h3, h4, splitF_two, gotF_cons, count_eq m t2 (k + 2) (k + 2) (by simp at ht; omega) (Nat.le_refl _)]
          simp [wantF, h1, h2, h3, h4]
      · rw [splitF_one (by simp at hn ⊢; exact hn), gotF_cons, count_eq m t (k + 1) (k + 1) ht (Nat.le_refl _)]
        conv => rhs; unfold wantF
        have e : wantF false t = wantF (runeF n == 13) t := by
          match t, hn with
          | [], _ => rfl
          | n2 :: t2, hn => exact want_flag (by simpa [zipF] using hn)
        rw [← e]
        simp [h1, h2]
    · rw [h1, h2, splitF_one (by simp), gotF_cons, count_eq m t (k + 1) (k + 1) ht (Nat.le_refl _)]
      conv => rhs; unfold wantF
      simp [h1, h2]
end Go.Proofs.Ytkdgkjodllgalaa
