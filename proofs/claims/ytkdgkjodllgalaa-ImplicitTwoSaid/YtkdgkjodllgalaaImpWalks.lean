/-
  The walks of ImplicitSides and ImplicitTwo: each returns true for every class and level.
-/
import Derived.Test.YtkdgkjodllgalaaImp
namespace Go.Proofs.Ytkdgkjodllgalaa
open Go.RowKit

theorem levelF_bd (c l : Int) : l ≤ levelF c l ∧ levelF c l ≤ l + 2 := by
  unfold levelF; repeat' split
  all_goals omega
theorem levelF_two (c l : Int) : levelF c (l + 2) = levelF c l + 2 := by
  unfold levelF
  have : (l + 2) % 2 = l % 2 := by omega
  rw [this]; repeat' split
  all_goals omega
theorem levelF_plain (c l : Int) (h : 6 < c ∨ c = 2 ∨ c = 4 ∨ c = 5) : levelF c l = l := by
  unfold levelF
  rw [if_neg (by omega), if_neg (by omega), if_neg (by omega)]
theorem levelF_even (c l : Int) (h : c = 0 ∨ c = 3 ∨ c = 6) : levelF c l % 2 = 0 := by
  unfold levelF; repeat' split
  all_goals omega
theorem levelF_odd (l : Int) : levelF 1 l % 2 = 1 := by
  unfold levelF; repeat' split
  all_goals omega

set_option maxHeartbeats 1000000 in
theorem sides_any (a0 a1 : Int) (w : World) (hx1 : 0 ≤ a1) (hx2 : a1 ≤ 65535) :
    Calls Try.prog 4 #[.int .u8 a0, .int .u16 a1] w fun e w' => e = .returned (.bool true) ∧ Grown w w' := by
  have e0 : ((levelF 0 a1) % 2 != 0) = false := by rw [levelF_even 0 a1 (by omega)]; rfl
  have e3 : ((levelF 3 a1) % 2 != 0) = false := by rw [levelF_even 3 a1 (by omega)]; rfl
  have e6 : ((levelF 6 a1) % 2 != 0) = false := by rw [levelF_even 6 a1 (by omega)]; rfl
  have o1 : ((levelF 1 a1) % 2 == 1) = true := by rw [levelF_odd a1]; rfl
  have b0 := levelF_bd 0 a1
  have b3 := levelF_bd 3 a1
  have b6 := levelF_bd 6 a1
  have b1 := levelF_bd 1 a1
  have bb := levelF_bd a0 a1
  go_enter Try.func4, Try.ntmps4
  go_wp2_with (first
    | (go_at_call 14; refine (impAwake_any _).mono ?_; rintro e w' ⟨rfl, rfl⟩)
    | (go_at_call 15; refine (level_any _ _ _ (by omega) (by omega)).mono ?_; rintro e w' ⟨rfl, rfl⟩))
  refine wp_loop_rounds 4 ?_
  rw [rounds_succ]
  go_wp2_with (first
    | (go_at_call 15; refine (level_any _ _ _ (by omega) (by omega)).mono ?_; rintro e w' ⟨rfl, rfl⟩))
  rw [rounds_succ]
  go_wp2_with (first
    | (go_at_call 15; refine (level_any _ _ _ (by omega) (by omega)).mono ?_; rintro e w' ⟨rfl, rfl⟩))
  rw [rounds_succ]
  go_wp2_with (first
    | (go_at_call 15; refine (level_any _ _ _ (by omega) (by omega)).mono ?_; rintro e w' ⟨rfl, rfl⟩))
  rw [rounds_succ]
  go_wp2_with (first
    | (go_at_call 15; refine (level_any _ _ _ (by omega) (by omega)).mono ?_; rintro e w' ⟨rfl, rfl⟩))
  go_ret
  exact ⟨rfl, by repeat (first | exact Grown.refl _ | apply Grown.drew | apply Grown.alloc)⟩

set_option maxHeartbeats 1000000 in
theorem two_any (a0 a1 : Int) (w : World) (hx1 : 0 ≤ a1) (hx2 : a1 ≤ 65535) :
    Calls Try.prog 5 #[.int .u8 a0, .int .u16 a1] w fun e w' => e = .returned (.bool true) ∧ Grown w w' := by
  have b0 := levelF_bd a0 a1
  have t0 : (levelF a0 (a1 + 2) == levelF a0 a1 + 2) = true := by rw [levelF_two]; simp
  by_cases hp : 6 < a0 ∨ a0 = 2 ∨ a0 = 4 ∨ a0 = 5
  · have p0 : (levelF a0 a1 == a1) = true := by rw [levelF_plain a0 a1 hp]; simp
    go_enter Try.func5, Try.ntmps5
    go_wp2_with (first
      | (go_at_call 14; refine (impAwake_any _).mono ?_; rintro e w' ⟨rfl, rfl⟩)
      | (go_at_call 15; refine (level_any _ _ _ (by omega) (by omega)).mono ?_; rintro e w' ⟨rfl, rfl⟩))
    all_goals go_ret
    all_goals have hw2 : wrap64 (a1 + 2) = a1 + 2 := IntWalk.wrap64_in _ ⟨by omega, by omega⟩
    all_goals exact ⟨ret_bool (by simp_all), by repeat (first | exact Grown.refl _ | apply Grown.drew | apply Grown.alloc)⟩
  · have q1 : decide (6 < a0) = false := by simp; omega
    have q2 : (a0 == 2) = false := by simp; omega
    have q4 : (a0 == 4) = false := by simp; omega
    have q5 : (a0 == 5) = false := by simp; omega
    clear hp
    go_enter Try.func5, Try.ntmps5
    go_wp2_with (first
      | (go_at_call 14; refine (impAwake_any _).mono ?_; rintro e w' ⟨rfl, rfl⟩)
      | (go_at_call 15; refine (level_any _ _ _ (by omega) (by omega)).mono ?_; rintro e w' ⟨rfl, rfl⟩))
    all_goals go_ret
    all_goals exact ⟨ret_bool (by simp_all), by repeat (first | exact Grown.refl _ | apply Grown.drew | apply Grown.alloc)⟩
end Go.Proofs.Ytkdgkjodllgalaa
