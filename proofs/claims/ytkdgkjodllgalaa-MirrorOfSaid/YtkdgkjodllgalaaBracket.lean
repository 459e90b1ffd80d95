/-
  mirror.Of, mirror.plain and mirror.Bracket: their contracts.
-/
import Derived.Test.YtkdgkjodllgalaaFind
namespace Go.Proofs.Ytkdgkjodllgalaa
open Go.RowKit

theorem below_drewN {B : Nat} {a w : World} (h : Below B a w) (n : Nat) : Below B a (w.drewN n) := h.trans ⟨rfl, rfl, rfl, Nat.le_refl _, fun _ _ => rfl⟩

def ofF (r : Int) : Int × Bool :=
  match findL r tabF with
  | none => (r, false)
  | some (p, true) => (p.1, true)
  | some (p, false) => (p.2, true)

theorem ofF_none {r : Int} (h : findL r tabF = none) : ofF r = (r, false) := by unfold ofF; rw [h]
theorem ofF_left {r x y : Int} (h : findL r tabF = some ((x, y), false)) : ofF r = (y, true) := by unfold ofF; rw [h]
theorem ofF_right {r x y : Int} (h : findL r tabF = some ((x, y), true)) : ofF r = (x, true) := by unfold ofF; rw [h]

set_option maxHeartbeats 1000000 in
theorem of_any (r : Int) (w : World) :
    Calls Try.prog 23 #[.int .i32 r] w fun e w' => e = .returned (.tuple #[.int .i32 (ofF r).1, .bool (ofF r).2]) ∧ Below w.heap.size w w' := by
  rcases hf : findL r tabF with _ | ⟨⟨x, y⟩, _ | _⟩
  · rw [ofF_none hf]
    go_enter Try.func23, Try.ntmps23
    go_wp2_with fail
    refine (find_any _ _).mono ?_
    rintro e w1 ⟨rfl, hb⟩
    have hbs := hb.size
    rw [hf, findV]
    clear hf
    go_wp2_with fail
    go_ret2
    exact ⟨rfl, hb.alloc hb.size _⟩
  · rw [ofF_left hf]
    go_enter Try.func23, Try.ntmps23
    go_wp2_with fail
    refine (find_any _ _).mono ?_
    rintro e w1 ⟨rfl, hb⟩
    have hbs := hb.size
    rw [hf, findV]
    clear hf
    go_wp2_with fail
    go_ret2
    exact ⟨rfl, hb.alloc hb.size _⟩
  · rw [ofF_right hf]
    go_enter Try.func23, Try.ntmps23
    go_wp2_with fail
    refine (find_any _ _).mono ?_
    rintro e w1 ⟨rfl, hb⟩
    have hbs := hb.size
    rw [hf, findV]
    clear hf
    go_wp2_with fail
    go_ret2
    exact ⟨rfl, hb.alloc hb.size _⟩

def plainL : List Int := [60, 171, 8249, 8712, 8713, 8804, 8806, 8810, 8834, 8838, 65308]
def plainF (r : Int) : Bool := r == 60 || r == 171 || r == 8249 || r == 8712 || r == 8713 || r == 8804 || r == 8806 || r == 8810 || r == 8834 || r == 8838 || r == 65308

set_option maxHeartbeats 1000000 in
theorem plain_any (r : Int) (w : World) :
    Calls Try.prog 28 #[.int .i32 r] w fun e w' => e = .returned (.bool (plainF r)) ∧ w' = w := by
  go_enter Try.func28, Try.ntmps28
  go_wp2_with fail
  all_goals go_ret
  all_goals refine ⟨ret_bool ?_, rfl⟩
  all_goals (unfold plainF; simp_all)

def bracketF (r : Int) : Int × Int :=
  match findL r tabF with
  | none => (0, 0)
  | some (p, q) => if plainF p.1 then (0, 0) else (if q then 2 else 1, if p.1 = 9001 then 12296 else p.1)

theorem bracketF_none {r : Int} (h : findL r tabF = none) : bracketF r = (0, 0) := by unfold bracketF; rw [h]
theorem bracketF_plain {r x y : Int} {q : Bool} (h : findL r tabF = some ((x, y), q)) (hp : plainF x = true) : bracketF r = (0, 0) := by unfold bracketF; rw [h]; simp [hp]
theorem bracketF_some {r x y : Int} {q : Bool} (h : findL r tabF = some ((x, y), q)) (hp : plainF x = false) : bracketF r = (if q then 2 else 1, if x = 9001 then 12296 else x) := by unfold bracketF; rw [h]; simp [hp]

set_option maxHeartbeats 1000000 in
theorem bracket_any (r : Int) (w : World) :
    Calls Try.prog 25 #[.int .i32 r] w fun e w' => e = .returned (.tuple #[.int .i64 (bracketF r).1, .int .i32 (bracketF r).2]) ∧ Below w.heap.size w w' := by
  rcases hf : findL r tabF with _ | ⟨⟨x, y⟩, q⟩
  · rw [bracketF_none hf]
    go_enter Try.func25, Try.ntmps25
    go_wp2_with fail
    refine (find_any _ _).mono ?_
    rintro e w1 ⟨rfl, hb⟩
    have hbs := hb.size
    rw [hf, findV]
    clear hf
    go_wp2_with fail
    go_ret2
    exact ⟨rfl, hb.alloc hb.size _⟩
  · cases hp : plainF x
    · rw [bracketF_some hf hp]
      by_cases h9 : x = 9001
      · subst h9
        cases q
        all_goals rw [if_pos rfl]
        all_goals go_enter Try.func25, Try.ntmps25
        all_goals go_wp2_with fail
        all_goals refine (find_any _ _).mono ?_
        all_goals rintro e w1 ⟨rfl, hb⟩
        all_goals have hbs := hb.size
        all_goals rw [hf, findV]
        all_goals clear hf
        all_goals go_wp2_with fail
        all_goals refine (plain_any _ _).mono ?_
        all_goals rintro e w' ⟨rfl, rfl⟩
        all_goals rw [hp]
        all_goals clear hp
        all_goals go_wp2_with fail
        all_goals go_quiet (fail)
        all_goals go_wp2_with fail
        all_goals go_ret2
        all_goals refine ⟨by simp, ?_⟩
        all_goals exact below_drewN (hb.alloc hb.size _) _
      · cases q
        all_goals rw [if_neg h9]
        all_goals go_enter Try.func25, Try.ntmps25
        all_goals go_wp2_with fail
        all_goals refine (find_any _ _).mono ?_
        all_goals rintro e w1 ⟨rfl, hb⟩
        all_goals have hbs := hb.size
        all_goals rw [hf, findV]
        all_goals clear hf
        all_goals go_wp2_with fail
        all_goals refine (plain_any _ _).mono ?_
        all_goals rintro e w' ⟨rfl, rfl⟩
        all_goals rw [hp]
        all_goals clear hp
        all_goals have d9 : (x == 9001) = false := beq_eq_false_iff_ne.2 h9
        all_goals clear h9
        all_goals go_wp2_with fail
        all_goals go_quiet (fail)
        all_goals go_wp2_with fail
        all_goals go_ret2
        all_goals refine ⟨by simp, ?_⟩
        all_goals exact below_drewN (hb.alloc hb.size _) _
    · rw [bracketF_plain hf hp]
      go_enter Try.func25, Try.ntmps25
      go_wp2_with fail
      refine (find_any _ _).mono ?_
      rintro e w1 ⟨rfl, hb⟩
      have hbs := hb.size
      rw [hf, findV]
      clear hf
      go_wp2_with fail
      refine (plain_any _ _).mono ?_
      rintro e w' ⟨rfl, rfl⟩
      rw [hp]
      clear hp
      go_wp2_with fail
      go_ret2
      exact ⟨rfl, hb.alloc hb.size _⟩
end Go.Proofs.Ytkdgkjodllgalaa
