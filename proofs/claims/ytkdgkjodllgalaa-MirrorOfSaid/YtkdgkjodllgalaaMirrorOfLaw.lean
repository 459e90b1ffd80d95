/-
  MirrorOf: the walk.
-/
import Derived.Test.YtkdgkjodllgalaaMirrorOfWalk
namespace Go.Proofs.Ytkdgkjodllgalaa
open Go.RowKit

set_option maxRecDepth 100000 in
theorem tab_bd : ∀ p ∈ tabF, 0 ≤ p.1 ∧ p.1 ≤ 65535 ∧ 0 ≤ p.2 ∧ p.2 ≤ 65535 := by decide +kernel
theorem bracket_bd (r : Int) : 0 ≤ (bracketF r).2 ∧ (bracketF r).2 ≤ 65535 := by
  rcases hf : findL r tabF with _ | ⟨⟨x, y⟩, q⟩
  · rw [bracketF_none hf]; simp
  · have hb := tab_bd _ (findL_mem hf).1
    simp only at hb
    cases hp : plainF x
    · rw [bracketF_some hf hp]
      simp only
      split <;> omega
    · rw [bracketF_plain hf hp]; simp
/-- a rune's mirror, as the code and as the document tell it -/
theorem of_other (r : Int) : (ofF r).2 = false ∧ (ofF r).1 = r ∧ otherF r = -1 ∨ (ofF r).2 = true ∧ otherF r = (ofF r).1 ∧ 0 ≤ (ofF r).1 ∧ (ofF r).1 ≤ 65535 := by
  rcases hf : findL r tabF with _ | ⟨⟨x, y⟩, _ | _⟩
  · left; rw [ofF_none hf, otherF_none hf]; exact ⟨rfl, rfl, rfl⟩
  · have hb := tab_bd _ (findL_mem hf).1
    simp only at hb
    right; rw [ofF_left hf, otherF_left hf]; exact ⟨rfl, rfl, hb.2.2.1, hb.2.2.2⟩
  · have hb := tab_bd _ (findL_mem hf).1
    simp only at hb
    right; rw [ofF_right hf, otherF_right hf]; exact ⟨rfl, rfl, hb.1, hb.2.1⟩

set_option maxHeartbeats 1000000 in
theorem mirrorOf_walk (r : Int) (w : World) (hr1 : -2147483648 ≤ r) (hr2 : r ≤ 2147483647) : Calls Try.prog 11 #[.int .i32 r] w fun e w' => e = .returned (.bool true) ∧ Below w.heap.size w w' := by
  have hw : IntKind.i64.wrap r = r := IntWalk.i64_in _ (by omega)
  have hbd := bracket_bd r
  have hoo := of_other r
  go_enter Try.func11, Try.ntmps11
  go_wp2_with fail
  refine (awake05_any _).mono ?_
  rintro e w1 ⟨rfl, b1⟩
  go_wp2_with fail
  refine (of_any _ _).mono ?_
  rintro e w2 ⟨rfl, b2⟩
  have h2 := b1.trans (b2.mono b1.size)
  go_wp2_with fail
  try rw [hw]
  refine (mirror_any r _).mono ?_
  rintro e w3 ⟨rfl, b3⟩
  have h3 := h2.trans (b3.mono h2.size)
  go_wp2_with fail
  refine (bracket_any _ _).mono ?_
  rintro e w4 ⟨rfl, b4⟩
  have h4 := h3.trans (b4.mono h3.size)
  go_wp2_with fail
  try rw [hw]
  refine (bracketRef_any r _).mono ?_
  rintro e w5 ⟨rfl, b5⟩
  have h5 := h4.trans (b5.mono h4.size)
  obtain ⟨q1, q2⟩ := hbd
  generalize (bracketF r).1 = s at *
  generalize (bracketF r).2 = i at *
  have hwi : IntKind.i64.wrap i = i := IntWalk.i64_in _ (by omega)
  have di : (i == i) = true := by simp
  have ds : (s == s) = true := by simp
  clear b1 b2 b3 b4 b5 h2 h3 h4
  rcases hoo with ⟨o1, o2, o3⟩ | ⟨o1, o2, o3, o4⟩
  · rw [o1, o2, o3]
    clear o1 o2 o3
    go_wp2_with fail
    go_ret
    exact ⟨by simp, h5⟩
  · rw [o1, o2]
    generalize (ofF r).1 = m at *
    have hwm : IntKind.i64.wrap m = m := IntWalk.i64_in _ (by omega)
    have dm : (m != m) = false := by simp
    have dg : decide (0 ≤ m) = true := decide_eq_true o3
    clear o1 o2
    go_wp2_with fail
    go_ret
    exact ⟨by simp, h5⟩
end Go.Proofs.Ytkdgkjodllgalaa
