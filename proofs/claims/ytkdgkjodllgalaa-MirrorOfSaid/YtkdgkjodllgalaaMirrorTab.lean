/-
  The document's tables: boustrophedonref04.Mirrors.
-/
import Derived.Test.YtkdgkjodllgalaaMirrorTwo
namespace Go.Proofs.Ytkdgkjodllgalaa
open Go.RowKit

def wideCells : Array Value := #[.int .i64 40, .int .i64 41, .int .i64 60, .int .i64 62, .int .i64 91, .int .i64 93, .int .i64 123, .int .i64 125, .int .i64 171, .int .i64 187, .int .i64 8249, .int .i64 8250, .int .i64 8261, .int .i64 8262, .int .i64 8317, .int .i64 8318, .int .i64 8333, .int .i64 8334, .int .i64 8712, .int .i64 8715, .int .i64 8713, .int .i64 8716, .int .i64 8804, .int .i64 8805, .int .i64 8806, .int .i64 8807, .int .i64 8810, .int .i64 8811, .int .i64 8834, .int .i64 8835, .int .i64 8838, .int .i64 8839, .int .i64 8968, .int .i64 8969, .int .i64 8970, .int .i64 8971, .int .i64 9001, .int .i64 9002, .int .i64 10214, .int .i64 10215, .int .i64 10216, .int .i64 10217, .int .i64 10218, .int .i64 10219, .int .i64 10627, .int .i64 10628, .int .i64 12296, .int .i64 12297, .int .i64 12298, .int .i64 12299, .int .i64 12300, .int .i64 12301, .int .i64 12302, .int .i64 12303, .int .i64 12304, .int .i64 12305, .int .i64 12308, .int .i64 12309, .int .i64 12310, .int .i64 12311, .int .i64 65288, .int .i64 65289, .int .i64 65308, .int .i64 65310, .int .i64 65339, .int .i64 65341, .int .i64 65371, .int .i64 65373, .int .i64 65378, .int .i64 65379]

set_option maxRecDepth 100000 in
set_option maxHeartbeats 2000000 in
theorem mirrors_any (w : World) :
    Calls Try.prog 22 #[] w fun e w' => e = .returned (.slice (some ⟨w.heap.size, 0, none⟩) 35 35) ∧ w' = w.alloc (.cells wideCells 45) := by
  go_enter Try.func22, Try.ntmps22
  go_wp2
  go_ret
  exact ⟨rfl, rfl⟩

theorem wide_cell {g k : Nat} {w : World} {p : Int × Int} (h : w.heap[g]? = some (.cells wideCells 45)) (hk : tabF[k]? = some p) :
    w.cell? ⟨g, k * 2, none⟩ = some (.int .i64 p.1) ∧ w.cell? ⟨g, k * 2 + 1, none⟩ = some (.int .i64 p.2) := by
  have hlt : k < 35 := by
    have := (List.getElem?_eq_some_iff.1 hk).1
    rw [tabF_len] at this; exact this
  have key : ∀ j : Fin 35, ∃ q : Int × Int, tabF[j.val]? = some q ∧ wideCells[j.val * 2]? = some (.int .i64 q.1) ∧ wideCells[j.val * 2 + 1]? = some (.int .i64 q.2) := by
    intro j
    match j with
    | ⟨j, hj⟩ =>
      have : j = 0 ∨ j = 1 ∨ j = 2 ∨ j = 3 ∨ j = 4 ∨ j = 5 ∨ j = 6 ∨ j = 7 ∨ j = 8 ∨ j = 9 ∨ j = 10 ∨ j = 11 ∨ j = 12 ∨ j = 13 ∨ j = 14 ∨ j = 15 ∨ j = 16 ∨ j = 17 ∨ j = 18 ∨ j = 19 ∨ j = 20 ∨ j = 21 ∨ j = 22 ∨ j = 23 ∨ j = 24 ∨ j = 25 ∨ j = 26 ∨ j = 27 ∨ j = 28 ∨ j = 29 ∨ j = 30 ∨ j = 31 ∨ j = 32 ∨ j = 33 ∨ j = 34 := by omega
      rcases this with rfl | rfl | rfl | rfl | rfl | rfl | rfl | rfl | rfl | rfl | rfl | rfl | rfl | rfl | rfl | rfl | rfl | rfl | rfl | rfl | rfl | rfl | rfl | rfl | rfl | rfl | rfl | rfl | rfl | rfl | rfl | rfl | rfl | rfl | rfl <;> exact ⟨_, rfl, rfl, rfl⟩
  obtain ⟨q, h1, h2, h3⟩ := key ⟨k, hlt⟩
  rw [hk] at h1
  obtain rfl := Option.some.inj h1
  exact ⟨by rw [cell_of_row _ _ _ _ _ _ h]; exact h2, by rw [cell_of_row _ _ _ _ _ _ h]; exact h3⟩

end Go.Proofs.Ytkdgkjodllgalaa
