/-
  mirror: its table, what is found in it.
-/
import Derived.Test.YtkdgkjodllgalaaOpen
import Derived.BigQuiet
namespace Go.Proofs.Ytkdgkjodllgalaa
open Go.RowKit

def tabF : List (Int × Int) := [(40, 41), (60, 62), (91, 93), (123, 125), (171, 187), (8249, 8250), (8261, 8262), (8317, 8318), (8333, 8334), (8712, 8715), (8713, 8716), (8804, 8805), (8806, 8807), (8810, 8811), (8834, 8835), (8838, 8839), (8968, 8969), (8970, 8971), (9001, 9002), (10214, 10215), (10216, 10217), (10218, 10219), (10627, 10628), (12296, 12297), (12298, 12299), (12300, 12301), (12302, 12303), (12304, 12305), (12308, 12309), (12310, 12311), (65288, 65289), (65308, 65310), (65339, 65341), (65371, 65373), (65378, 65379)]
def cellsF : List Int := tabF.flatMap fun p => [p.1, p.2]
theorem cellsF_len : cellsF.length = 70 := by decide
theorem tabF_len : tabF.length = 35 := by decide
def pairCells : Array Value := #[.int .i32 40, .int .i32 41, .int .i32 60, .int .i32 62, .int .i32 91, .int .i32 93, .int .i32 123, .int .i32 125, .int .i32 171, .int .i32 187, .int .i32 8249, .int .i32 8250, .int .i32 8261, .int .i32 8262, .int .i32 8317, .int .i32 8318, .int .i32 8333, .int .i32 8334, .int .i32 8712, .int .i32 8715, .int .i32 8713, .int .i32 8716, .int .i32 8804, .int .i32 8805, .int .i32 8806, .int .i32 8807, .int .i32 8810, .int .i32 8811, .int .i32 8834, .int .i32 8835, .int .i32 8838, .int .i32 8839, .int .i32 8968, .int .i32 8969, .int .i32 8970, .int .i32 8971, .int .i32 9001, .int .i32 9002, .int .i32 10214, .int .i32 10215, .int .i32 10216, .int .i32 10217, .int .i32 10218, .int .i32 10219, .int .i32 10627, .int .i32 10628, .int .i32 12296, .int .i32 12297, .int .i32 12298, .int .i32 12299, .int .i32 12300, .int .i32 12301, .int .i32 12302, .int .i32 12303, .int .i32 12304, .int .i32 12305, .int .i32 12308, .int .i32 12309, .int .i32 12310, .int .i32 12311, .int .i32 65288, .int .i32 65289, .int .i32 65308, .int .i32 65310, .int .i32 65339, .int .i32 65341, .int .i32 65371, .int .i32 65373, .int .i32 65378, .int .i32 65379]
theorem pairCells_eq : pairCells = (cellsF.map (Value.int .i32)).toArray := by kernel_rfl

set_option maxRecDepth 100000 in
set_option maxHeartbeats 2000000 in
theorem pairs_any (w : World) :
    Calls Try.prog 21 #[] w fun e w' => e = .returned (.slice (some ⟨w.heap.size, 0, none⟩) 35 35) ∧ w' = w.alloc (.cells pairCells 44) := by
  go_enter Try.func21, Try.ntmps21
  go_wp2
  go_ret
  exact ⟨rfl, rfl⟩
end Go.Proofs.Ytkdgkjodllgalaa
