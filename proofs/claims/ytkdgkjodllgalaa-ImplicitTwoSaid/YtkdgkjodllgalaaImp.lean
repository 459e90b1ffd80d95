/-
  The contracts of implicit.Level, boustrophedonref14.Implicit and boustrophedonlaw17.awake: for every class 0..255 and level 0..70000.
-/
import Derived.Test.YtkdgkjodllgalaaRows
import Derived.WalkKit
import Derived.ProofKit
import Derived.OpenShut
namespace Go.Proofs.Ytkdgkjodllgalaa
open Go.RowKit

def levelF (c l : Int) : Int :=
  if c = 1 then (if l % 2 = 1 then l else l + 1)
  else if c = 6 ∨ c = 3 then (if l % 2 = 1 then l + 1 else l + 2)
  else if c = 0 then (if l % 2 = 1 then l + 1 else l)
  else l

theorem ret_int {k : IntKind} {a b : Int} (h : a = b) : Ending.returned (.int k a) = .returned (.int k b) := by rw [h]
theorem ret_bool {a b : Bool} (h : a = b) : Ending.returned (.bool a) = .returned (.bool b) := by rw [h]

theorem level_any (c l : Int) (w : World) (hl : 0 ≤ l) (hl2 : l ≤ 70000) :
    Calls Try.prog 15 #[.int .u8 c, .int .i64 l] w fun e w' => e = .returned (.int .i64 (levelF c l)) ∧ w = w' := by
  go_enter Try.func15, Try.ntmps15
  go_wp2
  all_goals go_ret
  all_goals refine ⟨ret_int ?_, rfl⟩
  all_goals unfold levelF
  all_goals simp_all
  all_goals omega

theorem ref_any (c l : Int) (w : World) (hl : 0 ≤ l) (hl2 : l ≤ 70000) :
    Calls Try.prog 16 #[.int .i64 c, .int .i64 l] w fun e w' => e = .returned (.int .i64 (levelF c l)) ∧ w = w' := by
  go_enter Try.func16, Try.ntmps16
  go_wp2
  all_goals go_ret
  all_goals refine ⟨ret_int ?_, rfl⟩
  all_goals unfold levelF
  all_goals simp_all
  all_goals omega

theorem impAwake_any (w : World) :
    Calls Try.prog 14 #[] w fun e w' => e = .returned (.bool true) ∧ w = w' := by
  go_enter Try.func14, Try.ntmps14
  go_wp2
  all_goals go_ret
  all_goals exact ⟨rfl, rfl⟩
end Go.Proofs.Ytkdgkjodllgalaa
