/-
  boustrophedonref04.Mirror, and MirrorPairs: the walks.
-/
import Derived.Test.YtkdgkjodllgalaaMirrorTab
namespace Go.Proofs.Ytkdgkjodllgalaa
open Go.RowKit

/-- the other one of a rune's pair -/
def otherF (r : Int) : Int :=
  match findL r tabF with
  | none => -1
  | some (p, q) => if q then p.1 else p.2
theorem otherF_none {r : Int} (h : findL r tabF = none) : otherF r = -1 := by unfold otherF; rw [h]
theorem otherF_left {r x y : Int} (h : findL r tabF = some ((x, y), false)) : otherF r = y := by unfold otherF; rw [h]; rfl
theorem otherF_right {r x y : Int} (h : findL r tabF = some ((x, y), true)) : otherF r = x := by unfold otherF; rw [h]; rfl

set_option maxHeartbeats 1000000 in
theorem mirror_any (r : Int) (w : World) :
    Calls Try.prog 24 #[.int .i64 r] w fun e w' => e = .returned (.int .i64 (otherF r)) ∧ Below w.heap.size w w' := by
  go_enter Try.func24, Try.ntmps24
  go_wp2_with fail
  refine (mirrors_any _).mono ?_
  rintro e w1 ⟨rfl, rfl⟩
  have B0 : Below w.heap.size w (w.alloc (.cells wideCells 45)) := (Below.refl _ _).alloc (Nat.le_refl _) _
  have hg : (w.alloc (.cells wideCells 45)).heap[w.heap.size]? = some (.cells wideCells 45) := heap_alloc_new w _
  generalize w.alloc (.cells wideCells 45) = w1 at *
  go_wp2_with fail
  go_loop [4] (fun i => ∃ k : Nat, k ≤ 35 ∧ i = .int .i64 k ∧ Hid (findL r tabF = findL r (tabF.drop k))) (fun i => 35 - (intOf i).toNat)
  case atStart => exact ⟨0, by omega, rfl, Lib.hid rfl⟩
  case round =>
    obtain ⟨k, hk, rfl, hf⟩ := hrel
    by_cases hlt : k < 35
    · have hx : ∃ p, tabF[k]? = some p := ⟨_, List.getElem?_eq_getElem (by rw [tabF_len]; exact hlt)⟩
      obtain ⟨p, hp⟩ := hx
      obtain ⟨c1, c2⟩ := wide_cell hg hp
      have hd : Hid (tabF.drop k = p :: tabF.drop (k + 1)) := by
        rw [List.getElem?_eq_some_iff] at hp
        obtain ⟨h1, h2⟩ := hp
        rw [← h2]
        exact Lib.hid (List.drop_eq_getElem_cons h1)
      obtain ⟨x, y⟩ := p
      simp only at c1 c2
      clear hg hp
      by_cases h1 : x = r
      · have H1 := Lib.hid h1
        have d1 : (x == r) = true := beq_iff_eq.2 h1
        clear h1
        go_wp2_with fail
        go_ret
        refine ⟨ret_int ?_, B0⟩
        rw [otherF_left]
        rw [hf.out, hd.out, findL, if_pos H1.out.symm]
      · have d1 : (x == r) = false := beq_eq_false_iff_ne.2 h1
        by_cases h2 : y = r
        · have H2 := Lib.hid h2
          have d2 : (y == r) = true := beq_iff_eq.2 h2
          clear h2
          go_wp2_with fail
          go_ret
          refine ⟨ret_int ?_, B0⟩
          rw [otherF_right]
          rw [hf.out, hd.out, findL, if_neg (fun h => h1 h.symm), if_pos H2.out.symm]
        · have d2 : (y == r) = false := beq_eq_false_iff_ne.2 h2
          go_wp2_with fail
          go_round
          case rel => exact ⟨k + 1, by omega, by go_num, Lib.hid (by rw [hf.out, hd.out, findL, if_neg (fun h => h1 h.symm), if_neg (fun h => h2 h.symm)])⟩
          case measure => simp [intOf]; omega
    · have hkk : k = 35 := by omega
      subst hkk
      have hd : findL r tabF = none := by
        rw [hf.out, List.drop_of_length_le (Nat.le_of_eq tabF_len)]
        rfl
      have HD := Lib.hid (otherF_none hd)
      clear hd hf
      go_wp2_with fail
      go_ret
      exact ⟨ret_int HD.out.symm, B0⟩

set_option maxHeartbeats 1000000 in
theorem mirrorPairs_walk (k : Int) (w : World) (h1 : 0 ≤ k) (h2 : k ≤ 255) : Calls Try.prog 10 #[.int .u8 k] w fun e w' => e = .returned (.bool true) ∧ Below w.heap.size w w' := by
  go_enter Try.func10, Try.ntmps10
  go_wp2_with fail
  refine (awake05_any _).mono ?_
  rintro e w1 ⟨rfl, b1⟩
  go_wp2_with fail
  refine (pairs_any _).mono ?_
  rintro e w2 ⟨rfl, rfl⟩
  have hbs := b1.size
  have hg : (w1.alloc (.cells pairCells 44)).heap[w1.heap.size]? = some (.cells pairCells 44) := heap_alloc_new _ _
  have b2 := b1.alloc b1.size (.cells pairCells 44)
  have hs2 : w1.heap.size < (w1.alloc (.cells pairCells 44)).heap.size := by simp
  generalize w1.alloc (.cells pairCells 44) = w2 at *
  go_wp2_with fail
  refine (mirrors_any _).mono ?_
  rintro e w3 ⟨rfl, rfl⟩
  have hg2 : (w2.alloc (.cells wideCells 45)).heap[w2.heap.size]? = some (.cells wideCells 45) := heap_alloc_new _ _
  have hg3 : (w2.alloc (.cells wideCells 45)).heap[w1.heap.size]? = some (.cells pairCells 44) := by rw [((Below.refl w2.heap.size w2).alloc (Nat.le_refl _) _).block _ hs2]; exact hg
  have b3 := b2.alloc b2.size (.cells wideCells 45)
  generalize w2.alloc (.cells wideCells 45) = w3 at *
  obtain ⟨m, hm⟩ : ∃ m : Nat, k % 35 = m := ⟨(k % 35).toNat, by omega⟩
  have hm35 : m < 35 := by omega
  have hx : ∃ p, tabF[m]? = some p := ⟨_, List.getElem?_eq_getElem (by rw [tabF_len]; exact hm35)⟩
  obtain ⟨p, hp⟩ := hx
  obtain ⟨c1, c2⟩ := pair_cell hg3 hp
  obtain ⟨c3, c4⟩ := wide_cell hg2 hp
  have hr : ∀ p ∈ tabF, -2147483648 ≤ p.1 ∧ p.1 ≤ 2147483647 ∧ -2147483648 ≤ p.2 ∧ p.2 ≤ 2147483647 := by decide +kernel
  have hr := hr p (List.mem_of_getElem? hp)
  obtain ⟨x, y⟩ := p
  simp only at c1 c2 c3 c4 hr
  obtain ⟨r1, r2, r3, r4⟩ := hr
  have e1 : IntKind.i64.wrap x = x := IntWalk.i64_in _ (by omega)
  have e2 : IntKind.i64.wrap y = y := IntWalk.i64_in _ (by omega)
  have e3 : (x == x) = true := by simp
  have e4 : (y == y) = true := by simp
  clear hp hg hg2 hg3
  go_wp2_with fail
  go_quiet (fail)
  go_wp2_with fail
  go_ret
  exact ⟨rfl, below_drewN b3 _⟩
end Go.Proofs.Ytkdgkjodllgalaa
