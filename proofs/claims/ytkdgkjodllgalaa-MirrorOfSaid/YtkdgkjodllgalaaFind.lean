/-
  mirror.find: its contract.
-/
import Derived.Test.YtkdgkjodllgalaaMirror
namespace Go.Proofs.Ytkdgkjodllgalaa
open Go.RowKit

def findL (r : Int) : List (Int × Int) → Option ((Int × Int) × Bool)
  | [] => none
  | p :: t => if r = p.1 then some (p, false) else if r = p.2 then some (p, true) else findL r t
def findV : Option ((Int × Int) × Bool) → Value
  | none => .tuple #[.agg #[.int .i32 0, .int .i32 0], .bool false, .bool false]
  | some (p, q) => .tuple #[.agg #[.int .i32 p.1, .int .i32 p.2], .bool q, .bool true]
theorem pair_cell {g k : Nat} {w : World} {p : Int × Int} (h : w.heap[g]? = some (.cells pairCells 44)) (hk : tabF[k]? = some p) :
    w.cell? ⟨g, k * 2, none⟩ = some (.int .i32 p.1) ∧ w.cell? ⟨g, k * 2 + 1, none⟩ = some (.int .i32 p.2) := by
  have hlt : k < 35 := by
    have := (List.getElem?_eq_some_iff.1 hk).1
    rw [tabF_len] at this; exact this
  have key : ∀ j : Fin 35, ∃ q : Int × Int, tabF[j.val]? = some q ∧ pairCells[j.val * 2]? = some (.int .i32 q.1) ∧ pairCells[j.val * 2 + 1]? = some (.int .i32 q.2) := by
    intro j
    match j with
    | ⟨j, hj⟩ =>
      have : j = 0 ∨ j = 1 ∨ j = 2 ∨ j = 3 ∨ j = 4 ∨ j = 5 ∨ j = 6 ∨ j = 7 ∨ j = 8 ∨ j = 9 ∨ j = 10 ∨ j = 11 ∨ j = 12 ∨ j = 13 ∨ j = 14 ∨ j = 15 ∨ j = 16 ∨ j = 17 ∨ j = 18 ∨ j = 19 ∨ j = 20 ∨ j = 21 ∨ j = 22 ∨ j = 23 ∨ j = 24 ∨ j = 25 ∨ j = 26 ∨ j = 27 ∨ j = 28 ∨ j = 29 ∨ j = 30 ∨ j = 31 ∨ j = 32 ∨ j = 33 ∨ j = 34 := by omega
      rcases this with rfl | rfl | rfl | rfl | rfl | rfl | rfl | rfl | rfl | rfl | rfl | rfl | rfl | rfl | rfl | rfl | rfl | rfl | rfl | rfl | rfl | rfl | rfl | rfl | rfl | rfl | rfl | rfl | rfl | rfl | rfl | rfl | rfl | rfl | rfl <;> exact ⟨_, rfl, rfl, rfl⟩
  obtain ⟨q, h1, h2, h3⟩ := key ⟨k, hlt⟩
  rw [hk] at h1
  obtain rfl := Option.some.inj h1
  exact ⟨by rw [cell_of_row _ _ _ _ _ _ h]; exact h2, by rw [cell_of_row _ _ _ _ _ _ h]; exact h3⟩

theorem frozen_cells {w : World} {g : Nat} {cs : Array Value} {e : TypeId} (h : w.heap[g]? = some (.cells cs e)) (k : Nat) : w.frozen? ⟨g, k, none⟩ = false := by simp [World.frozen?, h]

set_option maxHeartbeats 1000000 in
theorem find_any (r : Int) (w : World) :
    Calls Try.prog 27 #[.int .i32 r] w fun e w' => e = .returned (findV (findL r tabF)) ∧ Below w.heap.size w w' := by
  go_enter Try.func27, Try.ntmps27
  go_wp2_with fail
  refine (pairs_any _).mono ?_
  rintro e w1 ⟨rfl, rfl⟩
  have B0 : Below w.heap.size w ((w.alloc (.cells #[.int .i32 0, .int .i32 0] 44)).alloc (.cells pairCells 44)) := ((Below.refl _ _).alloc (Nat.le_refl _) _).alloc (by simp) _
  have hg : ((w.alloc (.cells #[.int .i32 0, .int .i32 0] 44)).alloc (.cells pairCells 44)).heap[w.heap.size + 1]? = some (.cells pairCells 44) := by
    have := heap_alloc_new (w.alloc (.cells #[.int .i32 0, .int .i32 0] 44)) (.cells pairCells 44)
    simpa using this
  have hz : ((w.alloc (.cells #[.int .i32 0, .int .i32 0] 44)).alloc (.cells pairCells 44)).heap[w.heap.size]? = some (.cells #[.int .i32 0, .int .i32 0] 44) := by
    have h1 := ((Below.refl (w.heap.size + 1) (w.alloc (.cells #[.int .i32 0, .int .i32 0] 44))).alloc (by simp) (.cells pairCells 44)).block w.heap.size (by omega)
    rw [h1]
    exact heap_alloc_new w _
  have hs : w.heap.size + 2 ≤ ((w.alloc (.cells #[.int .i32 0, .int .i32 0] 44)).alloc (.cells pairCells 44)).heap.size := by simp
  generalize (w.alloc (.cells #[.int .i32 0, .int .i32 0] 44)).alloc (.cells pairCells 44) = w1 at *
  go_wp2_with fail
  go_loopg [9] 36 (fun m i wr => ∃ k : Nat, k ≤ 35 ∧ m = 35 - k + 1 ∧ i = .int .i64 k ∧ Hid (findL r tabF = findL r (tabF.drop k)) ∧ Below (w.heap.size + 2) w1 wr)
  case atStart => exact ⟨0, by omega, rfl, rfl, Lib.hid rfl, Below.refl _ _⟩
  case round =>
    obtain ⟨k, hk, hm, rfl, hf, hb⟩ := hrel
    have Hm := Lib.hid hm
    clear hm
    have hbs := hb.size
    have Bw : Below w.heap.size w wr := B0.trans (hb.mono (by omega))
    have hz' : wr.heap[w.heap.size]? = some (.cells #[.int .i32 0, .int .i32 0] 44) := by rw [hb.block _ (by omega)]; exact hz
    by_cases hlt : k < 35
    · have hx : ∃ p, tabF[k]? = some p := ⟨_, List.getElem?_eq_getElem (by rw [tabF_len]; exact hlt)⟩
      obtain ⟨p, hp⟩ := hx
      have hg' : wr.heap[w.heap.size + 1]? = some (.cells pairCells 44) := by rw [hb.block _ (by omega)]; exact hg
      obtain ⟨c1, c2⟩ := pair_cell hg' hp
      have hd : Hid (tabF.drop k = p :: tabF.drop (k + 1)) := by
        rw [List.getElem?_eq_some_iff] at hp
        obtain ⟨h1, h2⟩ := hp
        rw [← h2]
        exact Lib.hid (List.drop_eq_getElem_cons h1)
      obtain ⟨x, y⟩ := p
      simp only at c1 c2
      have Ba := (Below.refl wr.heap.size wr).alloc (Nat.le_refl _) (.cells #[.int .i32 x, .int .i32 y] 44)
      have hz2 : (wr.alloc (.cells #[.int .i32 x, .int .i32 y] 44)).heap[w.heap.size]? = some (.cells #[.int .i32 0, .int .i32 0] 44) := by rw [Ba.block _ (by omega)]; exact hz'
      have z0 : (wr.alloc (.cells #[.int .i32 x, .int .i32 y] 44)).cell? ⟨w.heap.size, 0, none⟩ = some (.int .i32 0) := by rw [cell_of_row _ _ _ _ _ _ hz2]; rfl
      have z1 : (wr.alloc (.cells #[.int .i32 x, .int .i32 y] 44)).cell? ⟨w.heap.size, 1, none⟩ = some (.int .i32 0) := by rw [cell_of_row _ _ _ _ _ _ hz2]; rfl
      have f0 := frozen_cells hz2 0
      have f1 := frozen_cells hz2 1
      have hne : wr.heap.size ≠ w.heap.size := by omega
      clear hg hg' hp hz hz' hz2 Ba
      by_cases h1 : r = x
      · have H1 := Lib.hid h1
        have d1 : (r == x) = true := by simp [h1]
        clear h1
        go_wp2_with fail
        (try simp only [Exit.inBlock, Exit.then])
        refine bodyPost_ret (v := .tuple #[.agg #[.int .i32 x, .int .i32 y], .bool false, .bool true]) (by simp [results, Try.results27, go_sem, z0, z1]) rfl ?_
        refine ⟨?_, ((Bw.alloc Bw.size _).setCell (Nat.le_refl _) _).setCell (Nat.le_refl _) _⟩
        rw [hf.out, hd.out, findL, if_pos H1.out]
        rfl
      · have d1 : (r == x) = false := beq_eq_false_iff_ne.2 h1
        by_cases h2 : r = y
        · have H2 := Lib.hid h2
          have d2 : (r == y) = true := by simp [h2]
          clear h2
          go_wp2_with fail
          (try simp only [Exit.inBlock, Exit.then])
          refine bodyPost_ret (v := .tuple #[.agg #[.int .i32 x, .int .i32 y], .bool true, .bool true]) (by simp [results, Try.results27, go_sem, z0, z1]) rfl ?_
          refine ⟨?_, ((Bw.alloc Bw.size _).setCell (Nat.le_refl _) _).setCell (Nat.le_refl _) _⟩
          rw [hf.out, hd.out, findL, if_neg h1, if_pos H2.out]
          rfl
        · have d2 : (r == y) = false := beq_eq_false_iff_ne.2 h2
          go_wp2_with fail
          go_roundg (35 - k)
          case measure => have := Hm.out; omega
          case rel => exact ⟨k + 1, by omega, by omega, by go_num, Lib.hid (by rw [hf.out, hd.out, findL, if_neg h1, if_neg h2]), hb.alloc (by omega) _⟩
    · have z0 : wr.cell? ⟨w.heap.size, 0, none⟩ = some (.int .i32 0) := by rw [cell_of_row _ _ _ _ _ _ hz']; rfl
      have z1 : wr.cell? ⟨w.heap.size, 1, none⟩ = some (.int .i32 0) := by rw [cell_of_row _ _ _ _ _ _ hz']; rfl
      have f0 := frozen_cells hz' 0
      have f1 := frozen_cells hz' 1
      clear hg hz hz'
      have hkk : k = 35 := by omega
      subst hkk
      have hd : findL r tabF = none := by
        rw [hf.out, List.drop_of_length_le (Nat.le_of_eq tabF_len)]
        rfl
      have HD := Lib.hid hd
      clear hd hf
      go_wp2_with fail
      (try simp only [Exit.inBlock, Exit.then])
      refine bodyPost_ret (v := .tuple #[.agg #[.int .i32 0, .int .i32 0], .bool false, .bool false]) (by simp [results, Try.results27, go_sem, z0, z1]) rfl ?_
      refine ⟨by rw [HD.out]; rfl, (Bw.setCell (Nat.le_refl _) _).setCell (Nat.le_refl _) _⟩
end Go.Proofs.Ytkdgkjodllgalaa
