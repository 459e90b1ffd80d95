/-
  boustrophedonlaw05.awake, MirrorBrackets, MirrorTwice: the laws on the table, the walks.
-/
import Derived.Test.YtkdgkjodllgalaaBracket
namespace Go.Proofs.Ytkdgkjodllgalaa
open Go.RowKit

set_option maxRecDepth 100000 in
theorem ev1 : ofF 40 = (41, true) := by decide +kernel
set_option maxRecDepth 100000 in
theorem ev2 : ofF 97 = (97, false) := by decide +kernel
set_option maxRecDepth 100000 in
theorem ev3 : bracketF 93 = (2, 91) := by decide +kernel
set_option maxRecDepth 100000 in
theorem ev4 : bracketF 9002 = (2, 12296) := by decide +kernel
set_option maxRecDepth 100000 in
theorem ev5 : bracketF 60 = (0, 0) := by decide +kernel

set_option maxHeartbeats 1000000 in
theorem awake05_any (w : World) : Calls Try.prog 20 #[] w fun e w' => e = .returned (.bool true) ∧ Below w.heap.size w w' := by
  go_enter Try.func20, Try.ntmps20
  go_wp2_with fail
  refine (of_any _ _).mono ?_
  rintro e w1 ⟨rfl, b1⟩
  rw [ev1]
  go_wp2_with fail
  refine (of_any _ _).mono ?_
  rintro e w2 ⟨rfl, b2⟩
  rw [ev2]
  go_wp2_with fail
  refine (bracket_any _ _).mono ?_
  rintro e w3 ⟨rfl, b3⟩
  rw [ev3]
  go_wp2_with fail
  refine (bracket_any _ _).mono ?_
  rintro e w4 ⟨rfl, b4⟩
  rw [ev4]
  go_wp2_with fail
  refine (bracket_any _ _).mono ?_
  rintro e w5 ⟨rfl, b5⟩
  rw [ev5]
  go_wp2_with fail
  go_ret
  have h2 := b1.trans (b2.mono b1.size)
  have h3 := h2.trans (b3.mono h2.size)
  have h4 := h3.trans (b4.mono h3.size)
  exact ⟨rfl, h4.trans (b5.mono h4.size)⟩

/-- what is found in the table stands there -/
theorem findL_mem {r : Int} {p : Int × Int} {q : Bool} : ∀ {l : List (Int × Int)}, findL r l = some (p, q) → p ∈ l ∧ (q = false ∧ r = p.1 ∨ q = true ∧ r = p.2)
  | [], h => by simp [findL] at h
  | a :: t, h => by
    unfold findL at h
    by_cases h1 : r = a.1
    · rw [if_pos h1] at h
      injection h with h; injection h with h2 h3
      subst h2; exact ⟨List.mem_cons_self, .inl ⟨h3.symm, h1⟩⟩
    · rw [if_neg h1] at h
      by_cases h2 : r = a.2
      · rw [if_pos h2] at h
        injection h with h; injection h with h3 h4
        subst h3; exact ⟨List.mem_cons_self, .inr ⟨h4.symm, h2⟩⟩
      · rw [if_neg h2] at h
        have := findL_mem h
        exact ⟨List.mem_cons_of_mem _ this.1, this.2⟩

/-- each pair of the table, seen from each side -/
def goodB (p : Int × Int) : Bool :=
  ofF p.1 == (p.2, true) && ofF p.2 == (p.1, true) && p.1 != p.2 && (bracketF p.1).2 == (bracketF p.2).2 &&
    ((bracketF p.1).1 == 1 && (bracketF p.2).1 == 2 && (bracketF p.1).2 != 0 || (bracketF p.1).1 == 0 && (bracketF p.2).1 == 0 && (bracketF p.1).2 == 0)
set_option maxRecDepth 100000 in
theorem good_all : tabF.all goodB = true := by decide +kernel
theorem good {p : Int × Int} (h : p ∈ tabF) : goodB p = true := List.all_eq_true.1 good_all p h

/-- a rune's mirror's mirror -/
theorem of_twice (r : Int) : (ofF (ofF r).1).2 = (ofF r).2 ∧ (ofF (ofF r).1).1 = r ∧ ((ofF r).2 = true → (ofF r).1 ≠ r) ∧ ((ofF r).2 = false → (ofF r).1 = r) := by
  rcases hf : findL r tabF with _ | ⟨⟨x, y⟩, q⟩
  · rw [ofF_none hf]; simp [ofF_none hf]
  · obtain ⟨hm, h⟩ := findL_mem hf
    have hg := good hm
    simp only [goodB, Bool.and_eq_true, beq_iff_eq, bne_iff_ne] at hg
    obtain ⟨⟨⟨⟨g1, g2⟩, g3⟩, _⟩, _⟩ := hg
    (try simp only at g1 g2 g3)
    rcases h with ⟨_, rfl⟩ | ⟨_, rfl⟩
    · (try simp only); rw [g1]; (try simp only); rw [g2]; simp; omega
    · (try simp only); rw [g2]; (try simp only); rw [g1]; simp; omega
theorem bracket_side (r : Int) : (bracketF r).1 = 0 ∧ (bracketF r).2 = 0 ∨ (ofF r).2 = true ∧ (bracketF (ofF r).1).2 = (bracketF r).2 ∧
    ((bracketF r).1 = 1 ∧ (bracketF (ofF r).1).1 = 2 ∨ (bracketF r).1 = 2 ∧ (bracketF (ofF r).1).1 = 1) := by
  rcases hf : findL r tabF with _ | ⟨⟨x, y⟩, q⟩
  · left; rw [bracketF_none hf]; simp
  · obtain ⟨hm, h⟩ := findL_mem hf
    have hg := good hm
    simp only [goodB, Bool.and_eq_true, Bool.or_eq_true, beq_iff_eq, bne_iff_ne] at hg
    obtain ⟨⟨⟨⟨g1, g2⟩, g3⟩, g4⟩, g5⟩ := hg
    have e1 : (ofF x).1 = y ∧ (ofF x).2 = true := by rw [g1]; exact ⟨rfl, rfl⟩
    have e2 : (ofF y).1 = x ∧ (ofF y).2 = true := by rw [g2]; exact ⟨rfl, rfl⟩
    rcases h with ⟨_, rfl⟩ | ⟨_, rfl⟩
    · simp only [e1.1, e1.2]
      rcases g5 with ⟨⟨a, b⟩, c⟩ | ⟨⟨a, b⟩, c⟩
      · right; exact ⟨trivial, g4.symm, .inl ⟨a, b⟩⟩
      · left; exact ⟨a, c⟩
    · simp only [e2.1, e2.2]
      rcases g5 with ⟨⟨a, b⟩, c⟩ | ⟨⟨a, b⟩, c⟩
      · right; exact ⟨trivial, g4, .inr ⟨b, a⟩⟩
      · left; exact ⟨b, g4 ▸ c⟩

set_option maxHeartbeats 1000000 in
theorem mirrorBrackets_walk (r : Int) (w : World) : Calls Try.prog 13 #[.int .i32 r] w fun e w' => e = .returned (.bool true) ∧ Below w.heap.size w w' := by
  have hs := bracket_side r
  go_enter Try.func13, Try.ntmps13
  go_wp2_with fail
  refine (awake05_any _).mono ?_
  rintro e w1 ⟨rfl, b1⟩
  go_wp2_with fail
  refine (bracket_any _ _).mono ?_
  rintro e w2 ⟨rfl, b2⟩
  have h2 := b1.trans (b2.mono b1.size)
  rcases hs with ⟨h1, h0⟩ | ⟨ho, hi, ⟨ha, hb⟩ | ⟨ha, hb⟩⟩
  · rw [h1, h0]
    clear h1 h0
    go_wp2_with fail
    go_ret
    exact ⟨rfl, h2⟩
  all_goals rw [ha]
  all_goals generalize hx : (bracketF r).2 = x at *
  all_goals go_wp2_with fail
  all_goals refine (of_any _ _).mono ?_
  all_goals rintro e w3 ⟨rfl, b3⟩
  all_goals rw [ho]
  all_goals go_wp2_with fail
  all_goals refine (bracket_any _ _).mono ?_
  all_goals rintro e w4 ⟨rfl, b4⟩
  all_goals rw [hi, hb]
  all_goals have h3 := h2.trans (b3.mono h2.size)
  all_goals have h4 := h3.trans (b4.mono h3.size)
  all_goals clear hi hb ho ha hx
  all_goals go_wp2_with fail
  all_goals go_ret
  all_goals exact ⟨by simp, h4⟩


set_option maxHeartbeats 1000000 in
theorem mirrorTwice_walk (r k : Int) (w : World) (h1 : 0 ≤ k) (h2 : k ≤ 255) : Calls Try.prog 12 #[.int .i32 r, .int .u8 k] w fun e w' => e = .returned (.bool true) ∧ Below w.heap.size w w' := by
  go_enter Try.func12, Try.ntmps12
  go_wp2_with fail
  refine (awake05_any _).mono ?_
  rintro e w1 ⟨rfl, b1⟩
  go_wp2_with fail
  refine (pairs_any _).mono ?_
  rintro e w2 ⟨rfl, rfl⟩
  have hbs := b1.size
  have hg : (w1.alloc (.cells pairCells 44)).heap[w1.heap.size]? = some (.cells pairCells 44) := heap_alloc_new _ _
  have b2 := b1.alloc b1.size (.cells pairCells 44)
  generalize w1.alloc (.cells pairCells 44) = w2 at *
  obtain ⟨m, hm⟩ : ∃ m : Nat, k % 35 = m := ⟨(k % 35).toNat, by omega⟩
  have hm35 : m < 35 := by omega
  have HM := Lib.hid hm
  have hx : ∃ p, tabF[m]? = some p := ⟨_, List.getElem?_eq_getElem (by rw [tabF_len]; exact hm35)⟩
  obtain ⟨p, hp⟩ := hx
  obtain ⟨c1, c2⟩ := pair_cell hg hp
  have hmem := List.mem_of_getElem? hp
  have hgood := good hmem
  obtain ⟨x, y⟩ := p
  simp only at c1 c2
  clear hp hmem hg
  go_wp2_with fail
  have hz : ((w2.alloc (.cells #[.int .i32 x, .int .i32 y] 44)).alloc (.cells #[.int .i32 r, .int .i32 x, .int .i32 y] 21)).heap[w2.heap.size]? = some (.cells #[.int .i32 x, .int .i32 y] 44) := by
    have h1 := ((Below.refl (w2.heap.size + 1) (w2.alloc (.cells #[.int .i32 x, .int .i32 y] 44))).alloc (by simp) (.cells #[.int .i32 r, .int .i32 x, .int .i32 y] 21)).block w2.heap.size (by omega)
    rw [h1]
    exact heap_alloc_new w2 _
  have hl : ((w2.alloc (.cells #[.int .i32 x, .int .i32 y] 44)).alloc (.cells #[.int .i32 r, .int .i32 x, .int .i32 y] 21)).heap[w2.heap.size + 1]? = some (.cells #[.int .i32 r, .int .i32 x, .int .i32 y] 21) := by
    have := heap_alloc_new (w2.alloc (.cells #[.int .i32 x, .int .i32 y] 44)) (.cells #[.int .i32 r, .int .i32 x, .int .i32 y] 21)
    simpa using this
  have b3 := (b2.alloc b2.size (.cells #[.int .i32 x, .int .i32 y] 44)).alloc (by have := b2.size; simp; omega) (.cells #[.int .i32 r, .int .i32 x, .int .i32 y] 21)
  have hs3 : w2.heap.size + 2 ≤ ((w2.alloc (.cells #[.int .i32 x, .int .i32 y] 44)).alloc (.cells #[.int .i32 r, .int .i32 x, .int .i32 y] 21)).heap.size := by simp
  have hb2 := b2.size
  generalize (w2.alloc (.cells #[.int .i32 x, .int .i32 y] 44)).alloc (.cells #[.int .i32 r, .int .i32 x, .int .i32 y] 21) = w3 at *
  clear c1 c2 b2 hm HM
  go_loopg [38] 4 (fun m i wr => ∃ k : Nat, k ≤ 3 ∧ m = 3 - k + 1 ∧ i = .int .i64 k ∧ Below (w2.heap.size + 2) w3 wr)
  case atStart => exact ⟨0, by omega, rfl, rfl, Below.refl _ _⟩
  case round =>
    obtain ⟨k, hk, hm, rfl, hb⟩ := hrel
    have Hm := Lib.hid hm
    clear hm
    have hbs := hb.size
    by_cases hlt : k < 3
    · have hl' : wr.heap[w2.heap.size + 1]? = some (.cells #[.int .i32 r, .int .i32 x, .int .i32 y] 21) := by rw [hb.block _ (by omega)]; exact hl
      have hc : ∃ z, wr.cell? ⟨w2.heap.size + 1, k, none⟩ = some (.int .i32 z) := by
        rw [cell_of_row _ _ _ _ _ _ hl']
        match k, hlt with
        | 0, _ => exact ⟨r, rfl⟩
        | 1, _ => exact ⟨x, rfl⟩
        | 2, _ => exact ⟨y, rfl⟩
      obtain ⟨z, hc⟩ := hc
      have ht := of_twice z
      clear hl hz hl' hgood
      go_wp2_with fail
      refine (of_any _ _).mono ?_
      rintro e w4 ⟨rfl, b4⟩
      obtain ⟨t1, t2, t3, t4⟩ := ht
      have hb4 := hb.trans (b4.mono (by omega))
      cases ho : (ofF z).2
      · have t5 := t4 ho
        clear t3 t4
        rw [t5]
        rw [t5] at t1 t2
        go_wp2_with fail
        refine (of_any _ _).mono ?_
        rintro e w5 ⟨rfl, b5⟩
        rw [ho, t5]
        have hb5 := hb4.trans (b5.mono (by have := b4.size; omega))
        clear t1 t2 t5 ho
        go_wp2_with fail
        go_roundg (3 - k)
        case measure => have := Hm.out; omega
        case rel => exact ⟨k + 1, by omega, by omega, by go_num, hb5⟩
      · have t5 := t3 ho
        clear t3 t4
        go_wp2_with fail
        refine (of_any _ _).mono ?_
        rintro e w5 ⟨rfl, b5⟩
        rw [t1, t2, ho]
        generalize (ofF z).1 = u at *
        have hb5 := hb4.trans (b5.mono (by have := b4.size; omega))
        have t6 : (u == z) = false := beq_eq_false_iff_ne.2 t5
        clear t1 t2 t5 ho
        go_wp2_with fail
        go_roundg (3 - k)
        case measure => have := Hm.out; omega
        case rel => exact ⟨k + 1, by omega, by omega, by go_num, hb5⟩
    · have hz' : wr.heap[w2.heap.size]? = some (.cells #[.int .i32 x, .int .i32 y] 44) := by rw [hb.block _ (by omega)]; exact hz
      have c1 : wr.cell? ⟨w2.heap.size, 0, none⟩ = some (.int .i32 x) := by rw [cell_of_row _ _ _ _ _ _ hz']; rfl
      have c2 : wr.cell? ⟨w2.heap.size, 1, none⟩ = some (.int .i32 y) := by rw [cell_of_row _ _ _ _ _ _ hz']; rfl
      have b6 := b3.trans (hb.mono (by omega))
      simp only [goodB, Bool.and_eq_true, Bool.or_eq_true, beq_iff_eq, bne_iff_ne] at hgood
      obtain ⟨⟨⟨⟨g1, g2⟩, g3⟩, g4⟩, g5⟩ := hgood
      clear hl hz hz' g1 g2 g3
      go_wp2_with fail
      refine (bracket_any _ _).mono ?_
      rintro e w4 ⟨rfl, b4⟩
      have c3 : w4.cell? ⟨w2.heap.size, 1, none⟩ = some (.int .i32 y) := by rw [b4.cell (by simp; omega)]; exact c2
      clear c1 c2
      rw [g4]
      rcases g5 with ⟨⟨a, b⟩, c⟩ | ⟨⟨a, b⟩, c⟩
      all_goals rw [a]
      all_goals rw [g4] at c
      all_goals go_wp2_with fail
      all_goals refine (bracket_any _ _).mono ?_
      all_goals rintro e w5 ⟨rfl, b5⟩
      all_goals rw [b]
      all_goals have hb5 := b6.trans ((b4.mono (by omega)).trans (b5.mono (by have := b4.size; omega)))
      all_goals generalize (bracketF y).2 = v at *
      all_goals clear a b c3 g4
      · clear c
        go_wp2_with fail
        go_ret
        exact ⟨by simp, hb5⟩
      · subst c
        go_wp2_with fail
        go_ret
        exact ⟨by simp, hb5⟩
end Go.Proofs.Ytkdgkjodllgalaa
