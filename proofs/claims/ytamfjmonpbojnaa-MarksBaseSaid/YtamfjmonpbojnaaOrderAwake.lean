/-
  The contract of boustrophedonlaw25.awake.
-/
import Derived.Test.YtamfjmonpbojnaaOrderEval
namespace Go.Proofs.Ytamfjmonpbojnaa
open Go.RowKit

theorem backPost_some {vis : List Int} {n2 : Nat} {w w' : World} {e : Ending} {out : List Int} (h : BackPost vis n2 w e w') (hb : backF vis n2 = some out) : ∃ A c, e = .returned (.tuple #[.slice A out.length c, .bool true]) ∧ out.length = n2 ∧ Own w' w.heap.size (.slice A out.length c) out ∧ RdI .i64 w' A out ∧ Below w.heap.size w w' := by
  obtain ⟨v, b, rfl, h1, hbl⟩ := h
  rcases h1 with ⟨h1, _⟩ | ⟨out', h1, rfl, h2, h3⟩
  · rw [hb] at h1; cases h1
  · rw [hb] at h1
    obtain rfl := Option.some.inj h1
    obtain ⟨A, c, rfl, _, h4⟩ := h3.open_
    exact ⟨A, c, rfl, h2, h3, h4, hbl⟩

set_option maxHeartbeats 2000000 in
theorem awake25_any (w : World) :
    Calls Try.prog 41 #[] w fun e w' => e = .returned (.bool true) ∧ Below w.heap.size w w' := by
  go_enter Try.func41, Try.ntmps41
  go_wp2_with fail
  have R1 := rd_lit .i64 w #[.int .i64 0, .int .i64 1, .int .i64 1, .int .i64 0] 3 [0, 1, 1, 0] rfl
  refine (visual_any _ 4 _ [0, 1, 1, 0] _ rfl R1 (by omega)).mono ?_
  rintro e w1 ⟨v, rfl, hown1, hb1⟩
  rw [ev1] at hown1
  obtain ⟨A1, c1, rfl, _, d1⟩ := hown1.open_
  have b1 : Below w.heap.size w w1 := ((Below.refl _ _).alloc (Nat.le_refl _) _).trans (hb1.mono (by simp))
  clear hown1 hb1 R1
  go_wp2_with fail
  have R2 := rd_lit .i64 w1 #[.int .i64 1, .int .i64 2, .int .i64 2, .int .i64 1] 3 [1, 2, 2, 1] rfl
  refine (visual_any _ 4 _ [1, 2, 2, 1] _ rfl R2 (by omega)).mono ?_
  rintro e w2 ⟨v, rfl, hown2, hb2⟩
  rw [ev2] at hown2
  obtain ⟨A2, c2, rfl, _, d2⟩ := hown2.open_
  have b12 : Below w1.heap.size w1 w2 := ((Below.refl _ _).alloc (Nat.le_refl _) _).trans (hb2.mono (by simp))
  have b2 := b1.trans (b12.mono b1.size)
  have d12 := d1.below b12
  clear hown2 hb2 R2 b1 d1 b12
  go_wp2_with fail
  have R3 := (rd_lit .i64 w2 #[.int .i64 0, .int .i64 2, .int .i64 1] 3 [0, 2, 1] rfl).alloc (.cells #[.int .i64 0, .int .i64 0, .int .i64 0] 3)
  refine (back_any _ 3 _ [0, 2, 1] _ 3 _ _ rfl R3 (by omega) (by omega)).mono ?_
  rintro e w3 h3
  obtain ⟨A3, c3, rfl, _, _, d3, hb3⟩ := backPost_some h3 ev3
  have b23 : Below w2.heap.size w2 w3 := (((Below.refl _ _).alloc (Nat.le_refl _) (.cells #[.int .i64 0, .int .i64 2, .int .i64 1] 3)).alloc (by simp) (.cells #[.int .i64 0, .int .i64 0, .int .i64 0] 3)).trans (hb3.mono (by simp; omega))
  have b3 := b2.trans (b23.mono b2.size)
  have e13 := d12.below b23
  have e23 := d2.below b23
  clear hb3 R3 b2 d12 d2 b23 h3
  go_wp2_with fail
  have S1 := rd_lit .i64 w3 #[.int .i64 0, .int .i64 2, .int .i64 1, .int .i64 3] 3 [0, 2, 1, 3] rfl
  refine (same_any _ 4 _ [0, 2, 1, 3] _ 4 _ [0, 2, 1, 3] _ rfl rfl (e13.alloc _) S1 (by omega)).mono ?_
  rintro e w4 ⟨rfl, hb4⟩
  rw [sameB_self]
  have b34 : Below w3.heap.size w3 w4 := ((Below.refl _ _).alloc (Nat.le_refl _) _).trans (hb4.mono (by simp))
  have b4 := b3.trans (b34.mono b3.size)
  have e24 := e23.below b34
  have e34 := d3.below b34
  clear hb4 S1 b3 e13 e23 d3 b34
  go_wp2_with fail
  have S2 := rd_lit .i64 w4 #[.int .i64 3, .int .i64 1, .int .i64 2, .int .i64 0] 3 [3, 1, 2, 0] rfl
  refine (same_any _ 4 _ [3, 1, 2, 0] _ 4 _ [3, 1, 2, 0] _ rfl rfl (e24.alloc _) S2 (by omega)).mono ?_
  rintro e w5 ⟨rfl, hb5⟩
  rw [sameB_self]
  have b45 : Below w4.heap.size w4 w5 := ((Below.refl _ _).alloc (Nat.le_refl _) _).trans (hb5.mono (by simp))
  have b5 := b4.trans (b45.mono b4.size)
  have e35 := e34.below b45
  clear hb5 S2 b4 e24 e34 b45
  go_wp2_with fail
  have S3 := rd_lit .i64 w5 #[.int .i64 0, .int .i64 2, .int .i64 1] 3 [0, 2, 1] rfl
  refine (same_any _ 3 _ [0, 2, 1] _ 3 _ [0, 2, 1] _ rfl rfl (e35.alloc _) S3 (by omega)).mono ?_
  rintro e w6 ⟨rfl, hb6⟩
  rw [sameB_self]
  have b6 := b5.trans ((((Below.refl _ _).alloc (Nat.le_refl _) (.cells #[.int .i64 0, .int .i64 2, .int .i64 1] 3)).trans (hb6.mono (by simp))).mono b5.size)
  go_wp2_with fail
  go_ret
  exact ⟨rfl, b6⟩
end Go.Proofs.Ytamfjmonpbojnaa
