/-
  The walks of the statements on cells: each returns true.
-/
import Derived.Test.YtamfjmonpbojnaaCells
namespace Go.Proofs.Ytamfjmonpbojnaa
open Go.RowKit

set_option maxHeartbeats 1000000 in
theorem awake28_any (w : World) :
    Calls Try.prog 31 #[] w fun e w' => e = .returned (.bool true) ∧ Below w.heap.size w w' := by
  have E1 : hitF 1 [1, 0, 2] 0 (-1) 0 = 2 := by decide +kernel
  have E2 : hitF 9 [1, 0, 2] 0 (-1) 0 = 2 := by decide +kernel
  have E3 : hitF (-1) [1, 0, 2] 0 (-1) 0 = 0 := by decide +kernel
  have E4 : hitF 0 [0] 0 (-1) 0 = -1 := by decide +kernel
  have E5 : sumF [1, 0, 2] = 3 := by decide +kernel
  have E6 : startsF [1, 0, 2] = [0, 1, 1] := by decide +kernel
  have R1 := rd_lit .i64 w #[.int .i64 1, .int .i64 0, .int .i64 2] 3 [1, 0, 2] rfl
  go_enter Try.func31, Try.ntmps31
  go_wp2_with fail
  refine (starts_any _ 3 _ [1, 0, 2] _ rfl R1 (by omega)).mono ?_
  rintro e w1 ⟨v, rfl, hown, hb⟩
  rw [E6] at hown
  obtain ⟨A1, c1, rfl, _, hr1⟩ := hown.open_
  go_wp2_with fail
  refine (hit_any _ 3 _ [1, 0, 2] 1 _ rfl (R1.below hb) (by omega)).mono ?_
  rintro e w' ⟨rfl, rfl⟩
  go_wp2_with fail
  refine (hit_any _ 3 _ [1, 0, 2] 9 _ rfl (R1.below hb) (by omega)).mono ?_
  rintro e w' ⟨rfl, rfl⟩
  go_wp2_with fail
  refine (hit_any _ 3 _ [1, 0, 2] (-1) _ rfl (R1.below hb) (by omega)).mono ?_
  rintro e w' ⟨rfl, rfl⟩
  go_wp2_with fail
  refine (hit_any _ 1 _ [0] 0 _ rfl (rd_lit .i64 _ _ _ [0] rfl) (by omega)).mono ?_
  rintro e w' ⟨rfl, rfl⟩
  obtain ⟨b, o, rfl, hlt, hc⟩ := (hr1.alloc (.cells #[.int .i64 0] 3)).addr (by simp)
  have h1 := hc 1 1 rfl
  have h2 := hc 2 1 rfl
  have M1 : max (2 : Int) 0 = 2 := rfl
  have M2 : max (-1 : Int) 0 = 0 := rfl
  have M3 : max (0 : Int) 0 = 0 := rfl
  clear hc
  go_wp2_with fail
  go_ret
  exact ⟨rfl, ((((Below.refl _ _).alloc (Nat.le_refl _) _).trans (hb.mono (by simp))).alloc (by have := hb.size; simp at this; omega) _)⟩

theorem len_startsF (zs : List Int) : (startsF zs).length = zs.length := by simp [startsF]
theorem startsF_at {zs : List Int} {k : Nat} (h : k < zs.length) : (startsF zs)[k]? = some (sumF (zs.take k)) := by simp [startsF, h]

set_option maxHeartbeats 1000000 in
theorem cellsStarts_walk (A : Option Addr) (n c : Nat) (zs : List Int) (w : World) (hn : zs.length = n) (hr : RdI .i64 w A zs) (hsz : n ≤ 17592186044416) :
    Calls Try.prog 7 #[.slice A n c] w fun e w' => e = .returned (.bool true) ∧ Below w.heap.size w w' := by
  have HN := Lib.hid hn
  clear hn
  go_enter Try.func7, Try.ntmps7
  go_wp2_with fail
  refine (awake28_any _).mono ?_
  rintro e w1 ⟨rfl, hb1⟩
  have hr1 := hr.below hb1
  go_wp2_with fail
  refine (starts_any _ n _ zs _ HN.out hr1 (by omega)).mono ?_
  rintro e w2 ⟨v, rfl, hown, hb2⟩
  have hr2 := hr1.below hb2
  have hb := hb1.trans (hb2.mono hb1.size)
  obtain ⟨A1, c1, rfl, _, hs2⟩ := hown.open_
  rw [len_startsF, HN.out]
  clear hown hb1 hb2 hr hr1
  go_wp2_with fail
  go_loop [5, 6] (fun s i => ∃ k : Nat, k ≤ n ∧ i = .int .i64 k ∧ s = .int .i64 (sumF (zs.take k))) (fun _ i => n - (intOf i).toNat)
  case atStart => exact ⟨0, Nat.zero_le _, rfl, rfl⟩
  case round =>
    obtain ⟨k, hk, rfl, rfl⟩ := hrel
    by_cases hlt : k < n
    · obtain ⟨b, o, rfl, _, hc⟩ := hr2.addr (by rw [HN.out]; omega)
      obtain ⟨x, hx⟩ : ∃ x, zs[k]? = some x := ⟨_, List.getElem?_eq_getElem (by rw [HN.out]; exact hlt)⟩
      have hcx := hc k x hx
      obtain ⟨b', o', rfl, _, hc'⟩ := hs2.addr (by rw [len_startsF, HN.out]; omega)
      have hcy := hc' k _ (startsF_at (by rw [HN.out]; exact hlt))
      have Hx := Lib.hid hx
      clear hc hc' hx
      have hne : (sumF (zs.take k) != sumF (zs.take k)) = false := by simp
      go_wp2_with fail
      go_round
      case rel => exact ⟨k + 1, by omega, by go_num, by rw [sumF_take Hx.out]⟩
      case measure => simp [intOf]; omega
    · have e1 : zs.take k = zs := List.take_of_length_le (by rw [HN.out]; omega)
      rw [e1]
      go_wp2_with fail
      go_ret
      exact ⟨ret_bool (by simp), hb⟩
end Go.Proofs.Ytamfjmonpbojnaa
