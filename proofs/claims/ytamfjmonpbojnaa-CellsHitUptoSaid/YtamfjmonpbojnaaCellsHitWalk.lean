/-
  The walk of CellsHit.
-/
import Derived.Test.YtamfjmonpbojnaaCellsLaws
import Derived.Test.YtamfjmonpbojnaaCellsPlain
import Derived.Deep.QuietTactic
import Derived.BigQuiet
import Derived.WalkSmall
namespace Go.Proofs.Ytamfjmonpbojnaa
open Go.RowKit

set_option maxHeartbeats 1000000 in
theorem cellsHit_walk (A : Option Addr) (n c : Nat) (zs : List Int) (cell : Int) (w : World) (hn : zs.length = n) (hr : RdI .u8 w A zs) (hz : Bytes zs) (hsz : n ≤ 1048576) (hc1 : -9223372036854775808 ≤ cell ∧ cell ≤ 9223372036854775807) :
    Calls Try.prog 9 #[.slice A n c, .int .i64 cell] w fun e w' => e = .returned (.bool true) ∧ Below w.heap.size w w' := by
  have HN := Lib.hid hn
  clear hn
  go_enter Try.func9, Try.ntmps9
  go_wp2_with fail
  refine (awake28_any _).mono ?_
  rintro e w1 ⟨rfl, hb1⟩
  go_wp2_with fail
  refine (widths_any _ n _ zs _ HN.out (hr.below hb1) hz (by omega)).mono ?_
  rintro e w2 ⟨v, rfl, hown, hb2⟩
  have hb12 := hb1.trans (hb2.mono hb1.size)
  obtain ⟨A1, c1, rfl, _, hs2⟩ := hown.open_
  rw [len_widths, HN.out]
  have HW : Hid ((widthsF zs).length = n) := Lib.hid (by rw [len_widths, HN.out])
  have hsm := small_widths zs
  clear hown hb1 hb2 hr
  generalize widthsF zs = W at *
  go_wp2_with fail
  refine (starts_any _ n _ W _ HW.out hs2 (by omega)).mono ?_
  rintro e w3 ⟨v, rfl, hown, hb3⟩
  have hb := hb12.trans (hb3.mono hb12.size)
  have hs3 := hs2.below hb3
  obtain ⟨A2, c2, rfl, _, ht3⟩ := hown.open_
  rw [len_startsF, HW.out]
  clear hown hb3 hs2 hb12
  go_wp2_with fail
  refine (hit_any _ n _ W cell _ HW.out hs3 (by omega)).mono ?_
  rintro e w' ⟨rfl, rfl⟩
  have hT : sumF W = psum W := sumF_psum hsm (by rw [HW.out]; omega)
  have hbd := psum_bd hsm
  rw [HW.out] at hbd
  rw [hT]
  rcases hit_law cell W hsm _ (hit_at cell W hsm (by rw [HW.out]; omega)) with ⟨h1, h2⟩ | ⟨k, h1, h2, h3, x, h4, h5, h6, h7⟩
  · rw [h1, h2]
    clear h1 h2 hT hbd
    go_wp2_with fail
    go_ret
    exact ⟨rfl, hb⟩
  · rw [h1]
    have hxs := startsF_at h2
    have e1 : sumF (W.take k) = psum (W.take k) := sumF_psum (hsm.take k) (by simp; rw [HW.out]; omega)
    rw [e1] at hxs
    obtain ⟨b, o, rfl, _, hc⟩ := hs3.addr (by omega)
    have hcx := hc k x h4
    obtain ⟨b', o', rfl, _, hc'⟩ := ht3.addr (by rw [len_startsF]; omega)
    have hcy := hc' k _ hxs
    have hx2 := hsm.at_ h4
    have hp := psum_bd (hsm.take k)
    have hp2 := psum_take_le hsm k
    have M1 : max (k : Int) 0 = k := by omega
    have hkn : k < n := by rw [← HW.out]; exact h2
    clear hc hc' h4 hxs e1 hT h2
    generalize psum (W.take k) = a at *
    generalize psum W = T at *
    have hw : IntKind.i64.wrap (a + x) = a + x := IntWalk.i64_in _ (by omega)
    rcases (show (cell ≤ 0 ∧ 0 < T) ∨ (0 < cell ∧ cell ≤ T - 1) ∨ (T - 1 < cell ∧ 0 < T - 1) ∨ (T - 1 < cell ∧ 0 < cell ∧ T - 1 ≤ 0) by omega) with hq | hq | hq | hq
    · have q1 : decide (a ≤ 0) = true := by simp; omega
      have q2 : decide (0 < a + x) = true := by simp; omega
      go_wp2_with fail
      all_goals go_quiet (fail)
      all_goals go_wp2_with fail
      all_goals go_ret
      all_goals exact ⟨rfl, below_drewN hb _⟩
    · have q1 : decide (a ≤ cell) = true := by simp; omega
      have q2 : decide (cell < a + x) = true := by simp; omega
      go_wp2_with fail
      all_goals go_quiet (fail)
      all_goals go_wp2_with fail
      all_goals go_ret
      all_goals exact ⟨rfl, below_drewN hb _⟩
    · have q1 : decide (a ≤ T - 1) = true := by simp; omega
      have q2 : decide (T - 1 < a + x) = true := by simp; omega
      go_wp2_with fail
      all_goals go_quiet (fail)
      all_goals go_wp2_with fail
      all_goals go_ret
      all_goals exact ⟨rfl, below_drewN hb _⟩
    · have q1 : decide (a ≤ T - 1) = true := by simp; omega
      have q2 : decide (T - 1 < a + x) = true := by simp; omega
      have q3 : decide (a ≤ 0) = true := by simp; omega
      have q4 : decide (0 < a + x) = true := by simp; omega
      go_wp2_with fail
      all_goals go_quiet (fail)
      all_goals go_wp2_with fail
      all_goals go_ret
      all_goals exact ⟨rfl, below_drewN hb _⟩
end Go.Proofs.Ytamfjmonpbojnaa
