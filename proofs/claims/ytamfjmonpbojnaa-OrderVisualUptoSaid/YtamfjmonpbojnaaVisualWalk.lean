/-
  The walk of OrderVisual.
-/
import Derived.Test.YtamfjmonpbojnaaRefWalk
import Derived.Test.YtamfjmonpbojnaaOrderLaws
namespace Go.Proofs.Ytamfjmonpbojnaa
open Go.RowKit

set_option maxHeartbeats 2000000 in
theorem orderVisual_walk (A : Option Addr) (n c : Nat) (zs : List Int) (A' : Option Addr) (n' c' : Nat) (zs' : List Int) (w : World) (hn : zs.length = n) (hr : RdI .i64 w A zs) (hsz : n ≤ 1048576)
    (hn' : zs'.length = n') (hr' : RdI .u8 w A' zs') (hz' : Bytes zs') (hsz' : n' ≤ 1048576) :
    Calls Try.prog 14 #[.slice A n c, .slice A' n' c'] w fun e w' => e = .returned (.bool true) ∧ Below w.heap.size w w' := by
  have HN := Lib.hid hn
  have HN' := Lib.hid hn'
  clear hn hn'
  go_enter Try.func14, Try.ntmps14
  go_wp2_with fail
  refine (awake25_any _).mono ?_
  rintro e w1 ⟨rfl, hb1⟩
  go_wp2_with fail
  refine (levels_any _ n' _ zs' _ HN'.out (hr'.below hb1) hz' (by omega)).mono ?_
  rintro e w2 ⟨v, rfl, hown, hb2⟩
  have hb12 := hb1.trans (hb2.mono hb1.size)
  obtain ⟨A1, c1, rfl, _, hs2⟩ := hown.open_
  rw [len_levels, HN'.out]
  have HL : Hid ((levelsF zs').length = n') := Lib.hid (by rw [len_levels, HN'.out])
  have hr2 := hr.below hb12
  clear hown hb1 hb2 hr hr'
  generalize levelsF zs' = L at *
  have hv1 : (visualF zs).length ≤ n := by have := visual_len zs; rw [HN.out] at this; exact this
  have hv2 : (visualF L).length ≤ n' := by have := visual_len L; rw [HL.out] at this; exact this
  go_wp2_with fail
  refine (visual_any _ n _ zs _ HN.out hr2 (by omega)).mono ?_
  rintro e w3 ⟨v, rfl, hown, hb3⟩
  obtain ⟨A2, c2, rfl, _, d2⟩ := hown.open_
  have hr3 := hr2.below hb3
  have hs3 := hs2.below hb3
  have hb13 := hb12.trans (hb3.mono hb12.size)
  clear hown hb3 hr2 hs2 hb12
  go_wp2_with fail
  refine (refVisual_any _ n _ zs _ HN.out hr3 (by omega)).mono ?_
  rintro e w4 ⟨v, rfl, hown, hb4⟩
  obtain ⟨A3, c3, rfl, _, d3⟩ := hown.open_
  have d24 := d2.below hb4
  have hs4 := hs3.below hb4
  have hb14 := hb13.trans (hb4.mono hb13.size)
  clear hown hb4 hr3 hs3 hb13 d2
  go_wp2_with fail
  refine (same_any _ _ _ (visualF zs) _ _ _ (visualF zs) _ rfl rfl d24 d3 (by omega)).mono ?_
  rintro e w5 ⟨rfl, hb5⟩
  rw [sameB_self]
  have hs5 := hs4.below hb5
  have hb15 := hb14.trans (hb5.mono hb14.size)
  clear hb5 hs4 hb14 d24 d3
  go_wp2_with fail
  refine (visual_any _ n' _ L _ HL.out hs5 (by omega)).mono ?_
  rintro e w6 ⟨v, rfl, hown, hb6⟩
  obtain ⟨A4, c4, rfl, _, d4⟩ := hown.open_
  have hs6 := hs5.below hb6
  have hb16 := hb15.trans (hb6.mono hb15.size)
  clear hown hb6 hs5 hb15
  go_wp2_with fail
  refine (refVisual_any _ n' _ L _ HL.out hs6 (by omega)).mono ?_
  rintro e w7 ⟨v, rfl, hown, hb7⟩
  obtain ⟨A5, c5, rfl, _, d5⟩ := hown.open_
  have d47 := d4.below hb7
  have hb17 := hb16.trans (hb7.mono hb16.size)
  clear hown hb7 hs6 hb16 d4
  go_wp2_with fail
  refine (same_any _ _ _ (visualF L) _ _ _ (visualF L) _ rfl rfl d47 d5 (by omega)).mono ?_
  rintro e w8 ⟨rfl, hb8⟩
  rw [sameB_self]
  have hb18 := hb17.trans (hb8.mono hb17.size)
  go_wp2_with fail
  go_ret
  exact ⟨rfl, hb18⟩
end Go.Proofs.Ytamfjmonpbojnaa
