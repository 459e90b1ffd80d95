/-
  The walk of CellsParts.
-/
import Derived.Test.YtamfjmonpbojnaaCellsLaws
import Derived.Test.YtamfjmonpbojnaaCellsPlain
namespace Go.Proofs.Ytamfjmonpbojnaa
open Go.RowKit

theorem small_append {a b : List Int} (ha : Small a) (hb : Small b) : Small (a ++ b) := fun x hx => (List.mem_append.1 hx).elim (ha x) (hb x)
/-- starts of two lines together: at a place of the first -/
theorem starts_left {a b : List Int} {k : Nat} (hk : k < a.length) : (startsF (a ++ b))[k]? = (startsF a)[k]? := by
  rw [startsF_at hk, startsF_at (by simp; omega), List.take_append_of_le_length (by omega)]
/-- .. of the second -/
theorem starts_right {a b : List Int} (ha : Small a) (hb : Small b) (hl : a.length + b.length ≤ 4294967296) {k : Nat} (h1 : a.length ≤ k) (hk : k < a.length + b.length) :
    ∃ s t, (startsF (a ++ b))[k]? = some s ∧ (startsF b)[k - a.length]? = some t ∧ s = sumF a + t ∧ 0 ≤ t ∧ t ≤ 8589934592 ∧ 0 ≤ sumF a ∧ sumF a ≤ 8589934592 := by
  have e1 : sumF a = psum a := sumF_psum ha (by omega)
  have hbt := hb.take (k - a.length)
  have e2 : sumF (b.take (k - a.length)) = psum (b.take (k - a.length)) := sumF_psum hbt (by simp; omega)
  have e3 : (a ++ b).take k = a ++ b.take (k - a.length) := by
    have : k = a.length + (k - a.length) := by omega
    rw [this, List.take_length_add_append]; simp
  have e4 : sumF (a ++ b.take (k - a.length)) = psum a + psum (b.take (k - a.length)) := by
    rw [sumF_psum (small_append ha hbt) (by simp; omega), psum_append]
  have b1 := psum_bd ha
  have b2 := psum_bd hbt
  have l2 : (b.take (k - a.length)).length ≤ b.length := by simp; omega
  refine ⟨_, _, startsF_at (by simp; omega), startsF_at (by omega), ?_, ?_, ?_, ?_, ?_⟩
  · rw [e3, e4, e1, e2]
  all_goals omega

set_option maxHeartbeats 2000000 in
set_option maxRecDepth 100000 in
theorem cellsParts_walk (A : Option Addr) (n c : Nat) (zs : List Int) (A' : Option Addr) (n' c' : Nat) (zs' : List Int) (w : World) (hn : zs.length = n) (hr : RdI .u8 w A zs) (hz : Bytes zs) (hsz : n ≤ 1048576)
    (hn' : zs'.length = n') (hr' : RdI .u8 w A' zs') (hz' : Bytes zs') (hsz' : n' ≤ 1048576) :
    Calls Try.prog 11 #[.slice A n c, .slice A' n' c'] w fun e w' => e = .returned (.bool true) ∧ Below w.heap.size w w' := by
  have HN := Lib.hid hn
  have HN' := Lib.hid hn'
  clear hn hn'
  go_enter Try.func11, Try.ntmps11
  go_wp2_with fail
  refine (awake28_any _).mono ?_
  rintro e w1 ⟨rfl, hb1⟩
  go_wp2_with fail
  refine (widths_any _ n _ zs _ HN.out (hr.below hb1) hz (by omega)).mono ?_
  rintro e w2 ⟨v, rfl, hown, hb2⟩
  have hb12 := hb1.trans (hb2.mono hb1.size)
  obtain ⟨A1, c1, rfl, _, hs2⟩ := hown.open_
  rw [len_widths, HN.out]
  go_wp2_with fail
  refine (widths_any _ n' _ zs' _ HN'.out (hr'.below hb12) hz' (by omega)).mono ?_
  rintro e w3 ⟨v, rfl, hown', hb3⟩
  have hb13 := hb12.trans (hb3.mono hb12.size)
  obtain ⟨A2, c2, rfl, _, ht3⟩ := hown'.open_
  rw [len_widths, HN'.out]
  have hs3 := hs2.below hb3
  have HW : Hid ((widthsF zs).length = n) := Lib.hid (by rw [len_widths, HN.out])
  have HW' : Hid ((widthsF zs').length = n') := Lib.hid (by rw [len_widths, HN'.out])
  have hsm := small_widths zs
  have hsm' := small_widths zs'
  clear hown hown' hb1 hb2 hb3 hr hr' hs2 hb12
  generalize widthsF zs = W at *
  generalize widthsF zs' = W' at *
  go_wp2_with fail
  refine (starts_any _ n _ W _ HW.out hs3 (by omega)).mono ?_
  rintro e w4 ⟨v, rfl, hown, hb4⟩
  have hb14 := hb13.trans (hb4.mono hb13.size)
  have hs4 := hs3.below hb4
  have ht4 := ht3.below hb4
  obtain ⟨A3, c3, rfl, _, hx4⟩ := hown.open_
  rw [len_startsF, HW.out]
  clear hown hb4 hs3 ht3 hb13
  go_wp2_with fail
  refine (starts_any _ n' _ W' _ HW'.out ht4 (by omega)).mono ?_
  rintro e w5 ⟨v, rfl, hown, hb5⟩
  have hb15 := hb14.trans (hb5.mono hb14.size)
  have hs5 := hs4.below hb5
  have ht5 := ht4.below hb5
  have hx5 := hx4.below hb5
  obtain ⟨A4, c4, rfl, _, hy5⟩ := hown.open_
  rw [len_startsF, HW'.out]
  clear hown hb5 hs4 ht4 hx4 hb14
  go_wp2_with (first
    | (at_builtin; refine wpList_catI _ rfl (.const (.slice none 0 0)) (.tmp 32) rfl w5.heap.size _ [] rfl (OwnT.nil _ _ _ _) A1 n c1 W rfl HW.out hs5 (by simp; omega) (Nat.le_refl _) ?_))
  intro v6 w6 hown6 hgrow6
  have hb6 : Below w5.heap.size w5 w6 := below_cat (Below.refl _ _) (Nat.le_refl _) (OwnT.nil 3 .i64 w5 w5.heap.size) hgrow6
  have ht6 := ht5.below hb6
  have hz6 := hb6.size
  go_wp2_with (first
    | (at_builtin; refine wpList_catI _ rfl (.tmp 33) (.tmp 34) rfl w5.heap.size v6 W rfl hown6 A2 n' c2 W' rfl HW'.out ht6 (by rw [HW.out]; omega) hz6 ?_))
  intro v7 w7 hown7 hgrow7
  have hb7 : Below w5.heap.size w5 w7 := below_cat hb6 hz6 hown6 hgrow7
  have hl7 : (W ++ W').length = n + n' := by rw [List.length_append, HW.out, HW'.out]
  have HL7 := Lib.hid hl7
  obtain ⟨A5, c5, rfl, _, hu7⟩ := hown7.open_
  rw [hl7]
  clear hown6 hown7 hb6 ht6 hgrow6 hgrow7 hz6 hl7
  go_wp2_with fail
  refine (starts_any _ (n + n') _ (W ++ W') _ HL7.out hu7 (by omega)).mono ?_
  rintro e w8 ⟨v, rfl, hown, hb8⟩
  have hb18 := hb15.trans ((hb7.mono hb15.size).trans (hb8.mono (by have := hb7.size; have := hb15.size; omega)))
  have hx8 := (hx5.below hb7).below hb8
  have hy8 := (hy5.below hb7).below hb8
  obtain ⟨A6, c6, rfl, _, hz8⟩ := hown.open_
  rw [len_startsF, HL7.out]
  have hT : Hid (sumF (W ++ W') = sumF W + sumF W') := Lib.hid (by
    rw [sumF_psum (small_append hsm hsm') (by rw [HL7.out]; omega), psum_append, sumF_psum hsm (by rw [HW.out]; omega), sumF_psum hsm' (by rw [HW'.out]; omega)])
  have hp1 : 0 ≤ sumF W ∧ sumF W ≤ 2097152 := by
    rw [sumF_psum hsm (by rw [HW.out]; omega)]; have := psum_bd hsm; rw [HW.out] at this; omega
  have hp2 : 0 ≤ sumF W' ∧ sumF W' ≤ 2097152 := by
    rw [sumF_psum hsm' (by rw [HW'.out]; omega)]; have := psum_bd hsm'; rw [HW'.out] at this; omega
  rw [hT.out]
  clear hown hb7 hb8 hx5 hy5 hs5 ht5 hb15 hu7 hT
  have F1 : ((n : Int) != n) = false := by simp
  have F2 : ((n' : Int) != n') = false := by simp
  go_wp2_with fail
  clear F1 F2
  go_loop [70] (fun i => ∃ k : Nat, k ≤ n + n' ∧ i = .int .i64 k) (fun i => n + n' - (intOf i).toNat)
  case atStart => exact ⟨0, Nat.zero_le _, rfl⟩
  case round =>
    obtain ⟨k, hk, rfl⟩ := hrel
    by_cases hlt : k < n + n'
    · obtain ⟨b, o, rfl, _, hc⟩ := hz8.addr (by rw [len_startsF, HL7.out]; omega)
      by_cases hkn : k < n
      · obtain ⟨b', o', rfl, _, hc'⟩ := hx8.addr (by rw [len_startsF, HW.out]; omega)
        have e1 := starts_left (a := W) (b := W') (k := k) (by rw [HW.out]; exact hkn)
        have hcx := hc' k _ (startsF_at (by rw [HW.out]; exact hkn))
        have hcy := hc k (sumF (W.take k)) (by rw [e1]; exact startsF_at (by rw [HW.out]; exact hkn))
        clear hc hc' e1
        generalize sumF (W.take k) = s at *
        have hne : (s != s) = false := by simp
        have d1 : decide (k < n) = true := by simp [hkn]
        go_wp2_with fail
        go_round
        case rel => exact ⟨k + 1, by omega, by go_num⟩
        case measure => simp [intOf]; omega
      · obtain ⟨s, t, h1, h2, h3, h4⟩ := starts_right hsm hsm' (by rw [HW.out, HW'.out]; omega) (k := k) (by rw [HW.out]; omega) (by rw [HW.out, HW'.out]; omega)
        rw [HW.out] at h2
        obtain ⟨b', o', rfl, _, hc'⟩ := hy8.addr (by rw [len_startsF, HW'.out]; omega)
        have hcx := hc' _ _ h2
        have hcy := hc _ _ h1
        rw [h3] at hcy
        clear hc hc' h1 h2 h3
        generalize sumF W = p at *
        have hne : (p + t != p + t) = false := by simp
        have d1 : decide (k < n) = false := by simp; omega
        go_wp2_with fail
        go_round
        case rel => exact ⟨k + 1, by omega, by go_num⟩
        case measure => simp [intOf]; omega
    · go_wp2_with fail
      go_ret
      exact ⟨rfl, hb18⟩
end Go.Proofs.Ytamfjmonpbojnaa
