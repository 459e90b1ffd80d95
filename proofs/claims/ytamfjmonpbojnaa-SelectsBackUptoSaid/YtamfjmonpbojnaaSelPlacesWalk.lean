/-
  The contract of boustrophedonlaw35.awake; the walk of SelectsPlaces.
-/
import Derived.Test.YtamfjmonpbojnaaBandsWalk
import Derived.Test.YtamfjmonpbojnaaOrderLaws
namespace Go.Proofs.Ytamfjmonpbojnaa
open Go.RowKit

theorem bv1 : bandsG 1 3 none 0 (([0, 2, 1, 3] : List Int).zip [1, 1, 1, 1]) = [(1, 3)] := by decide +kernel
theorem bv2 : bandsG 0 2 none 0 (([0, 2, 1, 3] : List Int).zip [1, 1, 1, 1]) = [(0, 1), (2, 3)] := by decide +kernel
theorem bv3 : placesF 1 2 [0, 2, 1, 3] [1, 1, 1, 1] 4 = [2] := by decide +kernel
def widthsN (zs : List Int) : List Nat := zs.map fun x => (x % 3).toNat
theorem widths_up (zs : List Int) : widthsF zs = upI (widthsN zs) := by
  unfold widthsF upI widthsN
  rw [List.map_map]
  apply List.map_congr_left
  intro x _
  simp only [Function.comp_apply, widthF]
  omega
theorem widthsN_le (zs : List Int) : ∀ x ∈ widthsN zs, x ≤ 2 := by
  intro x hx
  obtain ⟨y, _, rfl⟩ := List.mem_map.1 hx
  omega
theorem len_widths2 (zs : List Int) : (widthsF zs).length = zs.length := by simp [widthsF]
theorem len_widthsN (zs : List Int) : (widthsN zs).length = zs.length := by simp [widthsN]

set_option maxHeartbeats 2000000 in
theorem awake35_any (w : World) :
    Calls Try.prog 26 #[] w fun e w' => e = .returned (.bool true) ∧ Below w.heap.size w w' := by
  have R1 := rd_lit .i64 w #[.int .i64 0, .int .i64 2, .int .i64 1, .int .i64 3] 3 [0, 2, 1, 3] rfl
  have R2 := rd_lit .i64 (w.alloc (.cells #[.int .i64 0, .int .i64 2, .int .i64 1, .int .i64 3] 3)) #[.int .i64 1, .int .i64 1, .int .i64 1, .int .i64 1] 3 (upI [1, 1, 1, 1]) rfl
  simp only [World.size_alloc] at R2
  have R1 := R1.alloc (.cells #[.int .i64 1, .int .i64 1, .int .i64 1, .int .i64 1] 3)
  have b0 : Below w.heap.size w ((w.alloc (.cells #[.int .i64 0, .int .i64 2, .int .i64 1, .int .i64 3] 3)).alloc (.cells #[.int .i64 1, .int .i64 1, .int .i64 1, .int .i64 1] 3)) := ((Below.refl _ _).alloc (Nat.le_refl _) _).alloc (by simp) _
  go_enter Try.func26, Try.ntmps26
  go_wp2_with fail
  refine (bands_any _ 4 _ [0, 2, 1, 3] _ _ [1, 1, 1, 1] 1 3 _ rfl rfl R1 R2 (by decide) (by omega) (by omega)).mono ?_
  rintro e w1 ⟨v, rfl, hown, hb1⟩
  rw [bv1] at hown
  obtain ⟨A1, c1, rfl, _, d1⟩ := hown.open_
  have b1 := b0.trans (hb1.mono b0.size)
  have R1 := R1.below hb1
  have R2 := R2.below hb1
  clear hown hb1 b0
  go_wp2_with fail
  refine (bands_any _ 4 _ [0, 2, 1, 3] _ _ [1, 1, 1, 1] 0 2 _ rfl rfl R1 R2 (by decide) (by omega) (by omega)).mono ?_
  rintro e w2 ⟨v, rfl, hown, hb2⟩
  rw [bv2] at hown
  obtain ⟨A2, c2, rfl, _, d2⟩ := hown.open_
  have b2 := b1.trans (hb2.mono b1.size)
  have R1 := R1.below hb2
  have R2 := R2.below hb2
  have d1 := d1.below hb2
  clear hown hb2 b1
  obtain ⟨g1, rfl, _, x0, x1⟩ := d1 0 _ rfl
  obtain ⟨g2, rfl, _, y0, y1⟩ := d2 1 _ rfl
  simp only [Nat.zero_mul, Nat.one_mul, Nat.zero_add, Nat.reduceAdd] at x0 x1 y0 y1
  clear d1 d2
  go_wp2_with fail
  refine (places_any _ 4 _ [0, 2, 1, 3] _ 4 _ [1, 1, 1, 1] 1 2 4 _ rfl rfl R1 R2 (by decide) (by omega) (by omega) (by decide)).mono ?_
  rintro e w3 ⟨v, rfl, hown, hb3⟩
  rw [bv3] at hown
  obtain ⟨A3, c3, rfl, _, d3⟩ := hown.open_
  have b3 := b2.trans (hb3.mono b2.size)
  clear hown hb3 b2 R1 R2 x0 x1 y0 y1
  go_wp2_with fail
  have T1 := rd_lit .i64 w3 #[.int .i64 2] 3 [2] rfl
  refine (same_any _ 1 _ [2] _ 1 _ [2] _ rfl rfl (d3.alloc _) T1 (by omega)).mono ?_
  rintro e w4 ⟨rfl, hb4⟩
  rw [sameB_self]
  have b34 : Below w3.heap.size w3 w4 := ((Below.refl _ _).alloc (Nat.le_refl _) _).trans (hb4.mono (by simp))
  have b4 := b3.trans (b34.mono b3.size)
  go_wp2_with fail
  go_ret
  exact ⟨by simp, b4⟩

set_option maxRecDepth 100000 in
set_option maxHeartbeats 4000000 in
theorem selectsPlaces_walk (A0 : Option Addr) (n0 c0 : Nat) (V : List Int) (A1 : Option Addr) (n1 c1 : Nat) (ws : List Int) (f t : Int) (w : World)
    (h0 : V.length = n0) (h1 : ws.length = n1) (r0 : RdI .i64 w A0 V) (r1 : RdI .u8 w A1 ws) (z1 : Bytes ws) (b0 : n0 ≤ 1048576) (b1 : n1 ≤ 1048576) :
    Calls Try.prog 13 #[.slice A0 n0 c0, .slice A1 n1 c1, .int .i64 f, .int .i64 t] w fun e w' => e = .returned (.bool true) ∧ Below w.heap.size w w' := by
  obtain ⟨N, hN⟩ : ∃ N, N = min n0 n1 := ⟨_, rfl⟩
  have hmin := min2_run n0 n1 N hN
  have hN0 : N ≤ n0 := by omega
  have hN1 : N ≤ n1 := by omega
  have H0 := Lib.hid h0
  have H1 := Lib.hid h1
  have HNN := Lib.hid hN
  clear h0 h1 hN
  go_enter Try.func13, Try.ntmps13
  go_wp2_with fail
  refine (awake35_any _).mono ?_
  rintro e w1 ⟨rfl, hb1⟩
  go_wp2_with fail
  refine (widths_any _ n1 _ ws _ H1.out (r1.below hb1) z1 (by omega)).mono ?_
  rintro e w2 ⟨v, rfl, hown, hb2⟩
  have bb2 := hb1.trans (hb2.mono hb1.size)
  obtain ⟨Aw, cw, rfl, hcw, dw⟩ := hown.open_
  rw [len_widths2, H1.out] at hcw ⊢
  rw [widths_up] at dw
  have K1 : Hid ((widthsN ws).length = n1) := Lib.hid (by rw [len_widthsN, H1.out])
  have HW := Lib.hid (widthsN_le ws)
  have r0 := r0.below bb2
  clear hown hb1 hb2 r1
  generalize widthsN ws = W at *
  go_wp2_with fail
  clear hmin
  go_loopg [12, 11] (N + 1) (fun m i v wr => ∃ p : Nat, p ≤ N ∧ m = N - p + 1 ∧ i = .int .i64 p ∧ Own wr w2.heap.size v (pickF (fun q => hasB f t V W (q : Int) N) p) ∧ Below w2.heap.size w2 wr)
  case atStart => exact ⟨0, Nat.zero_le _, rfl, rfl, OwnT.nil _ _ _ _, Below.refl _ _⟩
  case round =>
    obtain ⟨p, hp, hm, rfl, hown, hbw⟩ := hrel
    have Hm := Lib.hid hm
    clear hm
    have hbs := hbw.size
    have rv := r0.below hbw
    have rw' := dw.below hbw
    by_cases hlt : p < N
    · obtain ⟨wo, rfl⟩ : ∃ wo : World, wo = wr := ⟨_, rfl⟩
      obtain ⟨b, o, rfl, _, hA0⟩ := rv.addr (by rw [H0.out]; omega)
      obtain ⟨b1', o1, rfl, _, hA1⟩ := rw'.addr (by rw [upI_len, K1.out]; omega)
      have HA0 := Lib.hid hA0
      have HA1 := Lib.hid hA1
      have hpl := pickF_len (fun q => hasB f t V W (q : Int) N) p
      clear hA0 hA1 rv rw'
      go_wp2_with fail
      go_loop [15, 13, 14] (fun i h s => ∃ k : Nat, k ≤ N ∧ i = .int .i64 k ∧ h = .bool (hasB f t V W (p : Int) k) ∧ s = .int .i64 (sF W k)) (fun i _ _ => N - (intOf i).toNat)
      case atStart => exact ⟨0, Nat.zero_le _, rfl, rfl, rfl⟩
      case round =>
        obtain ⟨k, hk, rfl, rfl, rfl⟩ := hrel
        by_cases hlt2 : k < N
        · obtain ⟨x, hx⟩ : ∃ x, V[k]? = some x := ⟨_, List.getElem?_eq_getElem (by rw [H0.out]; omega)⟩
          obtain ⟨wd, hwd⟩ : ∃ wd, W[k]? = some wd := ⟨_, List.getElem?_eq_getElem (by rw [K1.out]; omega)⟩
          have f0 := HA0.out k x hx
          have f1 := HA1.out k _ (upI_get hwd)
          have hsl := sF_le HW.out k
          rw [K1.out] at hsl
          have hwd2 := HW.out wd (List.mem_of_getElem? hwd)
          obtain ⟨S1, hS1⟩ : ∃ S1, S1 = sF W k + wd := ⟨_, rfl⟩
          have hcond : Hid (condB f t V W (p : Int) k = (decide (x = (p : Int)) && (decide (0 < wd) && (decide (f < t) && (decide ((sF W k : Int) < t) && decide (f < (S1 : Int))))))) := Lib.hid (by
            unfold condB
            rw [List.getD_eq_getElem?_getD, hx, List.getD_eq_getElem?_getD, hwd, hS1]
            simp [Bool.and_assoc])
          have hsn : Hid (sF W (k + 1) = S1) := Lib.hid (by rw [sF_succ hwd, hS1])
          have hw : IntKind.i64.wrap ((sF W k : Int) + (wd : Int)) = (S1 : Int) := by
            rw [hS1, IntWalk.i64_in _ (by omega)]; omega
          have hw' : (sF W k : Int) + (wd : Int) = (S1 : Int) := by omega
          have hhs := Lib.hid (hasB_succ f t V W (p : Int) k)
          clear hx hwd hS1
          generalize sF W k = s at *
          generalize hasB f t V W (p : Int) k = hk0 at *
          go_upto_region 14 with (fail)
          go_cut [67] (fun sl wx => ∃ (tb : Bool), sl = .bool tb ∧ wx = wo ∧ Hid (tb = condB f t V W (p : Int) k))
          case first =>
            by_cases g0 : x = (p : Int)
            rotate_left
            · have d0 : (x == (p : Int)) = false := beq_eq_false_iff_ne.2 g0
              have d0d : decide (x = (p : Int)) = false := decide_eq_false g0
              go_wp2_with fail
              go_meet
              exact ⟨false, rfl, rfl, Lib.hid (by rw [hcond.out, d0d]; rfl)⟩
            have d0 : (x == (p : Int)) = true := beq_iff_eq.2 g0
            have d0d : decide (x = (p : Int)) = true := decide_eq_true g0
            by_cases g1 : 0 < wd
            rotate_left
            · have d1 : decide (0 < wd) = false := decide_eq_false g1
              have d1' : decide ((0 : Int) < (wd : Int)) = false := decide_eq_false (by omega)
              go_wp2_with fail
              go_meet
              exact ⟨false, rfl, rfl, Lib.hid (by rw [hcond.out, d0d, d1]; rfl)⟩
            have d1 : decide (0 < wd) = true := decide_eq_true g1
            have d1' : decide ((0 : Int) < (wd : Int)) = true := decide_eq_true (by omega)
            by_cases g2 : f < t
            rotate_left
            · have d2 : decide (f < t) = false := decide_eq_false g2
              go_wp2_with fail
              go_meet
              exact ⟨false, rfl, rfl, Lib.hid (by rw [hcond.out, d0d, d1, d2]; rfl)⟩
            have d2 : decide (f < t) = true := decide_eq_true g2
            by_cases g3 : (s : Int) < t
            rotate_left
            · have d3 : decide ((s : Int) < t) = false := decide_eq_false g3
              go_wp2_with fail
              go_meet
              exact ⟨false, rfl, rfl, Lib.hid (by rw [hcond.out, d0d, d1, d2, d3]; rfl)⟩
            have d3 : decide ((s : Int) < t) = true := decide_eq_true g3
            by_cases g4 : f < (S1 : Int)
            rotate_left
            · have d4 : decide (f < (S1 : Int)) = false := decide_eq_false g4
              go_wp2_with fail
              go_meet
              exact ⟨false, rfl, rfl, Lib.hid (by rw [hcond.out, d0d, d1, d2, d3, d4]; rfl)⟩
            have d4 : decide (f < (S1 : Int)) = true := decide_eq_true g4
            go_wp2_with fail
            go_meet
            exact ⟨true, rfl, rfl, Lib.hid (by rw [hcond.out, d0d, d1, d2, d3, d4]; rfl)⟩
          case rest =>
            obtain ⟨tb, rfl, hwx, htb⟩ := hcut
            obtain rfl : wo = _ := hwx.symm
            clear hwx
            cases tb
            · have hnx : Hid (hasB f t V W (p : Int) (k + 1) = hk0) := Lib.hid (by rw [hhs.out, ← htb.out, Bool.or_false])
              go_wp2_with fail
              go_round
              case rel => exact ⟨k + 1, by omega, by go_num, by rw [hnx.out], by rw [hsn.out]⟩
              case measure => simp [intOf]; omega
            · have hnx : Hid (hasB f t V W (p : Int) (k + 1) = true) := Lib.hid (by rw [hhs.out, ← htb.out, Bool.or_true])
              go_wp2_with fail
              go_round
              case rel => exact ⟨k + 1, by omega, by go_num, by rw [hnx.out], by rw [hsn.out]⟩
              case measure => simp [intOf]; omega
        · obtain rfl : N = k := by omega
          cases hh : hasB f t V W (p : Int) N
          · have hpk : Hid (pickF (fun q => hasB f t V W (q : Int) N) (p + 1) = pickF (fun q => hasB f t V W (q : Int) N) p) := Lib.hid (by rw [pickF_succ, hh]; simp)
            go_wp2_with fail
            go_roundg (N - p)
            case measure => have := Hm.out; omega
            case rel => exact ⟨p + 1, by omega, by omega, by go_num, hown.of_eq hpk.out.symm, hbw⟩
          · have hpk : Hid (pickF (fun q => hasB f t V W (q : Int) N) (p + 1) = pickF (fun q => hasB f t V W (q : Int) N) p ++ [(p : Int)]) := Lib.hid (by rw [pickF_succ, hh]; simp)
            go_wp2_with (first
              | (at_builtin; refine wpList_pushI _ rfl (.tmp 75) (.tmp 77) rfl w2.heap.size _ _ rfl (hown.alloc _) wo.heap.size p rfl (by simp) (by omega) (by simp; omega) ?_))
            intro v3 w3 hown3 hgrow3
            have hb3 := below_push hbw hbs hown hgrow3
            clear hgrow3
            go_wp2_with fail
            go_roundg (N - p)
            case measure => have := Hm.out; omega
            case rel => exact ⟨p + 1, by omega, by omega, by go_num, hown3.of_eq hpk.out.symm, hb3⟩
    · obtain rfl : N = p := by omega
      have hP : Hid (pickF (fun q => hasB f t V W (q : Int) N) N = placesF f t V W N) := Lib.hid rfl
      rw [hP.out] at hown
      obtain ⟨Ao, co, rfl, _, do_⟩ := hown.open_
      have hpl : (placesF f t V W N).length ≤ N := pickF_len _ _
      go_wp2_with fail
      refine (places_any _ n0 _ V _ n1 _ W f t N _ H0.out K1.out rv rw' HW.out (by omega) hcw HNN.out).mono ?_
      rintro e w5 ⟨v5, rfl, hown5, hb5⟩
      obtain ⟨A5, c5, rfl, _, d5⟩ := hown5.open_
      go_wp2_with fail
      refine (same_any _ _ _ (placesF f t V W N) _ _ _ (placesF f t V W N) _ rfl rfl d5 (do_.below hb5) (by omega)).mono ?_
      rintro e w6 ⟨rfl, hb6⟩
      rw [sameB_self]
      have hx := (hbw.trans (hb5.mono hbs)).trans (hb6.mono (by have := hb5.size; omega))
      go_wp2_with fail
      go_ret
      exact ⟨rfl, bb2.trans (hx.mono bb2.size)⟩
end Go.Proofs.Ytamfjmonpbojnaa
