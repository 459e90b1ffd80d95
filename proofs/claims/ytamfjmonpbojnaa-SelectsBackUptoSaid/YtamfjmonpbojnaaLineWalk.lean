/-
  The contracts of boustrophedonlaw35.Line, boustrophedonlaw35.cover and selects.Cells.
-/
import Derived.Test.YtamfjmonpbojnaaSelPlacesWalk
namespace Go.Proofs.Ytamfjmonpbojnaa
open Go.RowKit

def posF (zs : List Int) : List Int := zs.map fun x => max 0 x
def mixF (zs : List Int) (k : Nat) : List Int := posF (zs.take k) ++ zs.drop k
theorem mixF_len (zs : List Int) {k : Nat} (hk : k ≤ zs.length) : (mixF zs k).length = zs.length := by unfold mixF posF; simp; omega
theorem mixF_get {zs : List Int} {k : Nat} {l : Int} (h : zs[k]? = some l) : (mixF zs k).getD k 0 = l := by
  have hk := (List.getElem?_eq_some_iff.1 h).1
  have hl : (posF (zs.take k)).length = k := by unfold posF; simp; omega
  unfold mixF
  rw [List.getD_eq_getElem?_getD, List.getElem?_append_right (by omega), hl, List.getElem?_drop, show k + (k - k) = k by omega, h]; rfl
theorem mixF_set {zs : List Int} {k : Nat} {l : Int} (h : zs[k]? = some l) : (mixF zs k).set k (max 0 l) = mixF zs (k + 1) := by
  have hk := (List.getElem?_eq_some_iff.1 h).1
  have hl : (posF (zs.take k)).length = k := by unfold posF; simp; omega
  unfold mixF
  rw [List.set_append_right _ _ (by omega), hl, Nat.sub_self, drop_cons_of h, take_snoc h]
  simp [posF]
theorem posF_ne (zs : List Int) : ∀ x ∈ posF zs, x ≠ -1 := by
  intro x hx
  obtain ⟨y, _, rfl⟩ := List.mem_map.1 hx
  omega
theorem posF_len (zs : List Int) : (posF zs).length = zs.length := by simp [posF]
theorem visual_full {L : List Int} (h : ∀ x ∈ L, x ≠ -1) : (visualF L).length = L.length := by
  rw [(visual_perm L).length_eq, kf_full h]; simp
/-- what Line comes to -/
def LinePost (ls : List Int) (ws : List Int) (N : Nat) (w : World) (e : Ending) (w' : World) : Prop :=
  ∃ Av cv Aw cw, e = .returned (.tuple #[.slice Av N cv, .slice Aw N cw]) ∧ RdI .i64 w' Av (lineV (posF (levelsF ls)) N) ∧ RdI .i64 w' Aw (upI ((widthsN ws).take N)) ∧ N ≤ cw ∧ Below w.heap.size w w'

set_option maxRecDepth 100000 in
set_option maxHeartbeats 4000000 in
theorem line_any (A0 : Option Addr) (n0 c0 : Nat) (ls : List Int) (A1 : Option Addr) (n1 c1 : Nat) (ws : List Int) (N : Nat) (w : World)
    (h0 : ls.length = n0) (h1 : ws.length = n1) (r0 : RdI .u8 w A0 ls) (r1 : RdI .u8 w A1 ws) (z0 : Bytes ls) (z1 : Bytes ws) (b0 : n0 ≤ 1048576) (b1 : n1 ≤ 1048576) (hN : N = min n0 n1) :
    Calls Try.prog 27 #[.slice A0 n0 c0, .slice A1 n1 c1] w (LinePost ls ws N w) := by
  have hmin := min2_run n0 n1 N hN
  have hN0 : N ≤ n0 := by omega
  have hN1 : N ≤ n1 := by omega
  have H0 := Lib.hid h0
  have H1 := Lib.hid h1
  clear h0 h1 hN
  go_enter Try.func27, Try.ntmps27
  go_wp2_with fail
  refine (levels_any _ n0 _ ls _ H0.out r0 z0 (by omega)).mono ?_
  rintro e w1 ⟨v, rfl, hown, hb1⟩
  obtain ⟨Al, cl, rfl, hcl, _⟩ := hown.open_
  have hL : (levelsF ls).length = n0 := by rw [len_levels, H0.out]
  rw [hL] at hown hcl ⊢
  have HL := Lib.hid hL
  clear hL
  obtain ⟨Lv, hLv⟩ : ∃ Lv, Lv = levelsF ls := ⟨_, rfl⟩
  rw [← hLv] at hown HL
  have HLV := Lib.hid hLv
  clear hLv
  go_wp2_with fail
  go_loopg [18] (n0 + 1) (fun m i wr => ∃ k : Nat, k ≤ n0 ∧ m = n0 - k + 1 ∧ i = .int .i64 k ∧ Own wr w.heap.size (.slice Al n0 cl) (mixF Lv k) ∧ Below w.heap.size w wr)
  case atStart => exact ⟨0, Nat.zero_le _, rfl, rfl, hown, hb1⟩
  case round =>
    clear hown hb1
    obtain ⟨k, hk, hm, rfl, hown, hb⟩ := hrel
    have Hm := Lib.hid hm
    clear hm
    have hlen : (mixF Lv k).length = n0 := by rw [mixF_len _ (by rw [HL.out]; exact hk), HL.out]
    by_cases hlt : k < n0
    · obtain ⟨g, rfl, hgB, hgl⟩ := own_block hown (by omega) hlen
      obtain ⟨l, hl⟩ : ∃ l, Lv[k]? = some l := ⟨_, List.getElem?_eq_getElem (by rw [HL.out]; exact hlt)⟩
      have f0 := own_cell hown hlen hlt
      rw [mixF_get hl] at f0
      have g0 := own_frozen (k := k) hown hlen
      have st := own_store (k := k) hown hlen (max 0 l)
      rw [mixF_set hl] at st
      obtain ⟨M, hM⟩ : ∃ M, M = max 0 l := ⟨_, rfl⟩
      have hmx := max_run (x := 0) (y := l) hM
      rw [← hM] at st
      have Hst := Lib.hid st
      clear st hM hlen hl
      go_wp2_with fail
      go_roundg (n0 - k)
      case measure => have := Hm.out; omega
      case rel => exact ⟨k + 1, by omega, by omega, by go_num, Hst.out, hb.setCell hgB _⟩
    · have hE : Hid (mixF Lv k = posF Lv) := Lib.hid (by unfold mixF; rw [List.take_of_length_le (by rw [HL.out]; omega), List.drop_of_length_le (by rw [HL.out]; omega), List.append_nil])
      obtain ⟨L, hL⟩ : ∃ L, L = posF Lv := ⟨_, rfl⟩
      have hown := hown.of_eq (hE.out.trans hL.symm)
      have rl := hown.rd
      have HL2 : Hid (L.length = n0) := Lib.hid (by rw [hL, posF_len, HL.out])
      have hVl : Hid ((visualF L).length = n0) := Lib.hid (by rw [visual_full (by rw [hL]; exact posF_ne _), HL2.out])
      have hVn : Hid (∀ x ∈ L, x ≠ -1) := Lib.hid (by rw [hL]; exact posF_ne _)
      have HPL : Hid (posF (levelsF ls) = L) := Lib.hid (by rw [hL, HLV.out])
      have hbs := hb.size
      clear hown hlen hE hL
      go_wp2_with fail
      refine (visual_any _ n0 _ L _ HL2.out rl (by omega)).mono ?_
      rintro e w2 ⟨v, rfl, hown, hb2⟩
      have bb2 := hb.trans (hb2.mono hbs)
      obtain ⟨Av, cv, rfl, _, dv⟩ := hown.open_
      rw [hVl.out]
      clear hown hb2 rl hb
      go_wp2_with fail
      refine (widths_any _ n1 _ ws _ H1.out (r1.below bb2) z1 (by omega)).mono ?_
      rintro e w3 ⟨v, rfl, hown, hb3⟩
      have bb3 := bb2.trans (hb3.mono bb2.size)
      obtain ⟨Aw, cw, rfl, hcw, dw⟩ := hown.open_
      rw [len_widths2, H1.out] at hcw ⊢
      rw [widths_up] at dw
      have dv := dv.below hb3
      have dw := dw.take' N
      rw [upI_take] at dw
      have hs3 := bb3.size
      clear hown hb3 bb2
      have i1 : (0 : Int) ≤ (N : Int) := by omega
      have i2 : (N : Int) ≤ (cw : Int) := by omega
      go_wp2_with fail
      clear hlt
      go_loopg [41, 11] (n0 + 1) (fun m i v wr => ∃ k : Nat, k ≤ n0 ∧ m = n0 - k + 1 ∧ i = .int .i64 k ∧ Own wr w3.heap.size v (((visualF L).take k).filter fun p => decide (p < (N : Int))) ∧ Below w3.heap.size w3 wr)
      case atStart => exact ⟨0, Nat.zero_le _, rfl, rfl, OwnT.nil _ _ _ _, Below.refl _ _⟩
      case round =>
        obtain ⟨j, hj, hm2, rfl, hown, hb4⟩ := hrel
        have Hm2 := Lib.hid hm2
        clear hm2
        have hbs4 := hb4.size
        have hfl : (((visualF L).take j).filter fun p => decide (p < (N : Int))).length ≤ j := by
          have h1 := List.length_filter_le (fun p : Int => decide (p < (N : Int))) ((visualF L).take j)
          have h2 := List.length_take_le j (visualF L)
          omega
        by_cases hlt : j < n0
        · obtain ⟨b, o, x, rfl, hx, f0⟩ := (dv.below hb4).at_ (k := j) (by rw [hVl.out]; exact hlt)
          by_cases hxN : x < (N : Int)
          · have d0 : decide (x < (N : Int)) = true := decide_eq_true hxN
            have hf : Hid (((visualF L).take (j + 1)).filter (fun p => decide (p < (N : Int))) = ((visualF L).take j).filter (fun p => decide (p < (N : Int))) ++ [x]) := Lib.hid (by
              rw [take_snoc hx.out, List.filter_append, List.filter_cons, if_pos d0, List.filter_nil])
            clear hxN
            go_wp2_with (first
              | (at_builtin; refine wpList_pushI _ rfl (.tmp 48) (.tmp 50) rfl w3.heap.size _ _ rfl (hown.alloc _) wr.heap.size x rfl (by simp) (by omega) (by simp; omega) ?_))
            intro v5 w5 hown5 hgrow5
            have hb5 := below_push hb4 hbs4 hown hgrow5
            clear hgrow5
            go_wp2_with fail
            go_roundg (n0 - j)
            case measure => have := Hm2.out; omega
            case rel => exact ⟨j + 1, by omega, by omega, by go_num, hown5.of_eq hf.out.symm, hb5⟩
          · have d0 : decide (x < (N : Int)) = false := decide_eq_false hxN
            have hf : Hid (((visualF L).take (j + 1)).filter (fun p => decide (p < (N : Int))) = ((visualF L).take j).filter (fun p => decide (p < (N : Int)))) := Lib.hid (by
              rw [take_snoc hx.out, List.filter_append, List.filter_cons, if_neg (by rw [d0]; simp), List.filter_nil, List.append_nil])
            clear hxN
            go_wp2_with fail
            go_roundg (n0 - j)
            case measure => have := Hm2.out; omega
            case rel => exact ⟨j + 1, by omega, by omega, by go_num, hown.of_eq hf.out.symm, hb4⟩
        · have hE : Hid (((visualF L).take j).filter (fun p => decide (p < (N : Int))) = lineV L N) := Lib.hid (by rw [List.take_of_length_le (by rw [hVl.out]; omega)]; rfl)
          have hown := hown.of_eq hE.out
          have hll : Hid ((lineV L N).length = N) := Lib.hid (line_len hVn.out (by rw [HL2.out]; exact hN0))
          obtain ⟨Ao, co, rfl, _, do_⟩ := hown.open_
          rw [hll.out]
          have dw := dw.below hb4
          clear hown hE hfl
          go_wp2_with fail
          go_quiet (fail)
          go_wp2_with fail
          go_ret2
          exact ⟨_, _, _, _, rfl, by rw [HPL.out]; exact do_.below (below_drewN (Below.refl _ _) _), dw.below (below_drewN (Below.refl _ _) _), by omega, bb3.trans ((below_drewN hb4 _).mono hs3)⟩
end Go.Proofs.Ytamfjmonpbojnaa
