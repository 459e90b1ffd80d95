/-
  The walk of CellsAll.
-/
import Derived.Test.YtamfjmonpbojnaaCellsLaws
import Derived.Test.YtamfjmonpbojnaaCellsPlain
import Derived.Deep.QuietTactic
import Derived.BigQuiet
import Derived.WalkSmall
namespace Go.Proofs.Ytamfjmonpbojnaa
open Go.RowKit

/-- how many of the first c cells are j's -/
def cntF (W : List Int) (c : Int) (j : Nat) : Int := max 0 (min (W.getD j 0) (c - psum (W.take j)))
theorem hit_exact {W : List Int} (hs : Small W) (hl : W.length ≤ 1099511627776) {c : Int} (h0 : 0 ≤ c) (h1 : c < psum W) :
    ∃ k : Nat, hitF c W 0 (-1) 0 = k ∧ k < W.length ∧ ∃ x, W[k]? = some x ∧ psum (W.take k) ≤ c ∧ c < psum (W.take k) + x := by
  rcases hit_law c W hs _ (hit_at c W hs hl) with ⟨_, h3⟩ | ⟨k, h2, h3, h4, x, h5, h6, h7, h8⟩
  · omega
  · exact ⟨k, h2, h3, x, h5, by omega, by omega⟩
theorem psum_mono {W : List Int} (hs : Small W) {i j : Nat} (h : i ≤ j) : psum (W.take i) ≤ psum (W.take j) := by
  have := psum_take_le (hs.take j) i
  rwa [List.take_take, Nat.min_eq_left h] at this
theorem getD_of {W : List Int} {k : Nat} {x : Int} (h : W[k]? = some x) : W.getD k 0 = x := by rw [List.getD_eq_getElem?_getD, h]; rfl
/-- of two places the one ahead ends where the other one begins, or ahead of it -/
theorem ends_ahead {W : List Int} (hs : Small W) {i j : Nat} {x : Int} (hx : W[i]? = some x) (h : i < j) : psum (W.take i) + x ≤ psum (W.take j) := by
  rw [← psum_take_succ hx]
  exact psum_mono hs h
theorem hit_rises {W : List Int} (hs : Small W) {c : Int} {k l : Nat} {x y : Int} (hx : W[k]? = some x) (_hy : W[l]? = some y) (_h1 : psum (W.take k) ≤ c + 1) (h2 : c + 1 < psum (W.take k) + x) (h3 : psum (W.take l) ≤ c) : l ≤ k := by
  rcases Nat.lt_or_ge k l with h | h
  · have := ends_ahead hs hx h; omega
  · exact h
theorem cnt_hit {W : List Int} {c : Int} {k : Nat} {x : Int} (hx : W[k]? = some x) (h1 : psum (W.take k) ≤ c) (h2 : c < psum (W.take k) + x) : cntF W (c + 1) k = cntF W c k + 1 := by
  unfold cntF
  rw [getD_of hx]
  omega
theorem cnt_other {W : List Int} (hs : Small W) {c : Int} {k j : Nat} {x : Int} (hx : W[k]? = some x) (h1 : psum (W.take k) ≤ c) (h2 : c < psum (W.take k) + x) (hj : j ≠ k) (hjl : j < W.length) : cntF W (c + 1) j = cntF W c j := by
  unfold cntF
  have hy : W[j]? = some W[j] := List.getElem?_eq_getElem hjl
  have hb := hs.at_ hy
  rw [getD_of hy]
  rcases Nat.lt_or_ge j k with h | h
  · have := ends_ahead hs hy h; omega
  · have := ends_ahead hs hx (show k < j by omega); omega
theorem cnt_zero {W : List Int} (hs : Small W) {j : Nat} (_hj : j < W.length) : cntF W 0 j = 0 := by
  unfold cntF
  have h1 := psum_bd (hs.take j)
  omega
theorem cnt_end {W : List Int} (hs : Small W) {j : Nat} {y : Int} (hy : W[j]? = some y) : cntF W (psum W) j = y := by
  unfold cntF
  rw [getD_of hy]
  have hb := hs.at_ hy
  have := psum_take_succ hy
  have := psum_take_le hs (j + 1)
  omega
theorem cnt_bd (W : List Int) (hs : Small W) (c : Int) {j : Nat} (hj : j < W.length) : 0 ≤ cntF W c j ∧ cntF W c j ≤ 2 := by
  unfold cntF
  have hy : W[j]? = some W[j] := List.getElem?_eq_getElem hj
  have hb := hs.at_ hy
  rw [getD_of hy]
  omega

set_option maxHeartbeats 2000000 in
theorem cellsAll_walk (A : Option Addr) (n c : Nat) (zs : List Int) (w : World) (hn : zs.length = n) (hr : RdI .u8 w A zs) (hz : Bytes zs) (hsz : n ≤ 1048576) :
    Calls Try.prog 10 #[.slice A n c] w fun e w' => e = .returned (.bool true) ∧ Below w.heap.size w w' := by
  have HN := Lib.hid hn
  clear hn
  have hmk := run_make_row' (P := Try.prog) 24 3 (.int .i64 0) 8 Try.underlying24 info3 rfl .i64 .i64 n (by omega) (by omega)
  go_enter Try.func10, Try.ntmps10
  go_wp2_with fail
  refine (awake28_any _).mono ?_
  rintro e w1 ⟨rfl, hb1⟩
  go_wp2_with fail
  refine (widths_any _ n _ zs _ HN.out (hr.below hb1) hz (by omega)).mono ?_
  rintro e w2 ⟨v, rfl, hown, hb2⟩
  have hb12 := hb1.trans (hb2.mono hb1.size)
  obtain ⟨A1, c1, rfl, _, hs2⟩ := hown.open_
  rw [len_widths, HN.out]
  have HW : Hid ((widthsF zs).length = n) := Lib.hid (by rw [len_widths, HN.out])
  have hsm := small_widths zs
  clear hown hb1 hb2 hr
  generalize widthsF zs = W at *
  go_wp2_with fail
  have hb3 : Below w2.heap.size w2 (w2.alloc (.cells (madeCells #[.int .i64 0] n) 3)) := (Below.refl _ _).alloc (Nat.le_refl _) _
  have hrow3 := World.rowIs_made w2 (.int .i64 0) n 3
  refine (starts_any _ n _ W _ HW.out (hs2.below hb3) (by omega)).mono ?_
  rintro e w4 ⟨v, rfl, hown, hb4⟩
  have hrow4 := hrow3.of_block (hb4.block _ (by simp))
  have hb24 : Below w2.heap.size w2 w4 := hb3.trans (hb4.mono hb3.size)
  have hs4 := hs2.below hb24
  obtain ⟨A2, c2, rfl, _, ht4⟩ := hown.open_
  rw [len_startsF, HW.out, sumF_psum hsm (by rw [HW.out]; omega)]
  clear hown hb4 hrow3 hb3 hmk ht4
  have hT := psum_bd hsm
  rw [HW.out] at hT
  go_wp2_with fail
  go_loopg [7, 8] ((psum W).toNat + 1) (fun m l i wr => ∃ c : Nat, (c : Int) ≤ psum W ∧ m = (psum W).toNat - c + 1 ∧ i = .int .i64 c ∧
      ∃ last : Nat, l = .int .i64 last ∧ last ≤ n ∧ Hid (last = 0 ∨ ∃ y, W[last]? = some y ∧ psum (W.take last) ≤ (c : Int) - 1) ∧ wr.rowIs w2.heap.size 3 n (fun j => .int .i64 (cntF W c j)) ∧ Below w2.heap.size w2 wr)
  case atStart => exact ⟨0, by omega, rfl, rfl, 0, rfl, Nat.zero_le _, Lib.hid (.inl rfl), hrow4.congr (fun i hi => by rw [show ((0 : Nat) : Int) = 0 from rfl, cnt_zero hsm (by rw [HW.out]; exact hi)]), hb24⟩
  case round =>
    obtain ⟨c, hc, hm, rfl, last, rfl, hln, hlast, hrow, hb⟩ := hrel
    have Hm := Lib.hid hm
    clear hm
    by_cases hlt : (c : Int) < psum W
    · obtain ⟨k, hk1, hk2, x, hx, h1, h2⟩ := hit_exact hsm (by rw [HW.out]; omega) (c := c) (by omega) hlt
      have hlk : last ≤ k := by
        rcases hlast.out with rfl | ⟨y, hy, h3⟩
        · omega
        · exact hit_rises hsm (c := (c : Int) - 1) hx hy (by omega) (by omega) (by omega)
      have hsr := hs2.below hb
      rw [HW.out] at hk2
      have hcell := hrow.cell hk2
      have hfr := hrow.frozen k
      have hcb := cnt_bd W hsm c (j := k) (by rw [HW.out]; exact hk2)
      have Hrow := Lib.hid (hrow.set k (.int .i64 (cntF W c k + 1)))
      have Hx := Lib.hid hx
      have H12 := Lib.hid (And.intro h1 h2)
      have M1 : max (k : Int) 0 = k := by omega
      clear hrow hx h1 h2
      have HH := hit_any A1 n c1 W c wr HW.out hsr (by omega)
      rw [hk1, M1] at HH
      have HH' := Lib.hid HH
      clear HH hk1 M1
      go_wp2_with fail
      refine HH'.out.mono ?_
      rintro e w' ⟨rfl, rfl⟩
      go_wp2_with fail
      go_roundg ((psum W).toNat - c)
      case measure => have := Hm.out; omega
      case rel =>
        refine ⟨c + 1, by omega, by omega, by go_num, k, rfl, by omega, Lib.hid (.inr ⟨x, Hx.out, by have := H12.out; omega⟩), Hrow.out.congr (fun i hi => ?_), hb.setCell (Nat.le_refl _) _⟩
        by_cases hik : i = k
        · subst hik
          rw [if_pos rfl, show ((c + 1 : Nat) : Int) = (c : Int) + 1 by omega, cnt_hit Hx.out H12.out.1 H12.out.2]
        · rw [if_neg hik, show ((c + 1 : Nat) : Int) = (c : Int) + 1 by omega, cnt_other hsm Hx.out H12.out.1 H12.out.2 hik (by rw [HW.out]; exact hi)]
    · have hce : (c : Int) = psum W := by omega
      rw [hce] at hrow
      have hsr := hs2.below hb
      clear hlast hln
      go_wp2_with fail
      obtain ⟨wo, rfl⟩ : ∃ wo : World, wo = wr := ⟨_, rfl⟩
      go_loopg [57] (n + 1) (fun m i wr => ∃ k : Nat, k ≤ n ∧ m = n - k + 1 ∧ i = .int .i64 k ∧ Below wo.heap.size wo wr)
      case atStart => exact ⟨0, Nat.zero_le _, rfl, rfl, Below.refl _ _⟩
      case round =>
        obtain ⟨k, hk, hm, rfl, hbr⟩ := hrel
        have Hm := Lib.hid hm
        clear hm
        by_cases hlt2 : k < n
        · obtain ⟨b, o, x, rfl, hx, hcx⟩ := (hsr.below hbr).at_ (k := k) (by rw [HW.out]; exact hlt2)
          have hrow' := hrow.of_block (hbr.block _ hrow.lt)
          have hcy := hrow'.cell hlt2
          rw [cnt_end hsm hx.out] at hcy
          have hne : (x != x) = false := by simp
          clear hrow'
          go_wp2_with fail
          go_quiet (fail)
          go_wp2_with fail
          go_roundg (n - k)
          case measure => have := Hm.out; omega
          case rel => exact ⟨k + 1, by omega, by omega, by go_num, below_drewN hbr _⟩
        · go_wp2_with fail
          go_ret
          exact ⟨rfl, hb12.trans ((hb.trans (hbr.mono (by have := hb.size; omega))).mono hb12.size)⟩
end Go.Proofs.Ytamfjmonpbojnaa
