/-
  The contracts of boustrophedonlaw22.Widths, boustrophedonlaw12.Levels and boustrophedonlaw08.Classes: what each makes of a list of bytes, up to 4294967295 of them.
-/
import Derived.Test.YtamfjmonpbojnaaBase
namespace Go.Proofs.Ytamfjmonpbojnaa
open Go.RowKit

def widthF (x : Int) : Int := x % 3
def widthsF (zs : List Int) : List Int := zs.map widthF

def Bytes (zs : List Int) : Prop := ∀ x ∈ zs, 0 ≤ x ∧ x ≤ 255
theorem u8_bd {zs : List Int} (h : Bytes zs) {k : Nat} {x : Int} (hx : Hid (zs[k]? = some x)) : 0 ≤ x ∧ x ≤ 255 :=
  h x (List.mem_of_getElem? hx.out)

set_option maxHeartbeats 400000 in
theorem widths_any (A : Option Addr) (n c : Nat) (zs : List Int) (w : World) (hn : zs.length = n) (hr : RdI .u8 w A zs) (hz : Bytes zs) (hsz : n ≤ 4294967295) :
    Calls Try.prog 33 #[.slice A n c] w fun e w' => ∃ v, e = .returned v ∧ Own w' w.heap.size v (widthsF zs) ∧ Below w.heap.size w w' := by
  have HN := Lib.hid hn
  clear hn
  go_enter Try.func33, Try.ntmps33
  go_wp2
  go_loopg [3, 4] (n + 1) (fun m v i wr => ∃ k : Nat, k ≤ n ∧ m = n - k + 1 ∧ i = .int .i64 k ∧ Own wr w.heap.size v (widthsF (zs.take k)) ∧ Below w.heap.size w wr)
  case atStart => exact ⟨0, Nat.zero_le _, rfl, rfl, OwnT.nil _ _ _ _, Below.refl _ _⟩
  case round =>
    obtain ⟨k, hk, hm, rfl, hown, hb⟩ := hrel
    have Hm := Lib.hid hm
    clear hm
    by_cases hlt : k < n
    · obtain ⟨b, o, x, rfl, hx, hc⟩ := (hr.below hb).at_ (k := k) (by rw [HN.out]; exact hlt)
      have hxb := u8_bd hz hx
      have hbs := hb.size
      go_wp2_with (first
        | (at_builtin; refine wpList_pushI _ rfl _ _ rfl w.heap.size _ _ rfl (hown.alloc _) wr.heap.size (x % 3) rfl ?c1 ?c3 ?c5 ?_))
      case c1 => simp
      case c3 => simp [widthsF]; omega
      case c5 => simp; omega
      intro v' w1 hown' hgrow
      go_wp2
      go_roundg (n - k)
      case measure => have := Hm.out; omega
      case rel => exact ⟨k + 1, by omega, by omega, by go_num, by unfold widthsF; rw [map_take_snoc widthF hx.out]; exact hown', below_push hb hb.size hown hgrow⟩
    · go_wp2
      go_ret
      exact ⟨_, rfl, hown.of_eq (by rw [List.take_of_length_le (by rw [HN.out]; omega)]), hb⟩

def levelF (x : Int) : Int := if x % 8 = 7 then -1 else (x / 8) % 6
def levelsF (zs : List Int) : List Int := zs.map levelF

set_option maxHeartbeats 400000 in
theorem levels_any (A : Option Addr) (n c : Nat) (zs : List Int) (w : World) (hn : zs.length = n) (hr : RdI .u8 w A zs) (hz : Bytes zs) (hsz : n ≤ 4294967295) :
    Calls Try.prog 24 #[.slice A n c] w fun e w' => ∃ v, e = .returned v ∧ Own w' w.heap.size v (levelsF zs) ∧ Below w.heap.size w w' := by
  have HN := Lib.hid hn
  clear hn
  go_enter Try.func24, Try.ntmps24
  go_wp2
  go_loopg [3, 4] (n + 1) (fun m v i wr => ∃ k : Nat, k ≤ n ∧ m = n - k + 1 ∧ i = .int .i64 k ∧ Own wr w.heap.size v (levelsF (zs.take k)) ∧ Below w.heap.size w wr)
  case atStart => exact ⟨0, Nat.zero_le _, rfl, rfl, OwnT.nil _ _ _ _, Below.refl _ _⟩
  case round =>
    obtain ⟨k, hk, hm, rfl, hown, hb⟩ := hrel
    have Hm := Lib.hid hm
    clear hm
    by_cases hlt : k < n
    · obtain ⟨b, o, x, rfl, hx, hc⟩ := (hr.below hb).at_ (k := k) (by rw [HN.out]; exact hlt)
      have hxb := u8_bd hz hx
      have hbs := hb.size
      by_cases h7 : x % 8 = 7
      · have H7 := Lib.hid h7
        have hb7 : (x % 8 == 7) = true := by simp [h7]
        clear h7
        go_wp2_with (first
          | (at_builtin; refine wpList_pushI _ rfl _ _ rfl w.heap.size _ _ rfl (hown.alloc _) wr.heap.size (-1) rfl ?c1 ?c3 ?c5 ?_))
        case c1 => simp
        case c3 => simp [levelsF]; omega
        case c5 => simp; omega
        intro v' w1 hown' hgrow
        go_wp2
        go_roundg (n - k)
        case measure => have := Hm.out; omega
        case rel => exact ⟨k + 1, by omega, by omega, by go_num, by unfold levelsF; rw [map_take_snoc levelF hx.out, show levelF x = -1 from if_pos H7.out]; exact hown', below_push hb hb.size hown hgrow⟩
      · have H7 := Lib.hid h7
        have hb7 : (x % 8 == 7) = false := by simp [h7]
        clear h7
        go_wp2_with (first
          | (at_builtin; refine wpList_pushI _ rfl _ _ rfl w.heap.size _ _ rfl (hown.alloc _) wr.heap.size (x / 8 % 6) rfl ?d1 ?d3 ?d5 ?_))
        case d1 => simp
        case d3 => simp [levelsF]; omega
        case d5 => simp; omega
        intro v' w1 hown' hgrow
        go_wp2
        go_roundg (n - k)
        case measure => have := Hm.out; omega
        case rel => exact ⟨k + 1, by omega, by omega, by go_num, by unfold levelsF; rw [map_take_snoc levelF hx.out, show levelF x = x / 8 % 6 from if_neg H7.out]; exact hown', below_push hb hb.size hown hgrow⟩
    · go_wp2
      go_ret
      exact ⟨_, rfl, hown.of_eq (by rw [List.take_of_length_le (by rw [HN.out]; omega)]), hb⟩

abbrev OwnC (w : World) (B : Nat) (v : Value) (zs : List Int) : Prop := OwnT 60 .u8 w B v zs
theorem info60 : (Try.prog.info? 60).map (fun i => (i.zero, i.size, i.bytes)) = some (some (.int .u8 0), 1, 1) := by kernel_rfl
def classesF (zs : List Int) : List Int := zs.map (· % 23)

set_option maxHeartbeats 400000 in
theorem classes_any (A : Option Addr) (n c : Nat) (zs : List Int) (w : World) (hn : zs.length = n) (hr : RdI .u8 w A zs) (hz : Bytes zs) (hsz : n ≤ 4294967295) :
    Calls Try.prog 36 #[.slice A n c] w fun e w' => ∃ v, e = .returned v ∧ OwnC w' w.heap.size v (classesF zs) ∧ Below w.heap.size w w' := by
  have HN := Lib.hid hn
  clear hn
  go_enter Try.func36, Try.ntmps36
  go_wp2
  go_loopg [3, 4] (n + 1) (fun m v i wr => ∃ k : Nat, k ≤ n ∧ m = n - k + 1 ∧ i = .int .i64 k ∧ OwnC wr w.heap.size v (classesF (zs.take k)) ∧ Below w.heap.size w wr)
  case atStart => exact ⟨0, Nat.zero_le _, rfl, rfl, OwnT.nil _ _ _ _, Below.refl _ _⟩
  case round =>
    obtain ⟨k, hk, hm, rfl, hown, hb⟩ := hrel
    have Hm := Lib.hid hm
    clear hm
    by_cases hlt : k < n
    · obtain ⟨b, o, x, rfl, hx, hc⟩ := (hr.below hb).at_ (k := k) (by rw [HN.out]; exact hlt)
      have hxb := u8_bd hz hx
      have hbs := hb.size
      have hl : (classesF (zs.take k)).length ≤ k := by simp [classesF]; omega
      go_wp2_with (first
        | (at_builtin; refine wpList_push _ rfl _ _ 48 rfl w.heap.size 60 _ 1 Try.underlying48 info60 rfl _ _ _ rfl (hown.alloc _) wr.heap.size (.int .u8 (x % 23)) rfl ?c1 ?c2 ?c3 (by omega) ?c5 ?_))
      case c1 => simp
      case c2 => rfl
      case c3 => omega
      case c5 => simp; omega
      intro v' w1 hown' hgrow
      have Hown : OwnC w1 w.heap.size v' (classesF (zs.take k) ++ [x % 23]) := by unfold OwnC OwnT; simpa using hown'
      clear hown'
      go_wp2
      go_roundg (n - k)
      case measure => have := Hm.out; omega
      case rel => exact ⟨k + 1, by omega, by omega, by go_num, by unfold classesF; rw [map_take_snoc (· % 23) hx.out]; exact Hown, below_push hb hb.size hown hgrow⟩
    · go_wp2
      go_ret
      exact ⟨_, rfl, hown.of_eq (by rw [List.take_of_length_le (by rw [HN.out]; omega)]), hb⟩
end Go.Proofs.Ytamfjmonpbojnaa
