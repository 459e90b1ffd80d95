/-
  The contract of boustrophedonlaw08.Classes, and its awake.
-/
import Derived.Test.YtkdgkjodllgalaaSplit
namespace Go.Proofs.Ytkdgkjodllgalaa
open Go.RowKit

def Bytes (zs : List Int) : Prop := ∀ x ∈ zs, 0 ≤ x ∧ x ≤ 255
theorem u8_bd {zs : List Int} (h : Bytes zs) {k : Nat} {x : Int} (hx : Hid (zs[k]? = some x)) : 0 ≤ x ∧ x ≤ 255 :=
  h x (List.mem_of_getElem? hx.out)
abbrev OwnC (w : World) (B : Nat) (v : Value) (zs : List Int) : Prop := OwnT 25 .u8 w B v zs
theorem info25 : (Try.prog.info? 25).map (fun i => (i.zero, i.size, i.bytes)) = some (some (.int .u8 0), 1, 1) := by kernel_rfl
def classesF (zs : List Int) : List Int := zs.map (· % 23)

set_option maxHeartbeats 400000 in
theorem classes_any (A : Option Addr) (n c : Nat) (zs : List Int) (w : World) (hn : zs.length = n) (hr : RdI .u8 w A zs) (hz : Bytes zs) (hsz : n ≤ 4294967295) :
    Calls Try.prog 18 #[.slice A n c] w fun e w' => ∃ v, e = .returned v ∧ OwnC w' w.heap.size v (classesF zs) ∧ Below w.heap.size w w' := by
  have HN := Lib.hid hn
  clear hn
  go_enter Try.func18, Try.ntmps18
  go_wp2
  go_loopg [3, 4] (n + 1) (fun m v i wr => ∃ k : Nat, k ≤ n ∧ m = n - k + 1 ∧ i = .int .i64 k ∧ OwnC wr w.heap.size v (classesF (zs.take k)) ∧ Below w.heap.size w wr)
  case atStart => exact ⟨0, Nat.zero_le _, rfl, rfl, OwnT.nil _ _ _ _, Below.refl _ _⟩
  case round =>
    obtain ⟨k, hk, hm, rfl, hown, hb⟩ := hrel
    have Hm := Lib.hid hm
    clear hm
    by_cases hlt : k < n
    · obtain ⟨b, o, x, rfl, hx, hc⟩ := (hr.below hb).at_ (k := k) (by rw [HN.out]; exact hlt)
      have hxb := u8_bd hz hx
      have hbs := hb.size
      have hl : (classesF (zs.take k)).length ≤ k := by simp [classesF]; omega
      go_wp2_with (first
        | (at_builtin; refine wpList_push _ rfl _ _ 28 rfl w.heap.size 25 _ 1 Try.underlying28 info25 rfl _ _ _ rfl (hown.alloc _) wr.heap.size (.int .u8 (x % 23)) rfl ?c1 ?c2 ?c3 (by omega) ?c5 ?_))
      case c1 => simp
      case c2 => rfl
      case c3 => omega
      case c5 => simp; omega
      intro v' w1 hown' hgrow
      have Hown : OwnC w1 w.heap.size v' (classesF (zs.take k) ++ [x % 23]) := by unfold OwnC OwnT; simpa using hown'
      clear hown'
      go_wp2
      go_roundg (n - k)
      case measure => have := Hm.out; omega
      case rel => exact ⟨k + 1, by omega, by omega, by go_num, by unfold classesF; rw [map_take_snoc (· % 23) hx.out]; exact Hown, below_push hb hb.size hown hgrow⟩
    · go_wp2
      go_ret
      exact ⟨_, rfl, hown.of_eq (by rw [List.take_of_length_le (by rw [HN.out]; omega)]), hb⟩

theorem pv1 : splitF ([97, 13, 10, 98].zip [0, 10, 10, 0]) 0 0 = [(0, 3, 2), (3, 4, 0)] := by decide +kernel
theorem pv2 : splitF ([10, 10].zip [10, 10]) 0 0 = [(0, 1, 1), (1, 2, 1)] := by decide +kernel

set_option maxHeartbeats 1000000 in
theorem awake08_any (w : World) : Calls Try.prog 17 #[] w fun e w' => e = .returned (.bool true) ∧ Below w.heap.size w w' := by
  go_enter Try.func17, Try.ntmps17
  go_wp2_with fail
  have R1 := (rd_lit .i32 w #[.int .i32 97, .int .i32 13, .int .i32 10, .int .i32 98] 21 [97, 13, 10, 98] rfl).alloc (.cells #[.int .u8 0, .int .u8 10, .int .u8 10, .int .u8 0] 25)
  have R2 := rd_lit .u8 (w.alloc (.cells #[.int .i32 97, .int .i32 13, .int .i32 10, .int .i32 98] 21)) #[.int .u8 0, .int .u8 10, .int .u8 10, .int .u8 0] 25 [0, 10, 10, 0] rfl
  simp only [World.size_alloc] at R2
  refine (split_any _ 4 _ [97, 13, 10, 98] _ 4 _ [0, 10, 10, 0] _ rfl rfl R1 R2 (by omega) (by omega)).mono ?_
  rintro e w1 ⟨v, rfl, hown, hb⟩
  have b1 : Below w.heap.size w w1 := (((Below.refl _ _).alloc (Nat.le_refl _) (.cells #[.int .i32 97, .int .i32 13, .int .i32 10, .int .i32 98] 21)).alloc (by simp) (.cells #[.int .u8 0, .int .u8 10, .int .u8 10, .int .u8 0] 25)).trans (hb.mono (by simp; omega))
  rw [pv1] at hown
  obtain ⟨A1, c1, rfl, _, r1⟩ := hown.open_
  clear R1 R2 hown hb
  go_wp2_with fail
  have R1 := (rd_lit .i32 w1 #[.int .i32 10, .int .i32 10] 21 [10, 10] rfl).alloc (.cells #[.int .u8 10, .int .u8 10] 25)
  have R2 := rd_lit .u8 (w1.alloc (.cells #[.int .i32 10, .int .i32 10] 21)) #[.int .u8 10, .int .u8 10] 25 [10, 10] rfl
  simp only [World.size_alloc] at R2
  refine (split_any _ 2 _ [10, 10] _ 2 _ [10, 10] _ rfl rfl R1 R2 (by omega) (by omega)).mono ?_
  rintro e w2 ⟨v, rfl, hown, hb⟩
  have b12 : Below w1.heap.size w1 w2 := (((Below.refl _ _).alloc (Nat.le_refl _) (.cells #[.int .i32 10, .int .i32 10] 21)).alloc (by simp) (.cells #[.int .u8 10, .int .u8 10] 25)).trans (hb.mono (by simp; omega))
  rw [pv2] at hown
  obtain ⟨A2, c2, rfl, _, r2⟩ := hown.open_
  have r1 := r1.below b12
  have b2 := b1.trans (b12.mono b1.size)
  clear R1 R2 hown hb b1 b12
  obtain ⟨g1, rfl, _, x0, x1, x2⟩ := r1 0 _ rfl
  obtain ⟨g1', e1, _, y0, y1, y2⟩ := r1 1 _ rfl
  obtain ⟨g2, rfl, _, z0, z1, z2⟩ := r2 1 _ rfl
  injection e1 with e1
  injection e1 with e1
  subst e1
  simp only [Nat.zero_mul, Nat.one_mul, Nat.zero_add, Nat.reduceAdd] at x0 x1 x2 y0 y1 y2 z0 z1 z2
  clear r1 r2
  go_wp2_with fail
  go_ret
  exact ⟨by simp, b2⟩
end Go.Proofs.Ytkdgkjodllgalaa
