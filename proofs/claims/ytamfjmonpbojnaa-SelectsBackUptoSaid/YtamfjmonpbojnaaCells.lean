/-
  The contracts of cells.Starts and cells.Hit, and of boustrophedonlaw25.Same: for lists of up to 2^44 numbers.
-/
import Derived.Test.YtamfjmonpbojnaaMake
namespace Go.Proofs.Ytamfjmonpbojnaa
open Go.RowKit

def sumF (zs : List Int) : Int := zs.foldl (fun s x => wrap64 (s + x)) 0
theorem sumF_snoc (zs : List Int) (x : Int) : sumF (zs ++ [x]) = wrap64 (sumF zs + x) := by unfold sumF; rw [List.foldl_append]; rfl
theorem sumF_take {zs : List Int} {k : Nat} {x : Int} (h : zs[k]? = some x) : sumF (zs.take (k + 1)) = wrap64 (sumF (zs.take k) + x) := by rw [take_snoc h, sumF_snoc]
def startsF (zs : List Int) : List Int := (List.range zs.length).map fun j => sumF (zs.take j)

set_option maxHeartbeats 400000 in
theorem starts_any (A : Option Addr) (n c : Nat) (zs : List Int) (w : World) (hn : zs.length = n) (hr : RdI .i64 w A zs) (hsz : n ≤ 17592186044416) :
    Calls Try.prog 32 #[.slice A n c] w fun e w' => ∃ v, e = .returned (.tuple #[v, .int .i64 (sumF zs)]) ∧ Own w' w.heap.size v (startsF zs) ∧ Below w.heap.size w w' := by
  have HN := Lib.hid hn
  clear hn
  have hmk := run_make_row' (P := Try.prog) 24 3 (.int .i64 0) 8 Try.underlying24 info3 rfl .i64 .i64 n (by omega) (by omega)
  go_enter Try.func32, Try.ntmps32
  go_wp2
  clear hmk
  go_loopg [13, 5] (n + 1) (fun m i s wr => ∃ k : Nat, k ≤ n ∧ m = n - k + 1 ∧ i = .int .i64 k ∧ s = .int .i64 (sumF (zs.take k)) ∧ wr.rowIs w.heap.size 3 n (fun j => .int .i64 (if j < k then sumF (zs.take j) else 0)) ∧ Below w.heap.size w wr)
  case atStart => exact ⟨0, Nat.zero_le _, rfl, rfl, rfl, (World.rowIs_made _ _ _ _).congr (fun i _ => rfl), (Below.refl _ _).alloc (Nat.le_refl _) _⟩
  case round =>
    obtain ⟨k, hk, hm, rfl, rfl, hrow, hb⟩ := hrel
    have Hm := Lib.hid hm
    clear hm
    by_cases hlt : k < n
    · obtain ⟨b, o, x, rfl, hx, hc⟩ := (hr.below hb).at_ (k := k) (by rw [HN.out]; exact hlt)
      have hcell := hrow.cell hlt
      have hfr := hrow.frozen k
      have hbs := hb.size
      have hrow' := hrow.set k (.int .i64 (sumF (zs.take k)))
      have Hrow := Lib.hid hrow'
      clear hrow' hrow
      go_wp2
      go_roundg (n - k)
      case measure => have := Hm.out; omega
      case rel =>
        refine ⟨k + 1, by omega, by omega, by go_num, by rw [sumF_take hx.out], Hrow.out.congr (fun i _ => ?_), hb.setCell (Nat.le_refl _) _⟩
        by_cases hik : i = k
        · subst hik; simp
        · rw [if_neg hik]; by_cases h2 : i < k
          · rw [if_pos h2, if_pos (by omega)]
          · rw [if_neg h2, if_neg (by omega)]
    · go_wp2
      go_ret2
      have hkn : k = n := by omega
      subst hkn
      have e1 : zs.take k = zs := List.take_of_length_le (by rw [HN.out]; omega)
      have h2 := own_of_row (base := w.heap.size) hrow (Nat.le_refl _) (by unfold maxLen; omega)
      refine ⟨_, by rw [e1]; rfl, ?_, hb⟩
      unfold Own OwnT startsF
      rw [HN.out]
      have e2 : ((List.range k).map fun j => sumF (zs.take j)).length = k := by simp
      rw [e2]
      have e3 : ((List.range k).map fun j => sumF (zs.take j)).map (Value.int .i64) = (List.range k).map (fun j => Value.int .i64 (if j < k then sumF (zs.take j) else 0)) := by
        rw [List.map_map]
        apply List.map_congr_left
        intro j hj
        have := List.mem_range.1 hj
        simp [this]
      rw [e3]
      exact h2

theorem ret_ib {a b : Int} {p q : Bool} (h1 : a = b) (h2 : p = q) : Ending.returned (.tuple #[.int .i64 a, .bool p]) = .returned (.tuple #[.int .i64 b, .bool q]) := by rw [h1, h2]

/-- the last that takes cells at or ahead of the cell that is looked for -/
def hitF (cell : Int) : List Int → Nat → Int → Int → Int
  | [], _, last, _ => last
  | x :: r, k, last, at_ => if x ≤ 0 then hitF cell r (k + 1) last at_ else if cell < wrap64 (at_ + x) then (k : Int) else hitF cell r (k + 1) k (wrap64 (at_ + x))

set_option maxHeartbeats 400000 in
theorem hit_any (A : Option Addr) (n c : Nat) (zs : List Int) (cell : Int) (w : World) (hn : zs.length = n) (hr : RdI .i64 w A zs) (hsz : n ≤ 17592186044416) :
    Calls Try.prog 34 #[.slice A n c, .int .i64 cell] w fun e w' => e = .returned (.tuple #[.int .i64 (max (hitF cell zs 0 (-1) 0) 0), .bool (decide (0 ≤ hitF cell zs 0 (-1) 0))]) ∧ w = w' := by
  have HN := Lib.hid hn
  clear hn
  go_enter Try.func34, Try.ntmps34
  go_wp2
  go_loop [12, 6, 7] (fun i l a => ∃ k : Nat, k ≤ n ∧ i = .int .i64 k ∧ ∃ last at_ : Int, l = .int .i64 last ∧ a = .int .i64 at_ ∧ Hid (hitF cell zs 0 (-1) 0 = hitF cell (zs.drop k) k last at_) ∧ -1 ≤ last ∧ last ≤ 17592186044416) (fun i _ _ => n - (intOf i).toNat)
  case atStart => exact ⟨0, Nat.zero_le _, rfl, -1, 0, rfl, rfl, Lib.hid rfl, by omega, by omega⟩
  case round =>
    obtain ⟨k, hk, rfl, last, at_, rfl, rfl, hh, hl1, hl2⟩ := hrel
    by_cases hlt : k < n
    · obtain ⟨b, o, x, rfl, hx, hc⟩ := hr.at_ (k := k) (by rw [HN.out]; exact hlt)
      have hd : Hid (zs.drop k = x :: zs.drop (k + 1)) := by
        have hx' := hx.out
        rw [List.getElem?_eq_some_iff] at hx'
        obtain ⟨h1, h2⟩ := hx'
        rw [← h2]
        exact List.drop_eq_getElem_cons h1
      go_wp2
      · go_round
        case rel => exact ⟨k + 1, by omega, by go_num, last, at_, rfl, rfl, Lib.hid (by rw [hh.out, hd.out, hitF, if_pos (by omega)]), by omega, by omega⟩
        case measure => simp [intOf]; omega
      · go_ret2
        have e1 : hitF cell zs 0 (-1) 0 = (k : Int) := by rw [hh.out, hd.out, hitF, if_neg (by omega), if_pos (by omega)]
        rw [e1]
        exact ⟨ret_ib (by omega) (by simp), rfl⟩
      · go_round
        case rel => exact ⟨k + 1, by omega, by go_num, k, _, rfl, rfl, Lib.hid (by rw [hh.out, hd.out, hitF, if_neg (by omega), if_neg (by omega)]), by omega, by omega⟩
        case measure => simp [intOf]; omega
    · have hd : zs.drop k = [] := List.drop_of_length_le (by rw [HN.out]; omega)
      have e1 : Hid (hitF cell zs 0 (-1) 0 = last) := Lib.hid (by rw [hh.out, hd, hitF])
      clear hd
      go_wp2
      all_goals go_ret2
      all_goals rw [e1.out]
      all_goals exact ⟨ret_ib (by omega) (by first | (simp; done) | (simp; omega)), rfl⟩
end Go.Proofs.Ytamfjmonpbojnaa
