/-
  The contract of order.Visual: the places of a line as they stand.
-/
import Derived.Test.YtamfjmonpbojnaaTurned
import Derived.Test.YtamfjmonpbojnaaRunsPlain
namespace Go.Proofs.Ytamfjmonpbojnaa
open Go.RowKit

def boundF (zs : List Int) : List Int := zs.map (fun x => min x 126)
def visualF (zs : List Int) : List Int := turnF (lvF (boundF zs)) 126 (kf zs 0)

theorem kf_mem' {zs : List Int} {p : Int} : ∀ {k : Nat}, p ∈ kf zs k → ∃ (j : Nat) (l : Int), p = ((k + j : Nat) : Int) ∧ zs[j]? = some l ∧ l ≠ -1 := by
  induction zs with
  | nil => intro k h; simp [kf] at h
  | cons x r ih =>
    intro k h
    rw [kf] at h
    by_cases hx : x = -1
    · rw [if_pos hx] at h
      obtain ⟨j, l, h1, h2, h3⟩ := ih h
      exact ⟨j + 1, l, by rw [h1]; congr 1; omega, h2, h3⟩
    · rw [if_neg hx] at h
      rcases List.mem_cons.1 h with h | h
      · exact ⟨0, x, by simpa using h, rfl, hx⟩
      · obtain ⟨j, l, h1, h2, h3⟩ := ih h
        exact ⟨j + 1, l, by rw [h1]; congr 1; omega, h2, h3⟩
theorem kf_length (zs : List Int) : ∀ k, (kf zs k).length ≤ zs.length := by
  induction zs with
  | nil => intro k; simp [kf]
  | cons x r ih =>
    intro k
    rw [kf]
    have := ih (k + 1)
    split
    · simp only [List.length_cons]; omega
    · simp only [List.length_cons]; omega
theorem inside_kf (zs : List Int) : Inside (boundF zs) (kf zs 0) := by
  intro q hq
  obtain ⟨j, l, h1, h2, _⟩ := kf_mem' hq
  exact ⟨j, by rw [h1, Nat.zero_add], by simp [boundF]; exact (List.getElem?_eq_some_iff.1 h2).1⟩
theorem bound_le (zs : List Int) : ∀ x ∈ boundF zs, x ≤ 126 := by
  intro x hx
  obtain ⟨y, _, rfl⟩ := List.mem_map.1 hx
  omega
theorem visual_len (zs : List Int) : (visualF zs).length ≤ zs.length := by
  unfold visualF
  rw [turnF_len]
  exact kf_length zs 0

theorem own_row_eq {w : World} {b n B : Nat} {f : Nat → Int} {zs : List Int} (h : w.rowIs b 3 n (fun j => .int .i64 (f j))) (hb : B ≤ b) (hn : n ≤ 4294967296) (hz : zs.length = n) (he : ∀ j, j < n → zs[j]? = some (f j)) :
    Own w B (.slice (some ⟨b, 0, none⟩) n n) zs := by
  have h2 := own_of_row h hb (by unfold maxLen; omega)
  unfold Own OwnT
  rw [hz]
  have e : zs.map (Value.int .i64) = (List.range n).map fun j => Value.int .i64 (f j) := by
    apply List.ext_getElem?
    intro j
    by_cases hj : j < n
    · simp [he j hj, hj]
    · rw [List.getElem?_eq_none (by simp; omega), List.getElem?_eq_none (by simp; omega)]
  rw [e]
  exact h2

set_option maxHeartbeats 4000000 in
theorem visual_any (A : Option Addr) (n c : Nat) (zs : List Int) (w : World) (hn : zs.length = n) (hr : RdI .i64 w A zs) (hsz : n ≤ 4194304) :
    Calls Try.prog 42 #[.slice A n c] w fun e w' => ∃ v, e = .returned v ∧ Own w' w.heap.size v (visualF zs) ∧ Below w.heap.size w w' := by
  have HN := Lib.hid hn
  clear hn
  have hmk := run_make_row' (P := Try.prog) 24 3 (.int .i64 0) 8 Try.underlying24 info3 rfl .i64 .i64 n (by omega) (by omega)
  go_enter Try.func42, Try.ntmps42
  go_wp2_with fail
  clear hmk
  go_loopg [12, 3] (n + 1) (fun m i v wr => ∃ k : Nat, k ≤ n ∧ m = n - k + 1 ∧ i = .int .i64 k ∧ Own wr (w.heap.size + 1) v (kf (zs.take k) 0) ∧ wr.rowIs w.heap.size 3 n (fun j => .int .i64 (if j < k then min (zs.getD j 0) 126 else 0)) ∧ w.heap.size + 1 ≤ wr.heap.size ∧ Below w.heap.size w wr)
  case atStart => exact ⟨0, Nat.zero_le _, rfl, rfl, OwnT.nil _ _ _ _, (World.rowIs_made _ _ _ _).congr (fun i _ => rfl), by simp, (Below.refl _ _).alloc (Nat.le_refl _) _⟩
  case round =>
    obtain ⟨k, hk, hm, rfl, hown, hrow, hws, hb⟩ := hrel
    have Hm := Lib.hid hm
    clear hm
    by_cases hlt : k < n
    · obtain ⟨b, o, l, rfl, hx, hc⟩ := (hr.below hb).at_ (k := k) (by rw [HN.out]; exact hlt)
      have hbs := hb.size
      have hg : Hid (zs.getD k 0 = l) := Lib.hid (by rw [List.getD_eq_getElem?_getD, hx.out]; rfl)
      have hlen : (kf (zs.take k) 0).length ≤ k := by have := kf_length (zs.take k) 0; simp at this; omega
      have hlk : Hid ((zs.take k).length = k) := Lib.hid (by simp; rw [HN.out]; omega)
      by_cases h1 : l = -1
      · have hb1 : (l != -1) = false := by simp [h1]
        have hK : Hid (kf (zs.take (k + 1)) 0 = kf (zs.take k) 0) := Lib.hid (by rw [take_snoc hx.out, kf_snoc, if_pos h1, List.append_nil])
        have hcell := hrow.cell hlt
        have hfr := hrow.frozen k
        have Hrow := Lib.hid (hrow.set k (.int .i64 l))
        have hl6 : l < 126 := by omega
        clear hrow h1
        go_wp2_with fail
        go_roundg (n - k)
        case measure => have := Hm.out; omega
        case rel =>
          refine ⟨k + 1, by omega, by omega, by go_num, by rw [hK.out]; exact ownsRow_setCell_below hown (by simp) _, Hrow.out.congr (fun i _ => ?_), by simpa using hws, hb.setCell (by simp) _⟩
          by_cases hik : i = k
          · subst hik; rw [if_pos rfl, if_pos (by omega), hg.out, show min l 126 = l by omega]
          · rw [if_neg hik]; by_cases h2 : i < k
            · rw [if_pos h2, if_pos (by omega)]
            · rw [if_neg h2, if_neg (by omega)]
      · have hb1 : (l != -1) = true := by simp [h1]
        have hK : Hid (kf (zs.take (k + 1)) 0 = kf (zs.take k) 0 ++ [(k : Int)]) := Lib.hid (by rw [take_snoc hx.out, kf_snoc, if_neg h1, hlk.out, Nat.zero_add])
        have hmin : (l < 126 ∨ l = 126) ∨ 126 < l := by omega
        clear h1
        rcases hmin with (hmin | rfl) | hmin
        all_goals
          go_wp2_with (first
            | (at_builtin; refine wpList_pushI _ rfl _ _ rfl (w.heap.size + 1) _ _ rfl (hown.alloc _) wr.heap.size k rfl (by simp) (by omega) (by simp; omega) ?_))
          intro v1 w1 hown1 hgrow1
          have hb1w := ((Below.refl (w.heap.size + 1) wr).alloc hws (.cells #[.int .i64 k] 3)).grown hgrow1 (by simp; omega) hown.ge
          have hrow1 := hrow.of_block (hb1w.block _ (by omega))
          have hws1 := hb1w.size
          have hcell := hrow1.cell hlt
          have hfr := hrow1.frozen k
          have hst := fun u => hrow1.set k u
          have Hst := Lib.hid hst
          clear hst hrow hrow1 hgrow1
          go_wp2_with fail
          go_roundg (n - k)
          case measure => have := Hm.out; omega
          case rel =>
            refine ⟨k + 1, by omega, by omega, by go_num, by rw [hK.out]; exact ownsRow_setCell_below hown1 (by simp) _, (Hst.out _).congr (fun i _ => ?_), by simp; omega, (hb.trans (hb1w.mono (by omega))).setCell (by simp) _⟩
            by_cases hik : i = k
            · subst hik; rw [if_pos rfl, if_pos (by omega), hg.out]; congr 1 <;> omega
            · rw [if_neg hik]; by_cases h2 : i < k
              · rw [if_pos h2, if_pos (by omega)]
              · rw [if_neg h2, if_neg (by omega)]
    · have hkn : k = n := by omega
      subst hkn
      have e1 : zs.take k = zs := List.take_of_length_le (by rw [HN.out]; exact Nat.le_refl _)
      rw [e1] at hown
      have hbl : (boundF zs).length = k := by simp [boundF, HN.out]
      have HBL := Lib.hid hbl
      have oB : Own wr w.heap.size (.slice (some ⟨w.heap.size, 0, none⟩) k k) (boundF zs) :=
        own_row_eq hrow (Nat.le_refl _) (by omega) hbl (fun j hj => by
          rw [if_pos hj]
          simp only [boundF, List.getElem?_map, List.getD_eq_getElem?_getD]
          rw [List.getElem?_eq_getElem (by rw [HN.out]; exact hj)]; rfl)
      have rB := oB.rd
      have hT := turned_any (boundF zs) (bound_le zs) 126 (Nat.le_refl _)
      rw [show (126 : Int) - ((126 : Nat) : Int) = 0 by omega] at hT
      have HT := Lib.hid hT
      obtain ⟨A3, c3, rfl, hc3, hr3⟩ := hown.open_
      have hkl := kf_length zs 0
      rw [HN.out] at hkl
      clear hrow hbl oB hT e1
      go_wp2_with fail
      refine (HT.out _ _ _ (kf zs 0) _ _ _ _ rfl hc3 hr3 HBL.out rB (inside_kf zs) (by omega)).mono ?_
      rintro e w5 ⟨v5, rfl, hown5, hb5⟩
      go_wp2_with fail
      go_ret
      exact ⟨_, rfl, hown5.mono hb.size, hb.trans (hb5.mono hb.size)⟩
end Go.Proofs.Ytamfjmonpbojnaa
