/-
  Plain: a line whose marks stand behind their bases is an order of the same places; without marks nothing changes; in a built line from right to left each mark stands behind its own letter.
-/
import Derived.Test.YtamfjmonpbojnaaMarksRawWalk
namespace Go.Proofs.Ytamfjmonpbojnaa
open Go.RowKit

theorem fix_mem {L C Wd : List Int} {p : Int} (h : p ∈ fixL L C Wd (visualF L)) : ∃ (q : Nat) (l : Int), p = q ∧ L[q]? = some l ∧ l ≠ -1 := by
  have hm : p ∈ visualF L := (fixAll_perm _ _ _ _).mem_iff.1 h
  obtain ⟨q, rfl, _⟩ := visual_mem hm
  obtain ⟨l, h1, h2⟩ := mem_visual.1 hm
  exact ⟨q, l, rfl, h1, h2⟩
theorem fix_back (L C Wd : List Int) : ∃ out, backF (fixL L C Wd (visualF L)) L.length = some out ∧ out.length = L.length := by
  obtain ⟨out, h1, h2, _⟩ := back_ok (fixL L C Wd (visualF L)) 0 (List.replicate L.length (-1)) ((fixAll_perm _ _ _ _).nodup_iff.2 (visual_nodup L)) (fun p hp => by
    obtain ⟨q, l, rfl, hq, _⟩ := fix_mem hp
    exact ⟨q, rfl, by rw [List.getElem?_replicate, if_pos (List.getElem?_eq_some_iff.1 hq).1]⟩)
  exact ⟨out, h1, by simpa using h2⟩
theorem fix_even (L C Wd v : List Int) : fixL (L.map fun l => 2 * l) C Wd v = v := by
  unfold fixL
  refine fixAll_none (fun p _ => ?_)
  have h : (lvF (L.map fun l => 2 * l) p).tmod 2 = 0 := by
    unfold lvF
    rw [List.getD_eq_getElem?_getD, List.getElem?_map]
    cases L[p.toNat]? with
    | none => rfl
    | some l => simp
  unfold mkF
  rw [h]
  rfl
theorem fix_wide (L C : List Int) (n : Nat) (hn : L.length = n) : fixL L C (List.replicate n 1) (visualF L) = visualF L := by
  unfold fixL
  refine fixAll_none (fun p hp => ?_)
  obtain ⟨q, rfl, hq⟩ := visual_mem hp
  have h : (List.replicate n (1 : Int)).getD q 0 = 1 := by
    rw [List.getD_eq_getElem?_getD, List.getElem?_replicate, if_pos (by omega)]; rfl
  unfold mkF
  rw [Int.toNat_natCast, h]
  simp

/-- a built line of m places: letters with their marks behind them -/
structure BLine (C Wd B : List Int) (m : Nat) : Prop where
  lc : C.length = m
  lw : Wd.length = m
  lb : B.length = m
  ok : ∀ p, p < m → (C[p]? = some 1 ∧ Wd[p]? = some 1) ∨ (C[p]? = some 8 ∧ Wd[p]? = some 0 ∧ ∃ q b, p = q + 1 ∧ B[q]? = some b ∧ B[p]? = some b)
theorem BLine.nil : BLine [] [] [] 0 := ⟨rfl, rfl, rfl, fun p h => by omega⟩
theorem BLine.letter {C Wd B : List Int} {m : Nat} (h : BLine C Wd B m) (b : Int) : BLine (C ++ [1]) (Wd ++ [1]) (B ++ [b]) (m + 1) := by
  obtain ⟨lc, lw, lb, ok⟩ := h
  refine ⟨by simp [lc], by simp [lw], by simp [lb], fun p hp => ?_⟩
  by_cases hpm : p < m
  · rw [List.getElem?_append_left (by omega), List.getElem?_append_left (by omega)]
    rcases ok p hpm with h | ⟨h1, h2, q, b', rfl, h3, h4⟩
    · exact .inl h
    · refine .inr ⟨h1, h2, q, b', rfl, ?_, ?_⟩
      · rw [List.getElem?_append_left (by omega)]; exact h3
      · rw [List.getElem?_append_left (by omega)]; exact h4
  · obtain rfl : p = m := by omega
    refine .inl ⟨?_, ?_⟩
    · rw [List.getElem?_append_right (by omega), lc]; simp
    · rw [List.getElem?_append_right (by omega), lw]; simp
theorem BLine.mark {C Wd B : List Int} {m : Nat} {b : Int} (h : BLine C Wd B (m + 1)) (hb : B[m]? = some b) : BLine (C ++ [8]) (Wd ++ [0]) (B ++ [b]) (m + 1 + 1) := by
  obtain ⟨lc, lw, lb, ok⟩ := h
  refine ⟨by simp [lc], by simp [lw], by simp [lb], fun p hp => ?_⟩
  by_cases hpm : p < m + 1
  · rw [List.getElem?_append_left (by omega), List.getElem?_append_left (by omega)]
    rcases ok p hpm with h | ⟨h1, h2, q, b', rfl, h3, h4⟩
    · exact .inl h
    · refine .inr ⟨h1, h2, q, b', rfl, ?_, ?_⟩
      · rw [List.getElem?_append_left (by omega)]; exact h3
      · rw [List.getElem?_append_left (by omega)]; exact h4
  · obtain rfl : p = m + 1 := by omega
    refine .inr ⟨?_, ?_, m, b, rfl, ?_, ?_⟩
    · rw [List.getElem?_append_right (by omega), lc]; simp
    · rw [List.getElem?_append_right (by omega), lw]; simp
    · rw [List.getElem?_append_left (by omega)]; exact hb
    · rw [List.getElem?_append_right (by omega), lb]; simp
/-- the line's places as told -/
def baseOut (C Wd : List Int) (m : Nat) : List Int := fixL (List.replicate m 1) C Wd (visualF (List.replicate m 1))
theorem visual_ones (m : Nat) : visualF (List.replicate m 1) = fallL m := by
  rw [visual_one m 1 (by omega) (by omega), if_pos (by decide)]
  unfold fallL upF
  simp
theorem fallL_len (m : Nat) : (fallL m).length = m := by simp [fallL, upF]
theorem baseOut_len (C Wd : List Int) (m : Nat) : (baseOut C Wd m).length = m := by
  unfold baseOut
  rw [fixL_len, visual_ones, fallL_len]
theorem mem_fall {m : Nat} {p : Int} (h : p ∈ fallL m) : ∃ q : Nat, p = q ∧ q < m := by
  unfold fallL upF at h
  rw [List.mem_reverse, List.mem_map] at h
  obtain ⟨i, hi, rfl⟩ := h
  exact ⟨0 + i, rfl, by have := List.mem_range.1 hi; omega⟩
theorem base_law {C Wd B : List Int} {m : Nat} (h : BLine C Wd B m) {k : Nat} {p : Int} (hk : (baseOut C Wd m)[k]? = some p) :
    ∃ q : Nat, p = q ∧ q < m ∧ ((C[q]? = some 1) ∨ (C[q]? = some 8 ∧ ∃ k' q' b, k = k' + 1 ∧ q = q' + 1 ∧ (baseOut C Wd m)[k']? = some ((q' : Nat) : Int) ∧ B[q']? = some b ∧ B[q]? = some b)) := by
  have hfix : baseOut C Wd m = fixG (mkF (List.replicate m 1) C Wd) (lvF (List.replicate m 1)) [] (fallL m) := by
    unfold baseOut fixL fixAll
    rw [visual_ones, List.length_replicate, h.lc, h.lw, if_pos]
    rw [insB_iff]
    intro p hp
    obtain ⟨q, e, hq⟩ := mem_fall hp
    exact ⟨q, e, by omega⟩
  have hp : p ∈ fallL m := by
    have h1 := List.mem_of_getElem? hk
    unfold baseOut at h1
    have h2 := (fixAll_perm _ _ _ _).mem_iff.1 h1
    rwa [visual_ones] at h2
  obtain ⟨q, rfl, hq⟩ := mem_fall hp
  refine ⟨q, rfl, hq, ?_⟩
  rcases h.ok q hq with h1 | ⟨h1, h2, q', b, rfl, h3, h4⟩
  · exact .inl h1.1
  · refine .inr ⟨h1, ?_⟩
    have hl : ∀ j : Nat, j < m → (List.replicate m (1 : Int))[j]? = some 1 := fun j hj => by rw [List.getElem?_replicate, if_pos hj]
    have h0 : mkF (List.replicate m 1) C Wd 0 = false := by
      by_cases hm : 0 < m
      · rcases h.ok 0 hm with ⟨a, b⟩ | ⟨_, _, q'', _, e, _⟩
        · have := mkF_at (q := 0) (hl 0 hm) a b
          rw [show ((0 : Nat) : Int) = 0 from rfl] at this
          rw [this]; rfl
        · omega
      · omega
    have hF := fix_down (mk := mkF (List.replicate m 1) C Wd) (lv := lvF (List.replicate m 1)) h0 m 0 (fun j hj => lvF_at (hl j (by omega))) (fun h => by omega)
    rw [show upF m 0 = [] from rfl, ← hfix] at hF
    obtain ⟨k', rfl, hk'⟩ := hF k _ hk (by rw [mkF_at (hl _ hq) h1 h2]; rfl)
    exact ⟨k', q', b, rfl, rfl, by rw [hk']; congr 1; omega, h3, h4⟩
end Go.Proofs.Ytamfjmonpbojnaa
