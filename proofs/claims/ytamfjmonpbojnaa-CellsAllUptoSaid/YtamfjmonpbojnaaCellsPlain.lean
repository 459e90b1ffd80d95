/-
  Plain facts on sums of widths and on which one has a cell: no program in sight.
-/
import Derived.Test.YtamfjmonpbojnaaCells
namespace Go.Proofs.Ytamfjmonpbojnaa
open Go.RowKit

def psum : List Int → Int
  | [] => 0
  | x :: r => x + psum r
theorem psum_append (a b : List Int) : psum (a ++ b) = psum a + psum b := by
  induction a with
  | nil => simp [psum]
  | cons x r ih => simp only [List.cons_append, psum, ih]; omega
def Small (zs : List Int) : Prop := ∀ x ∈ zs, 0 ≤ x ∧ x ≤ 2
theorem Small.tail {x : Int} {r : List Int} (h : Small (x :: r)) : Small r := fun y hy => h y (List.mem_cons_of_mem _ hy)
theorem Small.take {zs : List Int} (h : Small zs) (k : Nat) : Small (zs.take k) := fun y hy => h y (List.mem_of_mem_take hy)
theorem Small.at_ {zs : List Int} (h : Small zs) {k : Nat} {x : Int} (hx : zs[k]? = some x) : 0 ≤ x ∧ x ≤ 2 := h x (List.mem_of_getElem? hx)
theorem psum_bd {zs : List Int} (h : Small zs) : 0 ≤ psum zs ∧ psum zs ≤ 2 * zs.length := by
  induction zs with
  | nil => simp [psum]
  | cons x r ih =>
    have h1 := h x (by simp)
    have h2 := ih h.tail
    simp only [psum, List.length_cons]
    omega
theorem fold_psum (zs : List Int) (h : Small zs) : ∀ s : Int, 0 ≤ s → s + 2 * zs.length ≤ 4611686018427387904 → zs.foldl (fun s x => wrap64 (s + x)) s = s + psum zs := by
  induction zs with
  | nil => intro s _ _; simp [psum]
  | cons x r ih =>
    intro s h0 hb
    have h1 := h x (by simp)
    simp only [List.length_cons] at hb
    have hw : wrap64 (s + x) = s + x := IntWalk.wrap64_in _ ⟨by omega, by omega⟩
    rw [List.foldl_cons, hw, ih h.tail (s + x) (by omega) (by omega), psum]
    omega
theorem sumF_psum {zs : List Int} (h : Small zs) (hl : zs.length ≤ 1099511627776) : sumF zs = psum zs := by
  unfold sumF
  rw [fold_psum zs h 0 (by omega) (by omega)]
  omega
theorem small_widths (zs : List Int) : Small (widthsF zs) := by
  intro x hx
  obtain ⟨y, _, rfl⟩ := List.mem_map.1 hx
  unfold widthF
  omega
theorem len_widths (zs : List Int) : (widthsF zs).length = zs.length := by simp [widthsF]
theorem psum_take_succ {zs : List Int} {k : Nat} {x : Int} (h : zs[k]? = some x) : psum (zs.take (k + 1)) = psum (zs.take k) + x := by
  rw [take_snoc h, psum_append]; simp [psum]
theorem psum_take_le {zs : List Int} (h : Small zs) (k : Nat) : psum (zs.take k) ≤ psum zs := by
  have h1 : psum zs = psum (zs.take k) + psum (zs.drop k) := by rw [← psum_append, List.take_append_drop]
  have h2 : Small (zs.drop k) := fun y hy => h y (List.mem_of_mem_drop hy)
  have := psum_bd h2
  omega

/-- What the search comes to: none has any; or one that takes cells, the cell that is looked for not ahead of it, not behind it, but for the line's ends. -/
def HitIs (cell : Int) (full : List Int) (h : Int) : Prop :=
  (h = -1 ∧ psum full = 0) ∨ ∃ k : Nat, h = k ∧ ∃ x, full[k]? = some x ∧ 0 < x ∧ (cell < psum (full.take (k + 1)) ∨ psum (full.take (k + 1)) = psum full) ∧ (psum (full.take k) ≤ cell ∨ psum (full.take k) = 0)

theorem hit_is (cell : Int) (full : List Int) (hs : Small full) (hl : full.length ≤ 1099511627776) :
    ∀ (r : List Int) (k : Nat) (last : Int), k + r.length = full.length → full.drop k = r →
      ((last = -1 ∧ psum (full.take k) = 0) ∨ ∃ j : Nat, last = j ∧ ∃ x, full[j]? = some x ∧ 0 < x ∧ psum (full.take (j + 1)) = psum (full.take k) ∧ psum (full.take k) ≤ cell ∧ (psum (full.take j) ≤ cell ∨ psum (full.take j) = 0)) →
      HitIs cell full (hitF cell r k last (psum (full.take k))) := by
  intro r
  induction r with
  | nil =>
    intro k last hk hd hi
    have e : full.take k = full := List.take_of_length_le (by simp at hk; omega)
    rw [e] at hi
    rw [hitF]
    rcases hi with ⟨h1, h2⟩ | ⟨j, h1, x, h2, h3, h4, h5, h6⟩
    · exact .inl ⟨h1, h2⟩
    · exact .inr ⟨j, h1, x, h2, h3, .inr h4, h6⟩
  | cons x r ih =>
    intro k last hk hd hi
    have hx : full[k]? = some x := by
      have : (full.drop k)[0]? = some x := by rw [hd]; rfl
      simpa using this
    have hb := hs.at_ hx
    have hd' : full.drop (k + 1) = r := by
      rw [← List.drop_drop, hd]; rfl
    have hk' : (k + 1) + r.length = full.length := by simp only [List.length_cons] at hk; omega
    have hsum := psum_take_succ hx
    have hp := psum_bd (hs.take k)
    have hlen : (full.take k).length ≤ full.length := by simp; omega
    rw [hitF]
    have hw : wrap64 (psum (full.take k) + x) = psum (full.take k) + x := IntWalk.wrap64_in _ ⟨by omega, by omega⟩
    by_cases hx0 : x ≤ 0
    · rw [if_pos hx0]
      have he : psum (full.take k) = psum (full.take (k + 1)) := by omega
      rw [he] at hi ⊢
      exact ih (k + 1) last hk' hd' hi
    · rw [if_neg hx0, hw]
      have h0 : psum (full.take k) ≤ cell ∨ psum (full.take k) = 0 := by
        rcases hi with ⟨_, h2⟩ | ⟨j, _, _, _, _, _, h5, _⟩
        · exact .inr h2
        · exact .inl h5
      by_cases hc : cell < psum (full.take k) + x
      · rw [if_pos hc]
        exact .inr ⟨k, rfl, x, hx, by omega, .inl (by omega), h0⟩
      · rw [if_neg hc, ← hsum]
        exact ih (k + 1) k hk' hd' (.inr ⟨k, rfl, x, hx, by omega, rfl, by omega, h0⟩)

theorem hit_at (cell : Int) (full : List Int) (hs : Small full) (hl : full.length ≤ 1099511627776) : HitIs cell full (hitF cell full 0 (-1) 0) := by
  have := hit_is cell full hs hl full 0 (-1) (by omega) (by simp) (.inl ⟨rfl, by simp [psum]⟩)
  simpa [psum] using this

theorem getElem?_lt {α : Type} {l : List α} {k : Nat} {x : α} (h : l[k]? = some x) : k < l.length := (List.getElem?_eq_some_iff.1 h).1

/-- The law: of the one that was found. -/
theorem hit_law (cell : Int) (full : List Int) (hs : Small full) (h : Int) (hh : HitIs cell full h) :
    (h = -1 ∧ psum full = 0) ∨ ∃ k : Nat, h = k ∧ k < full.length ∧ 0 < psum full ∧ ∃ x, full[k]? = some x ∧ 0 < x ∧ psum (full.take k) ≤ max 0 (min cell (psum full - 1)) ∧ max 0 (min cell (psum full - 1)) < psum (full.take k) + x := by
  rcases hh with h1 | ⟨k, h1, x, h2, h3, h4, h5⟩
  · exact .inl h1
  · have ha := psum_bd (hs.take k)
    have hb := psum_take_succ h2
    have hc := psum_take_le hs (k + 1)
    exact .inr ⟨k, h1, getElem?_lt h2, by omega, x, h2, h3, by omega, by omega⟩
end Go.Proofs.Ytamfjmonpbojnaa
