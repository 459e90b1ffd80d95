/-
  Plain: a part of a list turned round by exchanges from both ends; the document's order, from its highest level down.
-/
import Derived.Test.YtamfjmonpbojnaaRefPlain
namespace Go.Proofs.Ytamfjmonpbojnaa
open Go.RowKit

/-- the part from a up to b, turned round -/
def revAt (O : List Int) (a b : Nat) : List Int := O.take a ++ (((O.drop a).take (b - a)).reverse ++ O.drop b)
/-- .. behind j exchanges -/
def swV (O : List Int) (a b j x : Nat) : Int := if (a ≤ x ∧ x < a + j) ∨ (b ≤ x + j ∧ x < b) then O.getD (a + b - 1 - x) 0 else O.getD x 0
def swF (O : List Int) (a b j : Nat) : List Int := (List.range O.length).map (swV O a b j)
section
variable {O : List Int} {a b j x : Nat}
theorem swF_len : (swF O a b j).length = O.length := by simp [swF]
theorem swF_get (hx : x < O.length) : (swF O a b j)[x]? = some (swV O a b j x) := by
  unfold swF; rw [List.getElem?_map, List.getElem?_range hx]; rfl
theorem list_of_get {l : List Int} {n : Nat} {f : Nat → Int} (hl : l.length = n) (h : ∀ x, x < n → l[x]? = some (f x)) : l = (List.range n).map f := by
  apply List.ext_getElem?
  intro x
  by_cases hx : x < n
  · rw [h x hx, List.getElem?_map, List.getElem?_range hx]; rfl
  · rw [List.getElem?_eq_none (by omega), List.getElem?_eq_none (by simp; omega)]
theorem get_getD {l : List Int} (hx : x < l.length) : l[x]? = some (l.getD x 0) := by
  rw [List.getD_eq_getElem?_getD, List.getElem?_eq_getElem hx]; rfl
theorem swF_zero : swF O a b 0 = O := by
  refine (list_of_get rfl fun x hx => ?_).symm
  rw [get_getD hx]
  unfold swV
  rw [if_neg (by omega)]
theorem swF_step (hj : a + j < b - 1 - j) : ((swF O a b j).set (a + j) (O.getD (b - 1 - j) 0)).set (b - 1 - j) (O.getD (a + j) 0) = swF O a b (j + 1) := by
  refine list_of_get (by simp [swF_len]) fun x hx => ?_
  by_cases h1 : x = b - 1 - j
  · subst h1
    rw [List.getElem?_set_self (by rw [List.length_set, swF_len]; omega)]
    unfold swV
    rw [if_pos (by omega), show a + b - 1 - (b - 1 - j) = a + j by omega]
  · rw [List.getElem?_set_ne (by omega)]
    by_cases h2 : x = a + j
    · subst h2
      rw [List.getElem?_set_self (by rw [swF_len]; omega)]
      unfold swV
      rw [if_pos (by omega), show a + b - 1 - (a + j) = b - 1 - j by omega]
    · rw [List.getElem?_set_ne (by omega), swF_get hx]
      unfold swV
      by_cases h3 : (a ≤ x ∧ x < a + j) ∨ (b ≤ x + j ∧ x < b)
      · rw [if_pos h3, if_pos (by omega)]
      · rw [if_neg h3, if_neg (by omega)]
theorem revAt_len (ha : a ≤ b) (hb : b ≤ O.length) : (revAt O a b).length = O.length := by
  unfold revAt; simp; omega
theorem revAt_get (ha : a ≤ b) (hb : b ≤ O.length) (hx : x < O.length) : (revAt O a b)[x]? = some (if a ≤ x ∧ x < b then O.getD (a + b - 1 - x) 0 else O.getD x 0) := by
  unfold revAt
  have hlt : (O.take a).length = a := by simp; omega
  have hlm : ((O.drop a).take (b - a)).length = b - a := by simp; omega
  by_cases h1 : x < a
  · rw [List.getElem?_append_left (by omega), List.getElem?_take, if_pos h1, if_neg (by omega), get_getD hx]
  · rw [List.getElem?_append_right (by omega), hlt]
    by_cases h2 : x < b
    · rw [List.getElem?_append_left (by rw [List.length_reverse]; omega), List.getElem?_reverse (by omega), hlm, List.getElem?_take, if_pos (by omega), List.getElem?_drop, if_pos ⟨by omega, h2⟩, show a + (b - a - 1 - (x - a)) = a + b - 1 - x by omega, get_getD (by omega)]
    · rw [List.getElem?_append_right (by rw [List.length_reverse]; omega), List.length_reverse, hlm, List.getElem?_drop, if_neg (by omega), show b + (x - a - (b - a)) = x by omega, get_getD hx]
theorem swF_done (ha : a + j ≤ b) (hb : b ≤ O.length) (hj : b - 1 - j ≤ a + j) : swF O a b j = revAt O a b := by
  refine (list_of_get (revAt_len (by omega) hb) fun x hx => ?_).symm
  rw [revAt_get (by omega) hb hx]
  unfold swV
  by_cases h1 : a ≤ x ∧ x < b
  · rw [if_pos h1]
    by_cases h2 : (a ≤ x ∧ x < a + j) ∨ (b ≤ x + j ∧ x < b)
    · rw [if_pos h2]
    · rw [if_neg h2, show a + b - 1 - x = x by omega]
  · rw [if_neg h1, if_neg (by omega)]
/-- what stands ahead of the part and behind it stays -/
theorem revAt_mid {pre ps : List Int} {k e : Nat} (hp : pre.length = k) (hke : k ≤ e) : revAt (pre ++ ps.drop k) k e = (pre ++ ((ps.drop k).take (e - k)).reverse) ++ ps.drop e := by
  unfold revAt
  subst hp
  rw [List.take_left, List.drop_left, List.append_assoc]
  congr 2
  rw [List.drop_append, List.drop_of_length_le (l := pre) hke, List.nil_append, List.drop_drop, show pre.length + (e - pre.length) = e by omega]
end

/-! ### from the highest level down -/
theorem turnAt_lo {lv : Int → Int} {l x : Int} {ps : List Int} {k : Nat} (hx : ps[k]? = some x) (h : lv x < l) : turnAt lv l (ps.drop k) = x :: turnAt lv l (ps.drop (k + 1)) := by
  unfold turnAt
  rw [partsF_lo hx (by simp; omega)]; rfl
theorem turnAt_hi {lv : Int → Int} {l : Int} {ps : List Int} {k e : Nat} (hk : k < e) (he : e ≤ ps.length) (h1 : ∀ x ∈ (ps.drop k).take (e - k), l ≤ lv x) (h2 : ∀ x, ps[e]? = some x → lv x < l) :
    turnAt lv l (ps.drop k) = ((ps.drop k).take (e - k)).reverse ++ turnAt lv l (ps.drop e) := by
  unfold turnAt
  rw [partsF_hi hk he (fun x hx => by have := h1 x hx; simp; omega) (fun x hx => by have := h2 x hx; simp; omega)]; rfl
theorem turnAt_end {lv : Int → Int} {l : Int} {ps : List Int} {k : Nat} (h : ps.length ≤ k) : turnAt lv l (ps.drop k) = [] := by
  unfold turnAt
  rw [partsF_end h]; rfl
theorem downF_id {lv : Int → Int} {M : Int} {ps : List Int} (h : ∀ q ∈ ps, lv q ≤ M) : ∀ f : Nat, (f : Int) ≤ 126 - M → downF lv f ps = ps := by
  intro f
  induction f with
  | zero => intro _; exact downF_zero lv ps
  | succ f ih =>
    intro hf
    rw [downF_succ, ih (by omega), turnAt_none (fun q hq => by have := h q hq; omega)]
theorem turnAt_bound (zs : List Int) {l : Int} (h0 : 1 ≤ l) (h1 : l ≤ 126) (ps : List Int) : turnAt (lvF (boundF zs)) l ps = turnAt (lvF zs) l ps := by
  unfold turnAt partsF
  rw [groups_congr (q := fun q => decide (l - 1 < lvF zs q)) (fun q _ => ?_)]
  rw [decide_eq_decide]
  unfold lvF boundF
  rw [List.getD_eq_getElem?_getD, List.getD_eq_getElem?_getD, List.getElem?_map]
  cases zs[q.toNat]? with
  | none => simp
  | some x => simp; omega
/-- all levels from l + 1 up have been turned -/
def downL (zs : List Int) (l : Nat) : List Int := downF (lvF (boundF zs)) (126 - l) (kf zs 0)
theorem downL_zero (zs : List Int) : downL zs 0 = visualF zs := by
  rw [visual_down]; rfl
theorem downL_step (zs : List Int) {l : Nat} (h0 : 1 ≤ l) (h1 : l ≤ 126) : downL zs (l - 1) = turnAt (lvF zs) l (downL zs l) := by
  unfold downL
  rw [show 126 - (l - 1) = (126 - l) + 1 by omega, downF_succ, show (126 : Int) - ((126 - l : Nat) : Int) = (l : Int) by omega, turnAt_bound zs (by omega) (by omega)]
theorem downL_top (zs : List Int) {M : Nat} (h : ∀ (k : Nat) (x : Int), zs[k]? = some x → x ≠ -1 → min x 126 ≤ (M : Int)) (hM : M ≤ 126) : downL zs M = kf zs 0 := by
  refine downF_id (M := M) (fun q hq => ?_) _ (by omega)
  obtain ⟨j, l, h1, h2, h3⟩ := kf_mem' hq
  rw [Nat.zero_add] at h1
  subst h1
  have := h j l h2 h3
  simp only [lvF, boundF, Int.toNat_natCast, List.getD_eq_getElem?_getD, List.getElem?_map, h2, Option.map_some, Option.getD_some]
  exact this
theorem downL_len (zs : List Int) (l : Nat) : (downL zs l).length = (kf zs 0).length := (downF_perm _ _ _).length_eq
theorem downL_mem {zs : List Int} {l : Nat} {p : Int} (h : p ∈ downL zs l) : ∃ (q : Nat) (x : Int), p = q ∧ zs[q]? = some x := by
  rw [downL, (downF_perm _ _ _).mem_iff] at h
  obtain ⟨j, x, h1, h2, _⟩ := kf_mem' h
  exact ⟨j, x, by rw [h1, Nat.zero_add], h2⟩
end Go.Proofs.Ytamfjmonpbojnaa
