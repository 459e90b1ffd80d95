/-
  Plain: turning part by part, level by level from the highest down, comes to the same as order.turned.
-/
import Derived.Test.YtamfjmonpbojnaaOrderFacts
namespace Go.Proofs.Ytamfjmonpbojnaa
open Go.RowKit

/-- each part of those at level l or above is turned round -/
def turnAt (lv : Int → Int) (l : Int) (ps : List Int) : List Int := (partsF (fun q => decide (l - 1 < lv q)) List.reverse ps).flatten
/-- all levels above 126 - f have been turned -/
def downF (lv : Int → Int) : Nat → List Int → List Int
  | 0, ps => ps
  | f + 1, ps => turnAt lv (126 - (f : Int)) (downF lv f ps)

theorem downF_zero (lv : Int → Int) (ps : List Int) : downF lv 0 ps = ps := rfl
theorem downF_succ (lv : Int → Int) (f : Nat) (ps : List Int) : downF lv (f + 1) ps = turnAt lv (126 - (f : Int)) (downF lv f ps) := rfl
theorem turnF_zero (lv : Int → Int) (ps : List Int) : turnF lv 0 ps = turnStep lv 126 id ps := rfl
theorem turnF_succ (lv : Int → Int) (f : Nat) (ps : List Int) : turnF lv (f + 1) ps = turnStep lv (126 - ((f + 1 : Nat) : Int)) (turnF lv f) ps := rfl
theorem takeWhile_true {p : Int → Bool} {l : List Int} {x : Int} (h : x ∈ l.takeWhile p) : p x = true := by
  induction l with
  | nil => simp at h
  | cons y r ih =>
    by_cases hy : p y = true
    · rw [List.takeWhile_cons, if_pos hy] at h
      rcases List.mem_cons.1 h with rfl | h
      · exact hy
      · exact ih h
    · rw [List.takeWhile_cons, if_neg hy] at h
      simp at h

theorem turnAt_perm (lv : Int → Int) (l : Int) (ps : List Int) : (turnAt lv l ps).Perm ps := by
  unfold turnAt partsF
  have e := groups_flat (fun q => decide (l - 1 < lv q)) ps
  conv => rhs; rw [← e]
  clear e
  induction groups (fun q => decide (l - 1 < lv q)) ps with
  | nil => exact List.Perm.refl _
  | cons g r ih =>
    simp only [List.map_cons, List.flatten_cons]
    refine List.Perm.append ?_ ih
    by_cases hq : g.1
    · rw [if_pos hq]; exact List.reverse_perm _
    · rw [if_neg hq]
theorem downF_perm (lv : Int → Int) (f : Nat) (ps : List Int) : (downF lv f ps).Perm ps := by
  induction f with
  | zero => exact List.Perm.refl _
  | succ f ih => exact (turnAt_perm _ _ _).trans ih
theorem turnAt_cut {lv : Int → Int} {l x : Int} (hx : lv x < l) (a b : List Int) : turnAt lv l (a ++ x :: b) = turnAt lv l a ++ x :: turnAt lv l b := by
  unfold turnAt partsF
  rw [groups_cut (by simp; omega)]
  simp
theorem turnAt_none {lv : Int → Int} {l : Int} {ps : List Int} (h : ∀ q ∈ ps, lv q < l) : turnAt lv l ps = ps := by
  unfold turnAt partsF
  rw [groups_none (fun x hx => by have := h x hx; simp; omega), List.map_map]
  have e : (fun (g : Bool × List Int) => if g.1 = true then g.2.reverse else g.2) ∘ (fun x : Int => (false, [x])) = fun x => [x] := by funext x; simp
  rw [e]
  clear h e
  induction ps with
  | nil => rfl
  | cons x r ih => simp [ih]
theorem turnAt_all {lv : Int → Int} {l : Int} {ps : List Int} (h : ∀ q ∈ ps, l ≤ lv q) : turnAt lv l ps = ps.reverse := by
  by_cases hp : ps = []
  · subst hp; simp [turnAt, partsF, groups]
  · unfold turnAt partsF
    rw [groups_all (fun x hx => by have := h x hx; simp; omega) hp]
    simp
theorem downF_cut {lv : Int → Int} {x : Int} (f : Nat) (hf : f ≤ 126) (hx : lv x ≤ 126 - (f : Int)) (a b : List Int) : downF lv f (a ++ x :: b) = downF lv f a ++ x :: downF lv f b := by
  induction f with
  | zero => rfl
  | succ f ih =>
    rw [downF_succ, downF_succ, downF_succ, ih (by omega) (by omega), turnAt_cut (by omega)]
theorem downF_nil (lv : Int → Int) (f : Nat) : downF lv f [] = [] := by
  have := (downF_perm lv f []).length_eq
  exact List.eq_nil_of_length_eq_zero (by simpa using this)
/-- the parts above level 126 - (f + 1) are turned each by itself -/
theorem downF_parts {lv : Int → Int} (f : Nat) (hf : f + 1 ≤ 126) (ps : List Int) :
    downF lv (f + 1) ps = (partsF (fun q => decide (126 - ((f + 1 : Nat) : Int) < lv q)) (fun g => (downF lv f g).reverse) ps).flatten := by
  have hall : ∀ g : List Int, (∀ q ∈ g, 126 - ((f + 1 : Nat) : Int) < lv q) → downF lv (f + 1) g = (downF lv f g).reverse := by
    intro g hg
    rw [downF_succ]
    exact turnAt_all (fun q hq => by have := hg q ((downF_perm lv f g).mem_iff.1 hq); omega)
  have hcut : ∀ (x : Int) (a b : List Int), ¬ (126 - ((f + 1 : Nat) : Int) < lv x) → downF lv (f + 1) (a ++ x :: b) = downF lv (f + 1) a ++ x :: downF lv (f + 1) b :=
    fun x a b hx => downF_cut (f + 1) hf (by omega) a b
  induction ps using groups.induct (fun q => decide (126 - ((f + 1 : Nat) : Int) < lv q)) with
  | case1 => rw [downF_nil]; simp [partsF, groups]
  | case2 x r h ih =>
    unfold partsF at ih ⊢
    rw [groups, if_pos h]
    simp only [List.map_cons, if_true, List.flatten_cons]
    rw [← ih]
    have hsplit : x :: r = (x :: r.takeWhile fun q => decide (126 - ((f + 1 : Nat) : Int) < lv q)) ++ r.dropWhile fun q => decide (126 - ((f + 1 : Nat) : Int) < lv q) := by
      rw [List.cons_append, List.takeWhile_append_dropWhile]
    have hg : ∀ q ∈ (x :: r.takeWhile fun q => decide (126 - ((f + 1 : Nat) : Int) < lv q)), 126 - ((f + 1 : Nat) : Int) < lv q := by
      intro q hq
      rcases List.mem_cons.1 hq with rfl | hq
      · simpa using h
      · have := takeWhile_true hq
        simpa using this
    rw [← hall _ hg]
    conv => lhs; rw [hsplit]
    cases hd : r.dropWhile fun q => decide (126 - ((f + 1 : Nat) : Int) < lv q) with
    | nil => rw [downF_nil, List.append_nil, List.append_nil]
    | cons y r' =>
      have hy : ¬ (126 - ((f + 1 : Nat) : Int) < lv y) := by
        have h1 := List.head?_dropWhile_not (fun q => decide (126 - ((f + 1 : Nat) : Int) < lv q)) r
        rw [hd] at h1
        simpa using h1
      rw [hcut y _ r' hy]
      congr 1
      have := hcut y [] r' hy
      rw [List.nil_append, downF_nil, List.nil_append] at this
      exact this.symm
  | case3 x r h ih =>
    unfold partsF at ih ⊢
    rw [groups, if_neg h]
    simp only [List.map_cons, List.flatten_cons]
    rw [← ih]
    have := hcut x [] r (by simpa using h)
    rw [List.nil_append, downF_nil, List.nil_append] at this
    rw [this]
    rfl
theorem groups_single {p : Int → Bool} {l : List Int} {g : Bool × List Int} (hq : g.1 = false) (hg : g ∈ groups p l) : ∃ x, g.2 = [x] := by
  induction l using groups.induct p with
  | case1 => rw [groups] at hg; cases hg
  | case2 x r h ih =>
    rw [groups, if_pos h] at hg
    rcases List.mem_cons.1 hg with rfl | hg
    · cases hq
    · exact ih hg
  | case3 x r h ih =>
    rw [groups, if_neg h] at hg
    rcases List.mem_cons.1 hg with rfl | hg
    · exact ⟨x, rfl⟩
    · exact ih hg
theorem turn_down (lv : Int → Int) : ∀ f : Nat, f ≤ 126 → (∀ q, lv q ≤ 126) → ∀ ps, turnF lv f ps = if (126 - (f : Int)) % 2 = 1 then (downF lv f ps).reverse else downF lv f ps := by
  intro f
  induction f with
  | zero =>
    intro _ hl ps
    rw [turnF_zero, downF_zero, turnStep_none (fun x _ => hl x), if_neg (by omega), if_neg (by omega)]
  | succ f ih =>
    intro hf hl ps
    have ih' := ih (by omega) hl
    rw [downF_parts f hf, turnF_succ]
    unfold turnStep
    by_cases hodd : (126 - ((f + 1 : Nat) : Int)) % 2 = 1
    · rw [if_pos hodd, if_pos hodd, List.reverse_flatten]
      have e : partsF (fun q => decide (126 - ((f + 1 : Nat) : Int) < lv q)) (turnF lv f) ps = (partsF (fun q => decide (126 - ((f + 1 : Nat) : Int) < lv q)) (fun g => (downF lv f g).reverse) ps).map List.reverse := by
        unfold partsF
        rw [List.map_map]
        apply List.map_congr_left
        intro g hg
        simp only [Function.comp_apply]
        by_cases hq : g.1
        · rw [if_pos hq, if_pos hq, ih', if_neg (by omega), List.reverse_reverse]
        · rw [if_neg hq, if_neg hq]
          obtain ⟨x, hx⟩ : ∃ x, g.2 = [x] := groups_single (by simpa using hq) hg
          rw [hx]; rfl
      rw [e]
    · rw [if_neg hodd, if_neg hodd]
      have e : partsF (fun q => decide (126 - ((f + 1 : Nat) : Int) < lv q)) (turnF lv f) ps = partsF (fun q => decide (126 - ((f + 1 : Nat) : Int) < lv q)) (fun g => (downF lv f g).reverse) ps := by
        unfold partsF
        apply List.map_congr_left
        intro g _
        by_cases hq : g.1
        · rw [if_pos hq, if_pos hq, ih', if_pos (by omega)]
        · rw [if_neg hq, if_neg hq]
      rw [e]
theorem visual_down (zs : List Int) : visualF zs = downF (lvF (boundF zs)) 126 (kf zs 0) := by
  unfold visualF
  rw [turn_down _ 126 (Nat.le_refl _), if_neg (by omega)]
  intro q
  unfold lvF
  rw [List.getD_eq_getElem?_getD]
  cases h : (boundF zs)[q.toNat]? with
  | none => simp
  | some x => exact bound_le zs x (List.mem_of_getElem? h)
end Go.Proofs.Ytamfjmonpbojnaa
