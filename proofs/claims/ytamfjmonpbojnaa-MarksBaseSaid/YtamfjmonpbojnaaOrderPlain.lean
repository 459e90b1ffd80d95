/-
  Plain definitions and facts on the order of a line: the parts of a list, turned level by level.
-/
import Derived.Test.YtamfjmonpbojnaaRowsMem
namespace Go.Proofs.Ytamfjmonpbojnaa
open Go.RowKit

/-- the parts: those that follow one another where p holds, each other one by itself -/
def groups (p : Int → Bool) : List Int → List (Bool × List Int)
  | [] => []
  | x :: r => if p x then (true, x :: r.takeWhile p) :: groups p (r.dropWhile p) else (false, [x]) :: groups p r
termination_by l => l.length
decreasing_by
  · have := (List.dropWhile_sublist p (l := r)).length_le
    simp only [List.length_cons]; omega
  · simp only [List.length_cons]; omega
theorem groups_nil (p : Int → Bool) : groups p [] = [] := by rw [groups]
theorem groups_hi {p : Int → Bool} {x : Int} {r : List Int} (h : p x = true) : groups p (x :: r) = (true, (x :: r).takeWhile p) :: groups p ((x :: r).dropWhile p) := by
  rw [groups, if_pos h, List.takeWhile_cons, if_pos h, List.dropWhile_cons, if_pos h]
theorem groups_lo {p : Int → Bool} {x : Int} {r : List Int} (h : p x = false) : groups p (x :: r) = (false, [x]) :: groups p r := by
  rw [groups, if_neg (by simp [h])]
theorem groups_flat (p : Int → Bool) (l : List Int) : ((groups p l).map (·.2)).flatten = l := by
  induction l using groups.induct p with
  | case1 => simp [groups]
  | case2 x r h ih => rw [groups, if_pos h]; simp [ih]
  | case3 x r h ih => rw [groups, if_neg h]; simp [ih]
theorem groups_sub (p : Int → Bool) (l : List Int) : ∀ g ∈ groups p l, ∀ x ∈ g.2, x ∈ l := by
  intro g hg x hx
  rw [← groups_flat p l]
  exact List.mem_flatten.2 ⟨g.2, List.mem_map.2 ⟨g, hg, rfl⟩, hx⟩

/-- one level: each part that lies above it by rec, the parts turned round where the level is odd -/
def partsF (p : Int → Bool) (rec : List Int → List Int) (ps : List Int) : List (List Int) := (groups p ps).map fun g => if g.1 then rec g.2 else g.2
def turnStep (lv : Int → Int) (lev : Int) (rec : List Int → List Int) (ps : List Int) : List Int :=
  (if lev % 2 = 1 then (partsF (fun q => decide (lev < lv q)) rec ps).reverse else partsF (fun q => decide (lev < lv q)) rec ps).flatten
/-- f levels are still to come, up to level 126 -/
def turnF (lv : Int → Int) : Nat → List Int → List Int
  | 0, ps => turnStep lv 126 id ps
  | f + 1, ps => turnStep lv (126 - ((f + 1 : Nat) : Int)) (turnF lv f) ps

theorem partsF_len (p : Int → Bool) (rec : List Int → List Int) (hrec : ∀ g, (rec g).length = g.length) (ps : List Int) : (partsF p rec ps).flatten.length = ps.length := by
  have h := congrArg List.length (groups_flat p ps)
  rw [← h, List.length_flatten, List.length_flatten, partsF]
  congr 1
  simp only [List.map_map]
  apply List.map_congr_left
  intro g _
  simp only [Function.comp_apply]
  by_cases hg : g.1
  · rw [if_pos hg, hrec]
  · rw [if_neg hg]
theorem flatten_reverse_len {l : List (List Int)} : l.reverse.flatten.length = l.flatten.length := by
  rw [List.length_flatten, List.length_flatten, List.map_reverse, List.sum_reverse]
theorem turnStep_len (lv : Int → Int) (lev : Int) (rec : List Int → List Int) (hrec : ∀ g, (rec g).length = g.length) (ps : List Int) : (turnStep lv lev rec ps).length = ps.length := by
  unfold turnStep
  split
  · rw [flatten_reverse_len, partsF_len _ _ hrec]
  · rw [partsF_len _ _ hrec]
theorem turnF_len (lv : Int → Int) (f : Nat) : ∀ ps, (turnF lv f ps).length = ps.length := by
  induction f with
  | zero => intro ps; exact turnStep_len lv 126 id (fun _ => rfl) ps
  | succ f ih => intro ps; exact turnStep_len lv _ _ ih ps
theorem take_flatten_len (l : List (List Int)) (i : Nat) : (l.take i).flatten.length ≤ l.flatten.length := by
  have : l.flatten = (l.take i).flatten ++ (l.drop i).flatten := by rw [← List.flatten_append, List.take_append_drop]
  rw [this, List.length_append]
  omega
/-- the scan: what stands at the head of a part -/
theorem takeWhile_scan {p : Int → Bool} {l : List Int} {e : Nat} (h1 : ∀ x ∈ l.take e, p x = true) (h2 : ∀ x, l[e]? = some x → p x = false) (he : e ≤ l.length) : l.takeWhile p = l.take e ∧ l.dropWhile p = l.drop e := by
  induction l generalizing e with
  | nil => simp
  | cons x r ih =>
    cases e with
    | zero =>
      have := h2 x rfl
      simp [this]
    | succ e =>
      have hx : p x = true := h1 x (by simp)
      obtain ⟨a, b⟩ := ih (e := e) (fun y hy => h1 y (by simp [hy])) (fun y hy => h2 y (by simpa using hy)) (by simpa using he)
      simp [hx, a, b]

/-- the parts from a place on: a part that lies above, from k up to e -/
theorem partsF_hi {p : Int → Bool} {rec : List Int → List Int} {ps : List Int} {k e : Nat} (hk : k < e) (he : e ≤ ps.length) (h1 : ∀ x ∈ (ps.drop k).take (e - k), p x = true) (h2 : ∀ x, ps[e]? = some x → p x = false) :
    partsF p rec (ps.drop k) = rec ((ps.drop k).take (e - k)) :: partsF p rec (ps.drop e) := by
  obtain ⟨x, hx⟩ : ∃ x, ps[k]? = some x := ⟨_, List.getElem?_eq_getElem (by omega)⟩
  have hd : ps.drop k = x :: ps.drop (k + 1) := by
    obtain ⟨a, b⟩ := List.getElem?_eq_some_iff.1 hx
    rw [← b]; exact List.drop_eq_getElem_cons a
  have hpx : p x = true := h1 x (by rw [hd, show e - k = (e - k - 1) + 1 by omega]; simp)
  obtain ⟨a, b⟩ := takeWhile_scan (p := p) (l := ps.drop k) (e := e - k) h1 (fun y hy => h2 y (by rw [List.getElem?_drop] at hy; rwa [show k + (e - k) = e by omega] at hy)) (by simp; omega)
  rw [List.drop_drop, show k + (e - k) = e by omega] at b
  unfold partsF
  rw [hd, groups_hi hpx, ← hd, a, b]
  simp
theorem partsF_lo {p : Int → Bool} {rec : List Int → List Int} {ps : List Int} {k : Nat} {x : Int} (hx : ps[k]? = some x) (h : p x = false) :
    partsF p rec (ps.drop k) = [x] :: partsF p rec (ps.drop (k + 1)) := by
  have hd : ps.drop k = x :: ps.drop (k + 1) := by
    obtain ⟨a, b⟩ := List.getElem?_eq_some_iff.1 hx
    rw [← b]; exact List.drop_eq_getElem_cons a
  unfold partsF
  rw [hd, groups_lo h]
  simp
theorem partsF_end {p : Int → Bool} {rec : List Int → List Int} {ps : List Int} {k : Nat} (h : ps.length ≤ k) : partsF p rec (ps.drop k) = [] := by
  rw [List.drop_of_length_le h, partsF, groups_nil]; rfl
end Go.Proofs.Ytamfjmonpbojnaa
