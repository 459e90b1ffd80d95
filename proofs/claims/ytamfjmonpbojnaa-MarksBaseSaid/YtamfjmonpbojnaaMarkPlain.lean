/-
  Plain: marks behind what they are on: one pass with the marks that stand ahead; it permutes; nothing changes without marks; a line that falls.
-/
import Derived.Test.YtamfjmonpbojnaaOrderFacts
namespace Go.Proofs.Ytamfjmonpbojnaa
open Go.RowKit

/-- acc: the marks that stand ahead, the nearest first -/
def fixG (mk : Int → Bool) (lv : Int → Int) : List Int → List Int → List Int
  | acc, [] => acc.reverse
  | acc, x :: r => if mk x then fixG mk lv (x :: acc) r else (match acc.getLast? with
      | none => [x]
      | some a => if lv x = lv a then x :: acc else acc.reverse ++ [x]) ++ fixG mk lv [] r
section
variable {mk : Int → Bool} {lv : Int → Int} {acc r m : List Int} {x a : Int}
theorem fixG_nil : fixG mk lv acc [] = acc.reverse := by rw [fixG]
theorem fixG_mark (h : mk x = true) : fixG mk lv acc (x :: r) = fixG mk lv (x :: acc) r := by rw [fixG, if_pos h]
theorem fixG_plain (h : mk x = false) : fixG mk lv [] (x :: r) = x :: fixG mk lv [] r := by
  rw [fixG, if_neg (by simp [h])]; rfl
theorem fixG_turn (h : mk x = false) (ha : acc.getLast? = some a) (hl : lv x = lv a) : fixG mk lv acc (x :: r) = x :: (acc ++ fixG mk lv [] r) := by
  rw [fixG, if_neg (by simp [h]), ha]
  simp only
  rw [if_pos hl]; rfl
theorem fixG_stay (h : mk x = false) (ha : acc.getLast? = some a) (hl : lv x ≠ lv a) : fixG mk lv acc (x :: r) = acc.reverse ++ x :: fixG mk lv [] r := by
  rw [fixG, if_neg (by simp [h]), ha]
  simp only
  rw [if_neg hl]; simp
theorem fixG_scan (h : ∀ y ∈ m, mk y = true) : ∀ acc, fixG mk lv acc (m ++ r) = fixG mk lv (m.reverse ++ acc) r := by
  induction m with
  | nil => intro acc; rfl
  | cons y t ih =>
    intro acc
    rw [List.cons_append, fixG_mark (h y (by simp)), ih (fun z hz => h z (by simp [hz]))]
    simp
theorem fixG_perm : ∀ (r acc : List Int), (fixG mk lv acc r).Perm (acc ++ r) := by
  intro r
  induction r with
  | nil => intro acc; rw [fixG_nil, List.append_nil]; exact List.reverse_perm _
  | cons x r ih =>
    intro acc
    by_cases h : mk x = true
    · rw [fixG_mark h]
      exact (ih _).trans (List.perm_middle.symm)
    · have h' : mk x = false := by simpa using h
      have ih0 := ih []
      rw [List.nil_append] at ih0
      cases ha : acc.getLast? with
      | none =>
        obtain rfl : acc = [] := by simpa using ha
        rw [fixG_plain h']
        exact ih0.cons x
      | some a =>
        by_cases hl : lv x = lv a
        · rw [fixG_turn h' ha hl]
          exact ((ih0.append_left acc).cons x).trans List.perm_middle.symm
        · rw [fixG_stay h' ha hl]
          exact (List.reverse_perm acc).append (ih0.cons x)
theorem fixG_none (h : ∀ y ∈ r, mk y = false) : fixG mk lv [] r = r := by
  induction r with
  | nil => rw [fixG_nil]; rfl
  | cons y t ih => rw [fixG_plain (h y (by simp)), ih (fun z hz => h z (by simp [hz]))]
end

/-! ### by places -/
section
variable {mk : Int → Bool} {lv : Int → Int} {vis : List Int} {k e : Nat} {x y : Int}
theorem drop_split (vis : List Int) (hke : k ≤ e) : vis.drop k = (vis.drop k).take (e - k) ++ vis.drop e := by
  conv => lhs; rw [← List.take_append_drop (e - k) (vis.drop k)]
  rw [List.drop_drop, show k + (e - k) = e by omega]
theorem last_run (hk : k < e) (hx : vis[k]? = some x) : ((vis.drop k).take (e - k)).reverse.getLast? = some x := by
  rw [List.getLast?_reverse, List.head?_take, if_neg (by omega), List.head?_drop]
  exact hx
theorem fix_one (hx : vis[k]? = some x) (h : mk x = false) : fixG mk lv [] (vis.drop k) = x :: fixG mk lv [] (vis.drop (k + 1)) := by
  rw [drop_cons_of hx, fixG_plain h]
theorem fix_turn (hke : k < e) (hm : ∀ z ∈ (vis.drop k).take (e - k), mk z = true) (hx : vis[k]? = some x) (hy : vis[e]? = some y) (h : mk y = false) (hl : lv y = lv x) :
    fixG mk lv [] (vis.drop k) = ((vis.drop k).take (e + 1 - k)).reverse ++ fixG mk lv [] (vis.drop (e + 1)) := by
  have e1 : (vis.drop k).take (e + 1 - k) = (vis.drop k).take (e - k) ++ [y] := by
    rw [show e + 1 - k = (e - k) + 1 by omega]
    exact take_snoc (by rw [List.getElem?_drop, show k + (e - k) = e by omega]; exact hy)
  conv => lhs; rw [drop_split vis (Nat.le_of_lt hke), fixG_scan hm, List.append_nil, drop_cons_of hy, fixG_turn h (last_run hke hx) hl]
  rw [e1]
  simp
theorem fix_stay (hke : k < e) (hm : ∀ z ∈ (vis.drop k).take (e - k), mk z = true) (hx : vis[k]? = some x) (hy : vis[e]? = some y) (h : mk y = false) (hl : lv y ≠ lv x) :
    fixG mk lv [] (vis.drop k) = (vis.drop k).take (e - k) ++ fixG mk lv [] (vis.drop e) := by
  conv => lhs; rw [drop_split vis (Nat.le_of_lt hke), fixG_scan hm, List.append_nil, drop_cons_of hy, fixG_stay h (last_run hke hx) hl, List.reverse_reverse]
  rw [drop_cons_of hy, fixG_plain h]
theorem fix_end (hm : ∀ z ∈ (vis.drop k).take (e - k), mk z = true) (hke : k ≤ e) (he : vis.length ≤ e) :
    fixG mk lv [] (vis.drop k) = (vis.drop k).take (e - k) ++ fixG mk lv [] (vis.drop e) := by
  have h0 : vis.drop e = [] := List.drop_of_length_le he
  conv => lhs; rw [drop_split vis hke, fixG_scan hm, h0, fixG_nil]
  rw [h0, fixG_nil]
  simp
end

/-- all places lie in a line of n -/
def insB (n : Nat) (vis : List Int) : Bool := vis.all fun p => decide (0 ≤ p) && decide (p < (n : Int))
def fixAll (mk : Int → Bool) (lv : Int → Int) (n : Nat) (vis : List Int) : List Int := if insB n vis = true then fixG mk lv [] vis else vis
theorem insB_iff {n : Nat} {vis : List Int} : insB n vis = true ↔ ∀ p ∈ vis, ∃ q : Nat, p = q ∧ q < n := by
  unfold insB
  rw [List.all_eq_true]
  constructor
  · intro h p hp
    have := h p hp
    simp at this
    exact ⟨p.toNat, by omega, by omega⟩
  · intro h p hp
    obtain ⟨q, rfl, hq⟩ := h p hp
    simp; omega
theorem fixAll_perm (mk : Int → Bool) (lv : Int → Int) (n : Nat) (vis : List Int) : (fixAll mk lv n vis).Perm vis := by
  unfold fixAll
  split
  · have := fixG_perm (mk := mk) (lv := lv) vis []
    rwa [List.nil_append] at this
  · exact List.Perm.refl _
theorem fixAll_none {mk : Int → Bool} {lv : Int → Int} {n : Nat} {vis : List Int} (h : ∀ p ∈ vis, mk p = false) : fixAll mk lv n vis = vis := by
  unfold fixAll
  split
  · exact fixG_none h
  · rfl
/-- a mark, by levels, classes and widths -/
def mkF (L C Wd : List Int) (p : Int) : Bool := (lvF L p).tmod 2 == 1 && C.getD p.toNat 0 == 8 && Wd.getD p.toNat 0 == 0
def fixL (L C Wd : List Int) (vis : List Int) : List Int := fixAll (mkF L C Wd) (lvF L) (min (min L.length C.length) Wd.length) vis

/-! ### a line that falls -/
/-- each mark stands directly behind the place ahead of it -/
def Foll (mk : Int → Bool) (l : List Int) : Prop := ∀ (k : Nat) (p : Int), l[k]? = some p → mk p = true → ∃ k', k = k' + 1 ∧ l[k']? = some (p - 1)
theorem Foll.append {mk : Int → Bool} {a b : List Int} (ha : Foll mk a) (hb : Foll mk b) : Foll mk (a ++ b) := by
  intro k p h hm
  by_cases hk : k < a.length
  · rw [List.getElem?_append_left hk] at h
    obtain ⟨k', rfl, h'⟩ := ha k p h hm
    exact ⟨k', rfl, by rw [List.getElem?_append_left (by omega)]; exact h'⟩
  · rw [List.getElem?_append_right (by omega)] at h
    obtain ⟨k', e, h'⟩ := hb _ p h hm
    refine ⟨a.length + k', by omega, ?_⟩
    rw [List.getElem?_append_right (by omega), show a.length + k' - a.length = k' by omega]
    exact h'
def upF (j m : Nat) : List Int := (List.range m).map fun i => ((j + i : Nat) : Int)
theorem upF_succ (j m : Nat) : upF j (m + 1) = (j : Int) :: upF (j + 1) m := by
  unfold upF
  rw [List.range_succ_eq_map, List.map_cons, List.map_map]
  congr 1
  apply List.map_congr_left
  intro i _
  simp only [Function.comp_apply]
  congr 1
  omega
theorem foll_up {mk : Int → Bool} {j m : Nat} (h : mk (j : Int) = false) : Foll mk (upF j m) := by
  intro k p hk hm
  unfold upF at hk ⊢
  have hkm : k < m := by
    have := (List.getElem?_eq_some_iff.1 hk).1
    simpa using this
  rw [List.getElem?_map, List.getElem?_range hkm] at hk
  simp at hk
  subst hk
  cases k with
  | zero => simp [h] at hm
  | succ k =>
    refine ⟨k, rfl, ?_⟩
    rw [List.getElem?_map, List.getElem?_range (by omega)]
    simp
    omega
def fallL (j : Nat) : List Int := (upF 0 j).reverse
theorem fallL_succ (j : Nat) : fallL (j + 1) = (j : Int) :: fallL j := by
  unfold fallL upF
  rw [List.range_succ, List.map_append, List.reverse_append]
  simp
theorem fix_down {mk : Int → Bool} {lv : Int → Int} (h0 : mk 0 = false) : ∀ (j m : Nat), (∀ q : Nat, q < j + m → lv q = 1) → (0 < m → 0 < j) → Foll mk (fixG mk lv (upF j m) (fallL j)) := by
  intro j
  induction j with
  | zero =>
    intro m _ hm
    obtain rfl : m = 0 := by omega
    show Foll mk (fixG mk lv [] [])
    rw [fixG_nil]
    intro k p h; simp at h
  | succ j ih =>
    intro m hl _
    rw [fallL_succ]
    by_cases hj : mk (j : Int) = true
    · rw [fixG_mark hj, ← upF_succ]
      refine ih (m + 1) (fun q hq => hl q (by omega)) (fun _ => ?_)
      by_cases hj0 : j = 0
      · subst hj0; rw [show ((0 : Nat) : Int) = 0 from rfl, h0] at hj; cases hj
      · omega
    · have hj' : mk (j : Int) = false := by simpa using hj
      have ih0 := ih 0 (fun q hq => hl q (by omega)) (fun h => by omega)
      rw [show upF j 0 = [] from rfl] at ih0
      have key : fixG mk lv (upF (j + 1) m) ((j : Int) :: fallL j) = upF j (m + 1) ++ fixG mk lv [] (fallL j) := by
        rw [upF_succ]
        cases m with
        | zero => rw [show upF (j + 1) 0 = [] from rfl, fixG_plain hj']; rfl
        | succ m =>
          have hlast : (upF (j + 1) (m + 1)).getLast? = some ((j + 1 + m : Nat) : Int) := by
            unfold upF
            rw [List.range_succ, List.map_append]
            simp
          rw [fixG_turn hj' hlast (by rw [hl j (by omega), hl (j + 1 + m) (by omega)])]
          rfl
      rw [key]
      exact (foll_up hj').append ih0
end Go.Proofs.Ytamfjmonpbojnaa
