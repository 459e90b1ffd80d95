/-
  Plain: the bands of a part of a line and the cells that it covers; the places that have some cells.
-/
import Derived.Test.YtamfjmonpbojnaaOrderFacts
namespace Go.Proofs.Ytamfjmonpbojnaa
open Go.RowKit

def inB (f t p : Int) : Bool := decide (f ≤ p) && decide (p < t)
/-- the bands of what follows; cur: the one that is open -/
def bandsG (f t : Int) : Option (Nat × Nat) → Nat → List (Int × Nat) → List (Nat × Nat)
  | cur, _, [] => cur.toList
  | cur, s, (p, wd) :: r => if inB f t p = true ∧ 0 < wd then
      (match cur with
        | none => bandsG f t (some (s, s + wd)) (s + wd) r
        | some (a, b) => if b = s then bandsG f t (some (a, s + wd)) (s + wd) r else (a, b) :: bandsG f t (some (s, s + wd)) (s + wd) r)
    else bandsG f t cur (s + wd) r
def coverF (f t : Int) (z : List (Int × Nat)) : List Bool := z.flatMap fun q => List.replicate q.2 (inB f t q.1)
def totF (z : List (Int × Nat)) : Nat := (z.map (·.2)).sum
section
variable {f t p : Int} {s wd a b : Nat} {r z : List (Int × Nat)} {cur : Option (Nat × Nat)}
theorem bandsG_nil : bandsG f t cur s [] = cur.toList := by rw [bandsG]
theorem bandsG_out (h : ¬ (inB f t p = true ∧ 0 < wd)) : bandsG f t cur s ((p, wd) :: r) = bandsG f t cur (s + wd) r := by
  rw [bandsG.eq_def]
  simp only
  rw [if_neg h]
theorem bandsG_new (h : inB f t p = true ∧ 0 < wd) : bandsG f t none s ((p, wd) :: r) = bandsG f t (some (s, s + wd)) (s + wd) r := by rw [bandsG, if_pos h]
theorem bandsG_on (h : inB f t p = true ∧ 0 < wd) : bandsG f t (some (a, s)) s ((p, wd) :: r) = bandsG f t (some (a, s + wd)) (s + wd) r := by
  rw [bandsG, if_pos h]; simp
theorem bandsG_next (h : inB f t p = true ∧ 0 < wd) (hb : b ≠ s) : bandsG f t (some (a, b)) s ((p, wd) :: r) = (a, b) :: bandsG f t (some (s, s + wd)) (s + wd) r := by
  rw [bandsG, if_pos h]; simp [hb]
theorem coverF_len (z : List (Int × Nat)) : (coverF f t z).length = totF z := by
  unfold coverF totF
  induction z with
  | nil => rfl
  | cons q r ih => simp [ih]
end

/-- bands that are just the true places of c from `last` on -/
def BChain (c : List Bool) : Int → List (Nat × Nat) → Prop
  | last, [] => ∀ i : Nat, last ≤ i → i < c.length → c[i]? = some false
  | last, (a, b) :: r => last < a ∧ a < b ∧ b ≤ c.length ∧ (∀ i : Nat, last ≤ i → i < a → c[i]? = some false) ∧ (∀ i : Nat, a ≤ i → i < b → c[i]? = some true) ∧ BChain c b r
/-- what is known of the open band -/
def CurOk (c : List Bool) (last : Int) (s : Nat) : Option (Nat × Nat) → Prop
  | none => last = -1 ∧ ∀ i : Nat, i < s → c[i]? = some false
  | some (a, b) => last < a ∧ a < b ∧ b ≤ s ∧ (∀ i : Nat, last ≤ i → i < a → c[i]? = some false) ∧ (∀ i : Nat, a ≤ i → i < b → c[i]? = some true) ∧ (∀ i : Nat, b ≤ i → i < s → c[i]? = some false)
theorem drop_rep {c : List Bool} {s wd : Nat} {x : Bool} {l : List Bool} (h : c.drop s = List.replicate wd x ++ l) (hs : s ≤ c.length) :
    s + wd ≤ c.length ∧ c.drop (s + wd) = l ∧ ∀ i, s ≤ i → i < s + wd → c[i]? = some x := by
  have h1 : wd ≤ (c.drop s).length := by rw [h]; simp
  rw [List.length_drop] at h1
  refine ⟨by omega, ?_, fun i h2 h3 => ?_⟩
  · rw [← List.drop_drop, h, List.drop_append_of_le_length (by simp), List.drop_of_length_le (by simp)]; rfl
  · have : c[i]? = (c.drop s)[i - s]? := by rw [List.getElem?_drop, show s + (i - s) = i by omega]
    rw [this, h, List.getElem?_append_left (by simp; omega), List.getElem?_replicate, if_pos (by omega)]
theorem chain_go (f t : Int) (c : List Bool) : ∀ (z : List (Int × Nat)) (cur : Option (Nat × Nat)) (s : Nat) (last : Int), s ≤ c.length → c.drop s = coverF f t z → -1 ≤ last → CurOk c last s cur → BChain c last (bandsG f t cur s z) := by
  intro z
  induction z with
  | nil =>
    intro cur s last hs hc hl hcur
    have hn : s = c.length := by
      have := congrArg List.length hc
      simp [coverF] at this; omega
    rw [bandsG_nil]
    cases cur with
    | none => exact fun i h1 h2 => hcur.2 i (by omega)
    | some q =>
      obtain ⟨a, b⟩ := q
      obtain ⟨h1, h2, h3, h4, h5, h6⟩ := hcur
      exact ⟨h1, h2, by omega, h4, h5, fun i h7 h8 => h6 i (by omega) (by omega)⟩
  | cons q r ih =>
    intro cur s last hs hc hl hcur
    obtain ⟨p, wd⟩ := q
    have hc' : c.drop s = List.replicate wd (inB f t p) ++ coverF f t r := by rw [hc]; simp [coverF]
    obtain ⟨k1, k2, k3⟩ := drop_rep hc' hs
    by_cases hin : inB f t p = true ∧ 0 < wd
    · rw [hin.1] at k3
      cases cur with
      | none =>
        rw [bandsG_new hin]
        have h0 := hcur.1
        exact ih _ _ _ k1 k2 hl ⟨by omega, by omega, Nat.le_refl _, fun i h1 h2 => hcur.2 i h2, k3, fun i h1 h2 => by omega⟩
      | some q =>
        obtain ⟨a, b⟩ := q
        obtain ⟨h1, h2, h3, h4, h5, h6⟩ := hcur
        by_cases hb : b = s
        · subst hb
          rw [bandsG_on hin]
          refine ih _ _ _ k1 k2 hl ⟨h1, by omega, Nat.le_refl _, h4, fun i h7 h8 => ?_, fun i h7 h8 => by omega⟩
          by_cases h9 : i < b
          · exact h5 i h7 h9
          · exact k3 i (by omega) h8
        · rw [bandsG_next hin hb]
          refine ⟨h1, h2, by omega, h4, h5, ih _ _ _ k1 k2 (by omega) ⟨by omega, by omega, Nat.le_refl _, fun i h7 h8 => h6 i (by omega) h8, k3, fun i h7 h8 => by omega⟩⟩
    · rw [bandsG_out hin]
      have hf : ∀ i, s ≤ i → i < s + wd → c[i]? = some false := fun i h1 h2 => by
        have := k3 i h1 h2
        have h0 : inB f t p = false := by
          by_cases h : inB f t p = true
          · exact absurd ⟨h, by omega⟩ hin
          · simpa using h
        rw [h0] at this
        exact this
      refine ih _ _ _ k1 k2 hl ?_
      cases cur with
      | none => exact ⟨hcur.1, fun i h2 => by
          by_cases h : i < s
          · exact hcur.2 i h
          · exact hf i (by omega) h2⟩
      | some q =>
        obtain ⟨a, b⟩ := q
        obtain ⟨h1, h2, h3, h4, h5, h6⟩ := hcur
        refine ⟨h1, h2, by omega, h4, h5, fun i h7 h8 => ?_⟩
        by_cases h : i < s
        · exact h6 i h7 h
        · exact hf i (by omega) h8
/-- the bands of a part are just its cells -/
theorem chain_bands (f t : Int) (z : List (Int × Nat)) : BChain (coverF f t z) (-1) (bandsG f t none 0 z) :=
  chain_go f t _ z none 0 (-1) (Nat.zero_le _) rfl (by omega) ⟨rfl, fun i h => by omega⟩

/-! ### all of a line; nothing of it -/
theorem bands_empty (x : Int) : ∀ (z : List (Int × Nat)) (s : Nat), bandsG x x none s z = [] := by
  intro z
  induction z with
  | nil => intro s; rw [bandsG_nil]; rfl
  | cons q r ih =>
    intro s
    obtain ⟨p, wd⟩ := q
    rw [bandsG_out (by unfold inB; simp; omega)]
    exact ih _
theorem bands_on {f t : Int} : ∀ (z : List (Int × Nat)) (a s : Nat), (∀ q ∈ z, inB f t q.1 = true) → bandsG f t (some (a, s)) s z = [(a, s + totF z)] := by
  intro z
  induction z with
  | nil => intro a s _; rw [bandsG_nil]; rfl
  | cons q r ih =>
    intro a s h
    obtain ⟨p, wd⟩ := q
    have h' : ∀ q ∈ r, inB f t q.1 = true := fun q hq => h q (by simp [hq])
    have ht : totF ((p, wd) :: r) = wd + totF r := by simp [totF]
    by_cases hw : 0 < wd
    · rw [bandsG_on ⟨h (p, wd) (by simp), hw⟩, ih _ _ h', ht, Nat.add_assoc]
    · rw [bandsG_out (fun h => hw h.2), show s + wd = s by omega, ih _ _ h', ht, show wd + totF r = totF r by omega]
theorem bands_whole {f t : Int} : ∀ (z : List (Int × Nat)) (s : Nat), (∀ q ∈ z, inB f t q.1 = true) → bandsG f t none s z = if totF z = 0 then [] else [(s, s + totF z)] := by
  intro z
  induction z with
  | nil => intro s _; rw [bandsG_nil]; rfl
  | cons q r ih =>
    intro s h
    obtain ⟨p, wd⟩ := q
    have h' : ∀ q ∈ r, inB f t q.1 = true := fun q hq => h q (by simp [hq])
    have ht : totF ((p, wd) :: r) = wd + totF r := by simp [totF]
    by_cases hw : 0 < wd
    · rw [bandsG_new ⟨h (p, wd) (by simp), hw⟩, bands_on _ _ _ h', if_neg (by omega), ht, Nat.add_assoc]
    · rw [bandsG_out (fun h => hw h.2), show s + wd = s by omega, ih _ h', ht, show wd + totF r = totF r by omega]
/-- how many cells the bands have -/
def cellsF (bs : List (Nat × Nat)) : Int := (bs.map fun b => (b.2 : Int) - (b.1 : Int)).sum
theorem cellsF_snoc (bs : List (Nat × Nat)) (b : Nat × Nat) : cellsF (bs ++ [b]) = cellsF bs + ((b.2 : Int) - (b.1 : Int)) := by
  unfold cellsF; simp

/-! ### the places that have some cells -/
/-- the first cell of the one at k -/
def sF (W : List Nat) (k : Nat) : Nat := (W.take k).sum
theorem sF_succ {W : List Nat} {k wd : Nat} (h : W[k]? = some wd) : sF W (k + 1) = sF W k + wd := by
  unfold sF; rw [take_snoc h]; simp
theorem sF_le {W : List Nat} (h : ∀ x ∈ W, x ≤ 2) (k : Nat) : sF W k ≤ 2 * W.length := by
  have h1 : ∀ l : List Nat, (∀ x ∈ l, x ≤ 2) → l.sum ≤ 2 * l.length := by
    intro l
    induction l with
    | nil => intro _; simp
    | cons x r ih =>
      intro h
      have a := h x (by simp)
      have b := ih (fun y hy => h y (by simp [hy]))
      simp; omega
  have h2 := h1 (W.take k) (fun x hx => h x (List.mem_of_mem_take hx))
  have h3 : (W.take k).length ≤ W.length := List.length_take_le' _ _
  unfold sF; omega
/-- place p has one of the cells from f up to t, by what stands at k -/
def condB (f t : Int) (V : List Int) (W : List Nat) (p : Int) (k : Nat) : Bool :=
  decide (V.getD k 0 = p) && decide (0 < W.getD k 0) && decide (f < t) && decide ((sF W k : Int) < t) && decide (f < (sF W k : Int) + (W.getD k 0 : Int))
def hasB (f t : Int) (V : List Int) (W : List Nat) (p : Int) (k : Nat) : Bool := (List.range k).any fun j => condB f t V W p j
theorem hasB_zero (f t : Int) (V : List Int) (W : List Nat) (p : Int) : hasB f t V W p 0 = false := rfl
theorem hasB_succ (f t : Int) (V : List Int) (W : List Nat) (p : Int) (k : Nat) : hasB f t V W p (k + 1) = (hasB f t V W p k || condB f t V W p k) := by
  unfold hasB
  rw [List.range_succ, List.any_append]
  simp
/-- the first m of a row of tests that hold -/
def pickF (h : Nat → Bool) (m : Nat) : List Int := ((List.range m).filter h).map fun p : Nat => (p : Int)
theorem pickF_succ (h : Nat → Bool) (m : Nat) : pickF h (m + 1) = pickF h m ++ (if h m = true then [(m : Int)] else []) := by
  unfold pickF
  rw [List.range_succ, List.filter_append, List.map_append]
  congr 1
  by_cases hm : h m = true
  · simp [hm]
  · simp [hm]
theorem pickF_len (h : Nat → Bool) (m : Nat) : (pickF h m).length ≤ m := by
  unfold pickF
  rw [List.length_map]
  have := List.length_filter_le h (List.range m)
  simpa using this
def placesF (f t : Int) (V : List Int) (W : List Nat) (n : Nat) : List Int := pickF (fun p => hasB f t V W (p : Int) n) n
end Go.Proofs.Ytamfjmonpbojnaa
