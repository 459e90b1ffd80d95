/-
  Plain: the places that the bands of a part lead to are those of the part that take cells, each once.
-/
import Derived.Test.YtamfjmonpbojnaaSelPlain
namespace Go.Proofs.Ytamfjmonpbojnaa
open Go.RowKit

theorem mem_pickF {h : Nat → Bool} {m : Nat} {p : Int} : p ∈ pickF h m ↔ ∃ q : Nat, p = q ∧ q < m ∧ h q = true := by
  unfold pickF
  rw [List.mem_map]
  constructor
  · rintro ⟨q, hq, rfl⟩
    rw [List.mem_filter] at hq
    exact ⟨q, rfl, List.mem_range.1 hq.1, hq.2⟩
  · rintro ⟨q, rfl, h1, h2⟩
    exact ⟨q, List.mem_filter.2 ⟨List.mem_range.2 h1, h2⟩, rfl⟩
theorem pickF_nodup (h : Nat → Bool) (m : Nat) : (pickF h m).Nodup := by
  induction m with
  | zero => simp [pickF]
  | succ m ih =>
    rw [pickF_succ]
    by_cases hm : h m = true
    · rw [if_pos hm]
      rw [List.nodup_append]
      refine ⟨ih, by simp, fun a ha b hb => ?_⟩
      obtain ⟨q, rfl, hq, _⟩ := mem_pickF.1 ha
      simp at hb
      subst hb
      omega
    · rw [if_neg hm, List.append_nil]; exact ih
theorem hasB_iff {f t : Int} {V : List Int} {W : List Nat} {p : Int} {n : Nat} : hasB f t V W p n = true ↔ ∃ k, k < n ∧ V.getD k 0 = p ∧ 0 < W.getD k 0 ∧ f < t ∧ (sF W k : Int) < t ∧ f < (sF W k : Int) + (W.getD k 0 : Int) := by
  unfold hasB condB
  rw [List.any_eq_true]
  constructor
  · rintro ⟨k, hk, h⟩
    simp only [Bool.and_eq_true, decide_eq_true_eq] at h
    exact ⟨k, List.mem_range.1 hk, h.1.1.1.1, h.1.1.1.2, h.1.1.2, h.1.2, h.2⟩
  · rintro ⟨k, hk, h1, h2, h3, h4, h5⟩
    refine ⟨k, List.mem_range.2 hk, ?_⟩
    simp only [Bool.and_eq_true, decide_eq_true_eq]
    exact ⟨⟨⟨⟨h1, h2⟩, h3⟩, h4⟩, h5⟩

/-- the cells of the one at k -/
theorem cover_at {f t : Int} {V : List Int} {W : List Nat} {k : Nat} {p : Int} {wd : Nat} (hl : V.length = W.length) (hv : V[k]? = some p) (hw : W[k]? = some wd) :
    ∀ i, sF W k ≤ i → i < sF W k + wd → (coverF f t (V.zip W))[i]? = some (inB f t p) := by
  intro i h1 h2
  have hkV := (List.getElem?_eq_some_iff.1 hv).1
  have hz : (V.zip W)[k]? = some (p, wd) := by
    rw [List.getElem?_zip_eq_some]; exact ⟨hv, hw⟩
  have hsplit : V.zip W = (V.zip W).take k ++ (p, wd) :: (V.zip W).drop (k + 1) := by
    rw [← drop_cons_of hz, List.take_append_drop]
  have hlen : (coverF f t ((V.zip W).take k)).length = sF W k := by
    rw [coverF_len]
    unfold totF sF
    congr 1
    rw [List.zip, List.take_zipWith, ← List.zip, List.map_snd_zip]
    simp; omega
  have hc : coverF f t (V.zip W) = coverF f t ((V.zip W).take k) ++ (List.replicate wd (inB f t p) ++ coverF f t ((V.zip W).drop (k + 1))) := by
    conv => lhs; rw [hsplit]
    unfold coverF
    rw [List.flatMap_append, List.flatMap_cons]
  rw [hc, List.getElem?_append_right (by omega), hlen, List.getElem?_append_left (by simp; omega), List.getElem?_replicate, if_pos (by omega)]

theorem chain_later {c : List Bool} : ∀ {bs : List (Nat × Nat)} {b : Nat}, BChain c b bs → ∀ q ∈ bs, b < q.1 ∧ c[b]? = some false := by
  intro bs
  induction bs with
  | nil => intro b _ q hq; cases hq
  | cons x r ih =>
    intro b h q hq
    obtain ⟨a1, b1⟩ := x
    obtain ⟨h1, h2, h3, h4, h5, h6⟩ := h
    have hf := h4 b (by omega) (by omega)
    rcases List.mem_cons.1 hq with rfl | hq
    · exact ⟨by simp; omega, hf⟩
    · have := (ih h6 q hq).1
      exact ⟨by omega, hf⟩
theorem chain_true {c : List Bool} : ∀ {bs : List (Nat × Nat)} {last : Int}, BChain c last bs → ∀ q ∈ bs, q.1 < q.2 ∧ ∀ i : Nat, q.1 ≤ i → i < q.2 → c[i]? = some true := by
  intro bs
  induction bs with
  | nil => intro b _ q hq; cases hq
  | cons x r ih =>
    intro b h q hq
    obtain ⟨a1, b1⟩ := x
    obtain ⟨h1, h2, h3, h4, h5, h6⟩ := h
    rcases List.mem_cons.1 hq with rfl | hq
    · exact ⟨h2, h5⟩
    · exact ih h6 q hq
theorem chain_finds {c : List Bool} : ∀ {bs : List (Nat × Nat)} {last : Int}, BChain c last bs → ∀ i : Nat, last ≤ i → c[i]? = some true → ∃ q ∈ bs, q.1 ≤ i ∧ i < q.2 := by
  intro bs
  induction bs with
  | nil =>
    intro last h i hi ht
    have := h i hi (List.getElem?_eq_some_iff.1 ht).1
    rw [ht] at this; cases this
  | cons x r ih =>
    intro last h i hi ht
    obtain ⟨a1, b1⟩ := x
    obtain ⟨h1, h2, h3, h4, h5, h6⟩ := h
    by_cases hia : i < a1
    · have := h4 i hi hia
      rw [ht] at this; cases this
    · by_cases hib : i < b1
      · exact ⟨_, List.mem_cons_self, by simp; omega, hib⟩
      · obtain ⟨q, hq, h7⟩ := ih h6 i (by omega) ht
        exact ⟨q, List.mem_cons_of_mem _ hq, h7⟩

section
variable {f t : Int} {V : List Int} {W : List Nat}
/-- all places that bands lead to -/
def ledF (V : List Int) (W : List Nat) (bs : List (Nat × Nat)) : List Int := bs.flatMap fun b => placesF b.1 b.2 V W V.length
theorem mem_places {a b : Nat} {p : Int} (hl : V.length = W.length) (h : p ∈ placesF a b V W V.length) : ∃ (k wd : Nat), V[k]? = some p ∧ W[k]? = some wd ∧ 0 < wd ∧ sF W k < b ∧ a < sF W k + wd ∧ ∃ q : Nat, p = q ∧ q < V.length := by
  obtain ⟨q, rfl, hq, h⟩ := mem_pickF.1 h
  obtain ⟨k, hk, h1, h2, h3, h4, h5⟩ := hasB_iff.1 h
  rw [List.getD_eq_getElem?_getD, List.getElem?_eq_getElem hk] at h1
  rw [List.getD_eq_getElem?_getD, List.getElem?_eq_getElem (by omega)] at h2 h5
  simp only [Option.getD_some] at h1 h2 h5
  exact ⟨k, W[k]'(by omega), by rw [List.getElem?_eq_getElem hk, h1], List.getElem?_eq_getElem (by omega), h2, by omega, by omega, q, rfl, hq⟩
theorem places_in {a b : Nat} {p : Int} (hl : V.length = W.length) {c : List Bool} (hc : c = coverF f t (V.zip W)) (ht : ∀ i : Nat, a ≤ i → i < b → c[i]? = some true) (hab : a < b) (h : p ∈ placesF a b V W V.length) : inB f t p = true := by
  obtain ⟨k, wd, h1, h2, h3, h4, h5, _⟩ := mem_places hl h
  have e1 := ht (max a (sF W k)) (by omega) (by omega)
  rw [hc, cover_at hl h1 h2 _ (by omega) (by omega)] at e1
  exact Option.some.inj e1
theorem led_nodup (hl : V.length = W.length) (hV : V.Nodup) : ∀ (bs : List (Nat × Nat)) (last : Int), BChain (coverF f t (V.zip W)) last bs → (ledF V W bs).Nodup := by
  intro bs
  induction bs with
  | nil => intro last _; exact List.nodup_nil
  | cons x r ih =>
    intro last h
    obtain ⟨a, b⟩ := x
    have h' := h
    obtain ⟨h1, h2, h3, h4, h5, h6⟩ := h
    unfold ledF
    rw [List.flatMap_cons, List.nodup_append]
    refine ⟨pickF_nodup _ _, ih _ h6, fun p hp p' hp' e => ?_⟩
    subst e
    obtain ⟨q, hq, hpq⟩ := List.mem_flatMap.1 hp'
    obtain ⟨k, wd, g1, g2, g3, g4, g5, _⟩ := mem_places hl hp
    obtain ⟨k', wd', g1', g2', g3', g4', g5', _⟩ := mem_places hl hpq
    have hkk : k = k' := by
      have a1 := (List.getElem?_eq_some_iff.1 g1)
      have a2 := (List.getElem?_eq_some_iff.1 g1')
      obtain ⟨b1, b2⟩ := a1
      obtain ⟨b1', b2'⟩ := a2
      exact (List.getElem_inj hV).1 (b2.trans b2'.symm)
    subst hkk
    rw [g2] at g2'
    obtain rfl := Option.some.inj g2'
    obtain ⟨l1, l2⟩ := chain_later h6 q hq
    have hin := places_in (f := f) (t := t) hl rfl h5 h2 hp
    rw [cover_at hl g1 g2 _ (by omega) (by omega), hin] at l2
    cases l2
theorem mem_led (hl : V.length = W.length) (hV : ∀ p ∈ V, ∃ q : Nat, p = q ∧ q < V.length) {bs : List (Nat × Nat)} (h : BChain (coverF f t (V.zip W)) (-1) bs) {p : Int} :
    p ∈ ledF V W bs ↔ inB f t p = true ∧ ∃ (k wd : Nat), V[k]? = some p ∧ W[k]? = some wd ∧ 0 < wd := by
  constructor
  · intro hp
    obtain ⟨q, hq, hpq⟩ := List.mem_flatMap.1 hp
    obtain ⟨t1, t2⟩ := chain_true h q hq
    refine ⟨places_in hl rfl t2 t1 hpq, ?_⟩
    obtain ⟨k, wd, g1, g2, g3, _⟩ := mem_places hl hpq
    exact ⟨k, wd, g1, g2, g3⟩
  · rintro ⟨hin, k, wd, g1, g2, g3⟩
    have hc := cover_at (f := f) (t := t) hl g1 g2 (sF W k) (Nat.le_refl _) (by omega)
    rw [hin] at hc
    obtain ⟨q, hq, l1, l2⟩ := chain_finds h (sF W k) (by omega) hc
    refine List.mem_flatMap.2 ⟨q, hq, ?_⟩
    obtain ⟨p', rfl, hp'⟩ := hV p (List.mem_of_getElem? g1)
    refine mem_pickF.2 ⟨p', rfl, hp', hasB_iff.2 ⟨k, (List.getElem?_eq_some_iff.1 g1).1, ?_, ?_, ?_, ?_, ?_⟩⟩
    · rw [List.getD_eq_getElem?_getD, g1]; rfl
    · rw [List.getD_eq_getElem?_getD, g2]; exact g3
    · omega
    · omega
    · rw [List.getD_eq_getElem?_getD, g2]; simp only [Option.getD_some]; omega
theorem led_bound (hl : V.length = W.length) (bs : List (Nat × Nat)) {p : Int} (h : p ∈ ledF V W bs) : ∃ q : Nat, p = q ∧ q < V.length := by
  obtain ⟨q, _, hpq⟩ := List.mem_flatMap.1 h
  obtain ⟨_, _, _, _, _, _, _, h6⟩ := mem_places hl hpq
  exact h6
end
/-- those of the part that take cells -/
def wantS (f t : Int) (V : List Int) (W : List Nat) (m : Nat) : List Int := ((List.range m).filter fun k => inB f t (V.getD k 0) && decide (0 < W.getD k 0)).map fun k => V.getD k 0
theorem wantS_succ (f t : Int) (V : List Int) (W : List Nat) (m : Nat) : wantS f t V W (m + 1) = wantS f t V W m ++ (if (inB f t (V.getD m 0) && decide (0 < W.getD m 0)) = true then [V.getD m 0] else []) := by
  unfold wantS
  rw [List.range_succ, List.filter_append, List.map_append]
  congr 1
  by_cases hm : (inB f t (V.getD m 0) && decide (0 < W.getD m 0)) = true
  · rw [List.filter_cons, if_pos hm, if_pos hm]; rfl
  · rw [List.filter_cons, if_neg hm, if_neg hm]; rfl
theorem wantS_len (f t : Int) (V : List Int) (W : List Nat) (m : Nat) : (wantS f t V W m).length ≤ m := by
  unfold wantS
  rw [List.length_map]
  have := List.length_filter_le (fun k => inB f t (V.getD k 0) && decide (0 < W.getD k 0)) (List.range m)
  simpa using this
theorem sub_nodup {V : List Int} (hV : V.Nodup) : ∀ (l : List Nat), l.Nodup → (∀ k ∈ l, k < V.length) → (l.map fun k => V.getD k 0).Nodup := by
  intro l
  induction l with
  | nil => intro _ _; exact List.nodup_nil
  | cons k r ih =>
    intro hn hb
    obtain ⟨h1, h2⟩ := List.nodup_cons.1 hn
    rw [List.map_cons, List.nodup_cons]
    refine ⟨fun hm => ?_, ih h2 (fun j hj => hb j (by simp [hj]))⟩
    obtain ⟨j, hj, e⟩ := List.mem_map.1 hm
    have hjV := hb j (by simp [hj])
    have hkV := hb k (by simp)
    simp only [List.getD_eq_getElem?_getD, List.getElem?_eq_getElem hjV, List.getElem?_eq_getElem hkV, Option.getD_some] at e
    have := (List.getElem_inj hV).1 e
    subst this
    exact h1 hj
/-- as many are marked as there are of the part that take cells -/
theorem led_count {f t : Int} {V : List Int} {W : List Nat} (hl : V.length = W.length) (hV : V.Nodup) (hin : ∀ p ∈ V, ∃ q : Nat, p = q ∧ q < V.length) {bs : List (Nat × Nat)} (h : BChain (coverF f t (V.zip W)) (-1) bs) :
    (pickF (fun p => decide ((p : Int) ∈ ledF V W bs)) V.length).length = (wantS f t V W V.length).length := by
  refine List.Perm.length_eq ((List.perm_ext_iff_of_nodup (pickF_nodup _ _) ?_).2 fun p => ?_)
  · refine sub_nodup hV _ (List.Pairwise.filter _ List.nodup_range) (fun k hk => ?_)
    exact List.mem_range.1 (List.mem_filter.1 hk).1
  · rw [mem_pickF]
    constructor
    · rintro ⟨q, rfl, hq, hd⟩
      rw [decide_eq_true_eq, mem_led hl hin h] at hd
      obtain ⟨h1, k, wd, g1, g2, g3⟩ := hd
      unfold wantS
      refine List.mem_map.2 ⟨k, List.mem_filter.2 ⟨List.mem_range.2 (List.getElem?_eq_some_iff.1 g1).1, ?_⟩, by rw [List.getD_eq_getElem?_getD, g1]; rfl⟩
      rw [List.getD_eq_getElem?_getD, List.getD_eq_getElem?_getD, g1, g2]
      simp [h1, g3]
    · intro hp
      unfold wantS at hp
      obtain ⟨k, hk, e⟩ := List.mem_map.1 hp
      obtain ⟨hk1, hk2⟩ := List.mem_filter.1 hk
      have hkn := List.mem_range.1 hk1
      have gV : V[k]? = some p := by
        rw [← e, List.getD_eq_getElem?_getD, List.getElem?_eq_getElem hkn]; rfl
      have gW : W[k]? = some (W.getD k 0) := by
        rw [List.getD_eq_getElem?_getD, List.getElem?_eq_getElem (by omega)]; rfl
      rw [e] at hk2
      simp only [Bool.and_eq_true, decide_eq_true_eq] at hk2
      obtain ⟨q, rfl, hq⟩ := hin p (List.mem_of_getElem? gV)
      exact ⟨q, rfl, hq, by rw [decide_eq_true_eq, mem_led hl hin h]; exact ⟨hk2.1, k, _, gV, gW, hk2.2⟩⟩

/-! ### a line by some numbers -/
def lineV (L : List Int) (n : Nat) : List Int := (visualF L).filter fun p => decide (p < (n : Int))
theorem kf_full {L : List Int} (h : ∀ x ∈ L, x ≠ -1) : ∀ k, kf L k = (List.range L.length).map (fun j : Nat => ((k + j : Nat) : Int)) := by
  induction L with
  | nil => intro k; rfl
  | cons x r ih =>
    intro k
    rw [kf, if_neg (h x (by simp)), ih (fun y hy => h y (by simp [hy])), List.length_cons, List.range_succ_eq_map]
    simp only [List.map_cons, List.map_map]
    congr 1
    apply List.map_congr_left
    intro j _
    simp only [Function.comp_apply]
    congr 1
    omega
theorem filter_up (n m : Nat) : ((List.range (n + m)).map (fun j : Nat => (j : Int))).filter (fun p => decide (p < (n : Int))) = (List.range n).map (fun j : Nat => (j : Int)) := by
  induction m with
  | zero =>
    rw [Nat.add_zero, List.filter_eq_self]
    intro p hp
    obtain ⟨j, hj, rfl⟩ := List.mem_map.1 hp
    have := List.mem_range.1 hj
    simp; omega
  | succ m ih =>
    rw [← Nat.add_assoc, List.range_succ, List.map_append, List.filter_append, ih, List.map_singleton, List.filter_cons, if_neg (by simp; omega), List.filter_nil, List.append_nil]
theorem line_perm {L : List Int} {n : Nat} (h : ∀ x ∈ L, x ≠ -1) (hn : n ≤ L.length) : (lineV L n).Perm ((List.range n).map (fun j : Nat => (j : Int))) := by
  have h1 : (lineV L n).Perm ((kf L 0).filter fun p => decide (p < (n : Int))) := (visual_perm L).filter _
  rw [kf_full h] at h1
  have e : (List.range L.length).map (fun j : Nat => ((0 + j : Nat) : Int)) = (List.range (n + (L.length - n))).map (fun j : Nat => (j : Int)) := by
    rw [show n + (L.length - n) = L.length by omega]
    apply List.map_congr_left
    intro j _
    congr 1
    omega
  rw [e, filter_up] at h1
  exact h1
theorem line_len {L : List Int} {n : Nat} (h : ∀ x ∈ L, x ≠ -1) (hn : n ≤ L.length) : (lineV L n).length = n := by
  rw [(line_perm h hn).length_eq]; simp
theorem line_nodup (L : List Int) (n : Nat) : (lineV L n).Nodup := List.Pairwise.filter _ (visual_nodup L)
theorem line_mem {L : List Int} {n : Nat} {p : Int} (h : p ∈ lineV L n) : ∃ q : Nat, p = q ∧ q < n := by
  obtain ⟨h1, h2⟩ := List.mem_filter.1 h
  obtain ⟨q, rfl, _⟩ := visual_mem h1
  rw [decide_eq_true_eq] at h2
  exact ⟨q, rfl, by omega⟩
end Go.Proofs.Ytamfjmonpbojnaa
