/-
  Plain facts on the order of a line: it is a permutation; a cut at level 0; raised levels; one level; what leads back.
-/
import Derived.Test.YtamfjmonpbojnaaOrderAwake
namespace Go.Proofs.Ytamfjmonpbojnaa
open Go.RowKit

/-! ### the parts of what is mapped; of agreeing tests -/
theorem groups_map (g : Int → Int) (p : Int → Bool) (l : List Int) : groups p (l.map g) = (groups (fun x => p (g x)) l).map fun q => (q.1, q.2.map g) := by
  induction l using groups.induct (fun x => p (g x)) with
  | case1 => simp [groups]
  | case2 x r h ih =>
    rw [List.map_cons, groups, if_pos h, groups, if_pos h]
    simp only [List.map_cons]
    rw [List.takeWhile_map, List.dropWhile_map]
    exact congrArg _ ih
  | case3 x r h ih =>
    rw [List.map_cons, groups, if_neg h, groups, if_neg h, ih]
    simp
theorem takeWhile_congr {p q : Int → Bool} {l : List Int} (h : ∀ x ∈ l, p x = q x) : l.takeWhile p = l.takeWhile q ∧ l.dropWhile p = l.dropWhile q := by
  induction l with
  | nil => simp
  | cons x r ih =>
    have h1 := h x (by simp)
    obtain ⟨a, b⟩ := ih (fun y hy => h y (by simp [hy]))
    rw [List.takeWhile_cons, List.takeWhile_cons, List.dropWhile_cons, List.dropWhile_cons, h1, a, b]
    exact ⟨rfl, rfl⟩
theorem groups_congr {p q : Int → Bool} {l : List Int} (h : ∀ x ∈ l, p x = q x) : groups p l = groups q l := by
  induction l using groups.induct p with
  | case1 => rw [groups, groups]
  | case2 x r hx ih =>
    have h1 := h x (by simp)
    obtain ⟨a, b⟩ := takeWhile_congr (l := r) (fun y hy => h y (by simp [hy]))
    rw [groups, if_pos hx, groups, if_pos (by rw [← h1]; exact hx), a, ih (fun y hy => h y (List.mem_cons_of_mem _ ((List.dropWhile_sublist p).subset hy))), b]
  | case3 x r hx ih =>
    have h1 := h x (by simp)
    rw [groups, if_neg hx, groups, if_neg (by rw [← h1]; exact hx), ih (fun y hy => h y (by simp [hy]))]
theorem groups_none {p : Int → Bool} {l : List Int} (h : ∀ x ∈ l, p x = false) : groups p l = l.map fun x => (false, [x]) := by
  induction l with
  | nil => rw [groups]; rfl
  | cons x r ih =>
    rw [groups_lo (h x (by simp)), ih (fun y hy => h y (by simp [hy]))]
    rfl
theorem while_all {p : Int → Bool} {l : List Int} (h : ∀ x ∈ l, p x = true) : l.takeWhile p = l ∧ l.dropWhile p = [] := by
  have := takeWhile_scan (p := p) (l := l) (e := l.length) (fun x hx => h x (by simpa using hx)) (fun x hx => by simp at hx) (Nat.le_refl _)
  simpa using this
theorem groups_all {p : Int → Bool} {l : List Int} (h : ∀ x ∈ l, p x = true) (hl : l ≠ []) : groups p l = [(true, l)] := by
  cases l with
  | nil => exact absurd rfl hl
  | cons x r =>
    obtain ⟨e1, e2⟩ := while_all h
    rw [groups_hi (h x (by simp)), e1, e2, groups_nil]
theorem groups_cut {p : Int → Bool} {x : Int} (hx : p x = false) (l r : List Int) : groups p (l ++ x :: r) = groups p l ++ (false, [x]) :: groups p r := by
  induction l using groups.induct p with
  | case1 => rw [List.nil_append, groups_lo hx, groups_nil]; rfl
  | case2 y l' h ih =>
    have e1 : (l' ++ x :: r).takeWhile p = l'.takeWhile p := by
      rw [List.takeWhile_append]
      split
      · rename_i h2
        rw [List.takeWhile_cons, if_neg (by simp [hx]), List.append_nil]
        exact ((List.takeWhile_prefix p (l := l')).eq_of_length h2).symm
      · rfl
    have e2 : (l' ++ x :: r).dropWhile p = l'.dropWhile p ++ x :: r := by
      rw [List.dropWhile_append]
      split
      · rename_i h2
        rw [List.dropWhile_cons, if_neg (by simp [hx])]
        rw [List.isEmpty_iff.1 h2]
        rfl
      · rfl
    rw [List.cons_append, groups, if_pos h, groups, if_pos h, e1, e2, ih]
    rfl
  | case3 y l' h ih =>
    rw [List.cons_append, groups, if_neg h, groups, if_neg h, ih]
    rfl

theorem turnStep_map (g : Int → Int) (lv : Int → Int) (lev : Int) (rec rec' : List Int → List Int) (hrec : ∀ l, rec (l.map g) = (rec' l).map g) (ps : List Int) : turnStep lv lev rec (ps.map g) = (turnStep (fun x => lv (g x)) lev rec' ps).map g := by
  have h : partsF (fun q => decide (lev < lv q)) rec (ps.map g) = (partsF (fun q => decide (lev < lv (g q))) rec' ps).map (·.map g) := by
    unfold partsF
    rw [groups_map, List.map_map, List.map_map]
    apply List.map_congr_left
    intro q _
    simp only [Function.comp_apply]
    by_cases hq : q.1
    · rw [if_pos hq, if_pos hq, hrec]
    · rw [if_neg hq, if_neg hq]
  unfold turnStep
  rw [h]
  split
  · rw [List.map_flatten, List.map_reverse]
  · rw [List.map_flatten]
theorem turnF_map (g : Int → Int) (lv : Int → Int) (f : Nat) : ∀ ps, turnF lv f (ps.map g) = (turnF (fun x => lv (g x)) f ps).map g := by
  induction f with
  | zero => intro ps; exact turnStep_map g lv 126 id id (fun _ => rfl) ps
  | succ f ih => intro ps; exact turnStep_map g lv _ _ _ ih ps
theorem turnStep_congr {lv lv' : Int → Int} {lev : Int} {rec rec' : List Int → List Int} {ps : List Int} (h : ∀ x ∈ ps, lv x = lv' x) (hrec : ∀ l, (∀ x ∈ l, x ∈ ps) → rec l = rec' l) : turnStep lv lev rec ps = turnStep lv' lev rec' ps := by
  have e : partsF (fun q => decide (lev < lv q)) rec ps = partsF (fun q => decide (lev < lv' q)) rec' ps := by
    unfold partsF
    rw [groups_congr (q := fun q => decide (lev < lv' q)) (fun x hx => by rw [h x hx])]
    apply List.map_congr_left
    intro g hg
    by_cases hq : g.1
    · rw [if_pos hq, if_pos hq, hrec _ (groups_sub _ _ g hg)]
    · rw [if_neg hq, if_neg hq]
  unfold turnStep
  rw [e]
theorem turnF_congr {lv lv' : Int → Int} (f : Nat) : ∀ {ps : List Int}, (∀ x ∈ ps, lv x = lv' x) → turnF lv f ps = turnF lv' f ps := by
  induction f with
  | zero => intro ps h; exact turnStep_congr h (fun _ _ => rfl)
  | succ f ih => intro ps h; exact turnStep_congr h (fun l hl => ih (fun x hx => h x (hl x hx)))

/-! ### a permutation -/
theorem turnStep_perm {lv : Int → Int} {lev : Int} {rec : List Int → List Int} (hrec : ∀ l, (rec l).Perm l) (ps : List Int) : (turnStep lv lev rec ps).Perm ps := by
  have h : (partsF (fun q => decide (lev < lv q)) rec ps).flatten.Perm ps := by
    have e := groups_flat (fun q => decide (lev < lv q)) ps
    conv => rhs; rw [← e]
    unfold partsF
    clear e
    induction groups (fun q => decide (lev < lv q)) ps with
    | nil => exact List.Perm.refl _
    | cons g r ih =>
      simp only [List.map_cons, List.flatten_cons]
      refine List.Perm.append ?_ ih
      by_cases hq : g.1
      · rw [if_pos hq]; exact hrec _
      · rw [if_neg hq]
  unfold turnStep
  split
  · exact (List.Perm.flatten (List.reverse_perm _)).trans h
  · exact h
theorem turnF_perm (lv : Int → Int) (f : Nat) : ∀ ps, (turnF lv f ps).Perm ps := by
  induction f with
  | zero => intro ps; exact turnStep_perm (fun l => List.Perm.refl l) ps
  | succ f ih => intro ps; exact turnStep_perm ih ps
theorem visual_perm (zs : List Int) : (visualF zs).Perm (kf zs 0) := turnF_perm _ _ _

theorem kf_ge {zs : List Int} {p : Int} {k : Nat} (h : p ∈ kf zs k) : (k : Int) ≤ p := by
  obtain ⟨j, l, h1, _, _⟩ := kf_mem' h
  omega
theorem kf_nodup (zs : List Int) : ∀ k, (kf zs k).Nodup := by
  induction zs with
  | nil => intro k; simp [kf]
  | cons x r ih =>
    intro k
    rw [kf]
    split
    · exact ih _
    · refine List.nodup_cons.2 ⟨fun h => ?_, ih _⟩
      have := kf_ge h
      omega
theorem mem_kf {zs : List Int} {q : Nat} : ∀ {k : Nat}, ((k + q : Nat) : Int) ∈ kf zs k ↔ ∃ l, zs[q]? = some l ∧ l ≠ -1 := by
  induction zs generalizing q with
  | nil => intro k; simp [kf]
  | cons x r ih =>
    intro k
    rw [kf]
    cases q with
    | zero =>
      by_cases hx : x = -1
      · rw [if_pos hx]
        constructor
        · intro h; have := kf_ge h; omega
        · rintro ⟨l, h, hl⟩; simp at h; omega
      · rw [if_neg hx]
        constructor
        · intro _; exact ⟨x, rfl, hx⟩
        · intro _; simp
    | succ q =>
      have := ih (q := q) (k := k + 1)
      rw [show k + 1 + q = k + (q + 1) by omega] at this
      by_cases hx : x = -1
      · rw [if_pos hx, this]; simp
      · rw [if_neg hx, List.mem_cons, this]
        constructor
        · rintro (h | h)
          · omega
          · simpa using h
        · intro h; exact .inr (by simpa using h)
theorem mem_visual {zs : List Int} {q : Nat} : (q : Int) ∈ visualF zs ↔ ∃ l, zs[q]? = some l ∧ l ≠ -1 := by
  rw [(visual_perm zs).mem_iff]
  have := mem_kf (zs := zs) (q := q) (k := 0)
  rwa [Nat.zero_add] at this
theorem visual_mem {zs : List Int} {p : Int} (h : p ∈ visualF zs) : ∃ q : Nat, p = q ∧ q < zs.length := by
  rw [(visual_perm zs).mem_iff] at h
  obtain ⟨j, l, h1, h2, _⟩ := kf_mem' h
  exact ⟨j, by rw [h1, Nat.zero_add], (List.getElem?_eq_some_iff.1 h2).1⟩
theorem visual_nodup (zs : List Int) : (visualF zs).Nodup := (visual_perm zs).nodup_iff.2 (kf_nodup zs 0)

/-! ### what leads back -/
theorem back_ok : ∀ (vis : List Int) (k : Nat) (out : List Int), vis.Nodup → (∀ p ∈ vis, ∃ q : Nat, p = q ∧ out[q]? = some (-1)) →
    ∃ out', backGo vis k out = some out' ∧ out'.length = out.length ∧ (∀ (i q : Nat), vis[i]? = some (q : Int) → out'[q]? = some ((k + i : Nat) : Int)) ∧ (∀ q : Nat, (q : Int) ∉ vis → out'[q]? = out[q]?) := by
  intro vis
  induction vis with
  | nil => intro k out _ _; exact ⟨out, rfl, rfl, fun i q h => by simp at h, fun q _ => rfl⟩
  | cons p r ih =>
    intro k out hnd hin
    obtain ⟨q, rfl, hq⟩ := hin p (by simp)
    obtain ⟨hnr, hnd'⟩ := List.nodup_cons.1 hnd
    have hql := (List.getElem?_eq_some_iff.1 hq).1
    have hg : out.getD q 0 = -1 := by rw [List.getD_eq_getElem?_getD, hq]; rfl
    obtain ⟨out', h1, h2, h3, h4⟩ := ih (k + 1) (out.set q k) hnd' (fun p' hp' => by
      obtain ⟨q', rfl, hq'⟩ := hin p' (by simp [hp'])
      refine ⟨q', rfl, ?_⟩
      rw [List.getElem?_set_ne (by rintro rfl; exact hnr hp')]
      exact hq')
    refine ⟨out', ?_, by rw [h2, List.length_set], fun i q' hi => ?_, fun q' hq' => ?_⟩
    · rw [backGo, Int.toNat_natCast, if_neg, h1]
      rintro (h | h | h)
      · omega
      · omega
      · exact h hg
    · cases i with
      | zero =>
        simp at hi
        have : q' = q := by omega
        subst this
        rw [h4 q' hnr, List.getElem?_set_self hql]
        simp
      | succ i =>
        rw [h3 i q' (by simpa using hi)]
        congr 2
        omega
    · rw [h4 q' (fun h => hq' (by simp [h])), List.getElem?_set_ne (by rintro rfl; exact hq' (by simp))]

/-! ### a cut at level 0 -/
theorem kf_append (a b : List Int) : ∀ k, kf (a ++ b) k = kf a k ++ kf b (k + a.length) := by
  induction a with
  | nil => intro k; simp [kf]
  | cons x r ih =>
    intro k
    simp only [List.cons_append, kf, ih, List.length_cons]
    rw [show k + 1 + r.length = k + (r.length + 1) by omega]
    split <;> rfl
theorem kf_shift (b : List Int) : ∀ k, kf b k = (kf b 0).map (fun q => (k : Int) + q) := by
  induction b with
  | nil => intro k; simp [kf]
  | cons x r ih =>
    intro k
    rw [kf, kf, ih (k + 1), ih (0 + 1)]
    split
    · rw [List.map_map]; apply List.map_congr_left; intro q _; simp only [Function.comp_apply]; omega
    · rw [List.map_cons, List.map_map]
      have e : (k : Int) = (k : Int) + ((0 : Nat) : Int) := by omega
      rw [← e]
      congr 1
      apply List.map_congr_left; intro q _; simp only [Function.comp_apply]; omega
theorem turn_top (lv : Int → Int) (ps : List Int) : turnF lv 126 ps = turnStep lv 0 (turnF lv 125) ps := rfl
theorem turn_next (lv : Int → Int) (ps : List Int) : turnF lv 125 ps = turnStep lv 1 (turnF lv 124) ps := rfl
theorem turn_cut (lv : Int → Int) (l r : List Int) (x : Int) (hx : lv x = 0) : turnF lv 126 (l ++ x :: r) = turnF lv 126 l ++ x :: turnF lv 126 r := by
  rw [turn_top, turn_top, turn_top]
  generalize turnF lv 125 = rec
  unfold turnStep
  have h0 : ¬ ((0 : Int) % 2 = 1) := by omega
  rw [if_neg h0, if_neg h0, if_neg h0]
  unfold partsF
  rw [groups_cut (by rw [hx]; simp)]
  simp
theorem visual_cut (a b : List Int) : visualF (a ++ 0 :: b) = visualF a ++ (a.length : Int) :: (visualF b).map (fun q => (a.length : Int) + 1 + q) := by
  unfold visualF
  have hk : kf (a ++ 0 :: b) 0 = kf a 0 ++ (a.length : Int) :: (kf b 0).map (fun q => (a.length : Int) + 1 + q) := by
    rw [kf_append, Nat.zero_add, kf, if_neg (by omega), kf_shift b]
    congr 3
  rw [hk]
  have hlv : lvF (boundF (a ++ 0 :: b)) (a.length : Int) = 0 := by simp [lvF, boundF]; rfl
  have hA : turnF (lvF (boundF (a ++ 0 :: b))) 126 (kf a 0) = turnF (lvF (boundF a)) 126 (kf a 0) := turnF_congr _ (by
    intro x hx
    obtain ⟨j, l, h1, h2, _⟩ := kf_mem' hx
    have hj := (List.getElem?_eq_some_iff.1 h2).1
    rw [Nat.zero_add] at h1
    subst h1
    simp only [lvF, boundF, List.map_append, List.getD_eq_getElem?_getD, Int.toNat_natCast]
    rw [List.getElem?_append_left (by simpa using hj)])
  have hB : turnF (lvF (boundF (a ++ 0 :: b))) 126 ((kf b 0).map (fun q => (a.length : Int) + 1 + q)) = (turnF (lvF (boundF b)) 126 (kf b 0)).map (fun q => (a.length : Int) + 1 + q) := by
    rw [turnF_map, turnF_congr (lv' := lvF (boundF b))]
    intro x hx
    obtain ⟨j, l, h1, h2, _⟩ := kf_mem' hx
    rw [Nat.zero_add] at h1
    subst h1
    have e : ((a.length : Int) + 1 + (j : Int)).toNat = a.length + (j + 1) := by omega
    simp only [lvF, boundF, List.map_append, List.map_cons, List.getD_eq_getElem?_getD, e, Int.toNat_natCast]
    rw [List.getElem?_append_right (by simp)]
    simp
  rw [turn_cut _ _ _ _ hlv, hA, hB]

/-! ### all 2 more; one level -/
theorem turnStep_none {lv : Int → Int} {lev : Int} {rec : List Int → List Int} {ps : List Int} (h : ∀ x ∈ ps, lv x ≤ lev) : turnStep lv lev rec ps = if lev % 2 = 1 then ps.reverse else ps := by
  unfold turnStep partsF
  rw [groups_none (fun x hx => by have := h x hx; simp; omega)]
  simp only [List.map_map]
  have e : (fun (g : Bool × List Int) => if g.1 = true then rec g.2 else g.2) ∘ (fun x : Int => (false, [x])) = fun x => [x] := by funext x; simp
  rw [e]
  have e2 : ∀ l : List Int, (l.map fun x => [x]).flatten = l := by
    intro l; induction l with
    | nil => rfl
    | cons x r ih => simp [ih]
  split
  · rw [← List.map_reverse, e2]
  · rw [e2]
theorem turnStep_all {lv : Int → Int} {lev : Int} {rec : List Int → List Int} {ps : List Int} (h : ∀ x ∈ ps, lev < lv x) (hp : ps ≠ []) : turnStep lv lev rec ps = rec ps := by
  unfold turnStep partsF
  rw [groups_all (fun x hx => by have := h x hx; simp [this]) hp]
  simp
theorem turn_nil (lv : Int → Int) (f : Nat) : turnF lv f [] = [] := List.eq_nil_of_length_eq_zero (by rw [turnF_len]; rfl)
theorem turnF_one {lv : Int → Int} {L : Int} : ∀ (f : Nat) {ps : List Int}, (∀ x ∈ ps, lv x = L) → 126 - (f : Int) ≤ L → L ≤ 126 → turnF lv f ps = if L % 2 = 1 then ps.reverse else ps := by
  intro f
  induction f with
  | zero =>
    intro ps h h1 h2
    have e : L = 126 := by omega
    subst e
    exact turnStep_none (fun x hx => by rw [h x hx]; exact Int.le_refl _)
  | succ f ih =>
    intro ps h h1 h2
    by_cases hp : ps = []
    · subst hp
      rw [turn_nil]; simp
    · rw [turnF]
      by_cases hl : L = 126 - ((f + 1 : Nat) : Int)
      · rw [← hl, turnStep_none (fun x hx => by rw [h x hx]; exact Int.le_refl _)]
      · rw [turnStep_all (fun x hx => by rw [h x hx]; omega) hp, ih h (by omega) h2]
theorem turnF_two {lv : Int → Int} : ∀ (f : Nat) {ps : List Int}, (∀ x ∈ ps, lv x ≤ 124) → turnF (fun x => lv x + 2) f ps = turnF lv (f + 2) ps := by
  intro f
  induction f with
  | zero =>
    intro ps h
    show turnStep (fun x => lv x + 2) 126 id ps = turnStep lv (126 - ((1 + 1 : Nat) : Int)) (turnF lv 1) ps
    rw [turnStep_none (fun x hx => by have := h x hx; omega), turnStep_none (fun x hx => by have := h x hx; omega)]
    rfl
  | succ f ih =>
    intro ps h
    show turnStep (fun x => lv x + 2) (126 - ((f + 1 : Nat) : Int)) (turnF (fun x => lv x + 2) f) ps = turnStep lv (126 - ((f + 2 + 1 : Nat) : Int)) (turnF lv (f + 2)) ps
    have e : partsF (fun q => decide (126 - ((f + 1 : Nat) : Int) < lv q + 2)) (turnF (fun x => lv x + 2) f) ps = partsF (fun q => decide (126 - ((f + 2 + 1 : Nat) : Int) < lv q)) (turnF lv (f + 2)) ps := by
      unfold partsF
      rw [groups_congr (q := fun q => decide (126 - ((f + 2 + 1 : Nat) : Int) < lv q)) (fun x _ => by rw [decide_eq_decide]; omega)]
      apply List.map_congr_left
      intro g hg
      by_cases hq : g.1
      · rw [if_pos hq, if_pos hq, ih (fun x hx => h x (groups_sub _ _ g hg x hx))]
      · rw [if_neg hq, if_neg hq]
    unfold turnStep
    rw [e]
    have e2 : (126 - ((f + 1 : Nat) : Int)) % 2 = (126 - ((f + 2 + 1 : Nat) : Int)) % 2 := by omega
    rw [e2]
theorem kf_raise (zs : List Int) (hz : ∀ x ∈ zs, -1 ≤ x) : ∀ k, kf (zs.map (raise 2)) k = kf zs k := by
  induction zs with
  | nil => intro k; rfl
  | cons x r ih =>
    intro k
    have hx := hz x (by simp)
    simp only [List.map_cons, kf, raise]
    rw [ih (fun y hy => hz y (by simp [hy]))]
    by_cases h : x = -1
    · rw [if_pos h, if_pos rfl, if_pos h]
    · rw [if_neg h, if_neg (by omega), if_neg h]
theorem visual_two (zs : List Int) (hz : ∀ x ∈ zs, -1 ≤ x ∧ x ≤ 5) : visualF (zs.map (raise 2)) = visualF zs := by
  unfold visualF
  rw [kf_raise zs (fun x hx => (hz x hx).1)]
  have hkf : ∀ q ∈ kf zs 0, ∃ l, lvF (boundF (zs.map (raise 2))) q = l + 2 ∧ lvF (boundF zs) q = l ∧ 0 ≤ l ∧ l ≤ 5 := by
    intro q hq
    obtain ⟨j, l, h1, h2, h3⟩ := kf_mem' hq
    rw [Nat.zero_add] at h1
    subst h1
    have hb := hz l (List.mem_of_getElem? h2)
    refine ⟨l, ?_, ?_, by omega, by omega⟩
    · simp [lvF, boundF, h2, raise, h3]; omega
    · simp [lvF, boundF, h2]; omega
  by_cases hne : kf zs 0 = []
  · rw [hne]
    rw [turn_nil, turn_nil]
  · have e1 : turnF (lvF (boundF (zs.map (raise 2)))) 126 (kf zs 0) = turnF (fun x => lvF (boundF zs) x + 2) 126 (kf zs 0) :=
      turnF_congr _ (fun q hq => by obtain ⟨l, h1, h2, _⟩ := hkf q hq; rw [h1, h2])
    rw [e1]
    have e2 : turnF (fun x => lvF (boundF zs) x + 2) 126 (kf zs 0) = turnF (fun x => lvF (boundF zs) x + 2) 124 (kf zs 0) := by
      rw [turn_top, turnStep_all (fun q hq => by obtain ⟨l, _, h2, h3, _⟩ := hkf q hq; rw [h2]; omega) hne, turn_next, turnStep_all (fun q hq => by obtain ⟨l, _, h2, h3, _⟩ := hkf q hq; rw [h2]; omega) hne]
    rw [e2]
    exact turnF_two 124 (fun q hq => by obtain ⟨l, _, h2, _, h4⟩ := hkf q hq; rw [h2]; omega)
theorem kf_all (n : Nat) (L : Int) (hL : L ≠ -1) : ∀ k, kf (List.replicate n L) k = (List.range n).map (fun j : Nat => ((k + j : Nat) : Int)) := by
  induction n with
  | zero => intro k; simp [kf]
  | succ n ih =>
    intro k
    rw [List.replicate_succ, kf, if_neg hL, ih, List.range_succ_eq_map]
    simp only [List.map_cons, List.map_map]
    congr 1
    apply List.map_congr_left
    intro j _
    simp only [Function.comp_apply]
    congr 1
    omega
theorem visual_one (n : Nat) (L : Int) (h0 : 0 ≤ L) (h1 : L ≤ 126) : visualF (List.replicate n L) = if L % 2 = 1 then ((List.range n).map (fun j : Nat => (j : Int))).reverse else (List.range n).map (fun j : Nat => (j : Int)) := by
  unfold visualF
  have hk : kf (List.replicate n L) 0 = (List.range n).map (fun j : Nat => (j : Int)) := by
    rw [kf_all n L (by omega)]
    simp
  rw [hk]
  apply turnF_one 126 _ (by omega) h1
  intro x hx
  obtain ⟨j, hj, rfl⟩ := List.mem_map.1 hx
  have := List.mem_range.1 hj
  simp [lvF, boundF, this]
  omega
end Go.Proofs.Ytamfjmonpbojnaa
