/-
  Plain facts on runs: what they are of, that each has one level, that the next one has another.
-/
import Derived.Test.YtamfjmonpbojnaaRuns
namespace Go.Proofs.Ytamfjmonpbojnaa
open Go.RowKit

/-- the places that are not taken out -/
def kf : List Int → Nat → List Int
  | [], _ => []
  | l :: r, k => if l = -1 then kf r (k + 1) else (k : Int) :: kf r (k + 1)
theorem kf_snoc (zs : List Int) (l : Int) : ∀ k, kf (zs ++ [l]) k = kf zs k ++ (if l = -1 then [] else [((k + zs.length : Nat) : Int)]) := by
  induction zs with
  | nil => intro k; simp [kf]
  | cons x r ih =>
    intro k
    simp only [List.cons_append, kf, ih, List.length_cons]
    by_cases h : x = -1
    · rw [if_pos h, if_pos h]
      congr 3
      omega
    · rw [if_neg h, if_neg h, List.cons_append]
      congr 4
      omega
theorem drop_cons {α : Type} {zs : List α} {k : Nat} {l : α} (h : zs[k]? = some l) : zs.drop k = l :: zs.drop (k + 1) := by
  obtain ⟨h1, h2⟩ := List.getElem?_eq_some_iff.1 h
  rw [← h2]
  exact List.drop_eq_getElem_cons h1
theorem kf_skip {zs : List Int} {k : Nat} (h : zs[k]? = some (-1)) : kf (zs.drop k) k = kf (zs.drop (k + 1)) (k + 1) := by
  rw [drop_cons h, kf, if_pos rfl]
theorem kf_take {zs : List Int} {k : Nat} {l : Int} (h : zs[k]? = some l) (hl : l ≠ -1) : kf (zs.drop k) k = (k : Int) :: kf (zs.drop (k + 1)) (k + 1) := by
  rw [drop_cons h, kf, if_neg hl]
theorem kf_end {zs : List Int} {k : Nat} (h : zs.length ≤ k) : kf (zs.drop k) k = [] := by
  rw [List.drop_of_length_le h, kf]

/-- runs of one level each, the next one of another level; behind them the level fin. -/
def RunsOk (zs : List Int) : Int → List (List Int) → Int → Prop
  | prev, [], fin => fin = prev
  | prev, r :: R, fin => ∃ l, r ≠ [] ∧ l ≠ prev ∧ (∀ p ∈ r, ∃ k : Nat, p = k ∧ zs[k]? = some l) ∧ RunsOk zs l R fin
theorem RunsOk.add {zs : List Int} {l : Int} {k : Nat} (hk : zs[k]? = some l) : ∀ {R : List (List Int)} {prev fin : Int}, RunsOk zs prev R fin → l ≠ fin → RunsOk zs prev (R ++ [[(k : Int)]]) l
  | [], prev, fin, h, hl => ⟨l, by simp, by rw [RunsOk] at h; rw [← h]; exact hl, by intro p hp; simp at hp; exact ⟨k, hp, hk⟩, by rw [RunsOk]⟩
  | r :: R, prev, fin, h, hl => by
    obtain ⟨l', h1, h2, h3, h4⟩ := h
    exact ⟨l', h1, h2, h3, RunsOk.add hk h4 hl⟩
theorem RunsOk.grow {zs : List Int} {l : Int} {k : Nat} (hk : zs[k]? = some l) {r : List Int} : ∀ {R : List (List Int)} {prev : Int}, RunsOk zs prev (R ++ [r]) l → RunsOk zs prev (R ++ [r ++ [(k : Int)]]) l
  | [], prev, h => by
    obtain ⟨l', h1, h2, h3, h4⟩ := h
    rw [RunsOk] at h4
    subst h4
    exact ⟨l, by simp, h2, by
      intro p hp
      rcases List.mem_append.1 hp with hp | hp
      · exact h3 p hp
      · simp at hp; exact ⟨k, hp, hk⟩, by rw [RunsOk]⟩
  | r' :: R, prev, h => by
    obtain ⟨l', h1, h2, h3, h4⟩ := h
    exact ⟨l', h1, h2, h3, RunsOk.grow hk h4⟩

theorem runsTo_ok (zs : List Int) (hz : ∀ x ∈ zs, -1 ≤ x) : ∀ k, k ≤ zs.length →
    ((runsTo zs k).1.flatten = kf (zs.take k) 0) ∧ ∃ fin, RunsOk zs (-5) (runsTo zs k).1 fin ∧ (((runsTo zs k).1 = [] ∧ fin = -5) ∨ ((runsTo zs k).1 ≠ [] ∧ fin = (runsTo zs k).2)) := by
  intro k
  induction k with
  | zero => intro _; exact ⟨by simp [runsTo, kf], -5, by simp [runsTo, RunsOk], .inl ⟨rfl, rfl⟩⟩
  | succ k ih =>
    intro hk
    obtain ⟨h1, fin, h2, h3⟩ := ih (by omega)
    obtain ⟨l, hl⟩ : ∃ l, zs[k]? = some l := ⟨_, List.getElem?_eq_getElem (by omega)⟩
    have hlb := hz l (List.mem_of_getElem? hl)
    rw [runsTo_succ hl, take_snoc hl, kf_snoc]
    have hlen : (zs.take k).length = k := by simp; omega
    rw [hlen, Nat.zero_add]
    cases hst : runsTo zs k with
    | mk rs last =>
      rw [hst] at h1 h2 h3
      simp only at h1 h2 h3
      unfold runsStep
      by_cases hl1 : l = -1
      · rw [if_pos hl1, if_pos hl1, List.append_nil]
        exact ⟨h1, fin, h2, h3⟩
      · rw [if_neg hl1, if_neg hl1]
        by_cases hc : l ≠ last ∨ rs = []
        · rw [if_pos hc]
          refine ⟨by simp [h1], l, h2.add hl ?_, .inr ⟨by simp, rfl⟩⟩
          rcases h3 with ⟨_, rfl⟩ | ⟨h4, rfl⟩
          · omega
          · rcases hc with hc | hc
            · exact hc
            · exact absurd hc h4
        · rw [if_neg hc]
          have hrs : rs ≠ [] := fun h => hc (.inr h)
          have hll : l = last := by
            by_cases h : l = last
            · exact h
            · exact absurd (.inl h) hc
          obtain ⟨r, R, rfl⟩ : ∃ r R, rs = R ++ [r] := ⟨rs.getLast hrs, rs.dropLast, (List.dropLast_concat_getLast hrs).symm⟩
          have hfin : fin = l := by
            rcases h3 with ⟨h4, _⟩ | ⟨_, h4⟩
            · exact absurd h4 hrs
            · rw [h4, hll]
          subst hfin
          have e1 : (R ++ [r]).dropLast = R := by simp
          have e2 : (R ++ [r]).getLast?.getD [] = r := by simp
          simp only [e1, e2]
          refine ⟨by simp at h1 ⊢; rw [← List.append_assoc, h1], fin, h2.grow hl, .inr ⟨by simp, rfl⟩⟩

theorem runsF_ok (zs : List Int) (hz : ∀ x ∈ zs, -1 ≤ x) : (runsF zs).flatten = kf zs 0 ∧ ∃ fin, RunsOk zs (-5) (runsF zs) fin := by
  obtain ⟨h1, fin, h2, _⟩ := runsTo_ok zs hz zs.length (Nat.le_refl _)
  exact ⟨by rw [runsF, h1, List.take_length], fin, h2⟩

theorem levels_bd (zs : List Int) (hz : Bytes zs) : ∀ x ∈ levelsF zs, -1 ≤ x ∧ x ≤ 5 := by
  intro x hx
  obtain ⟨y, hy, rfl⟩ := List.mem_map.1 hx
  have := hz y hy
  unfold levelF
  split <;> omega
theorem len_levels (zs : List Int) : (levelsF zs).length = zs.length := by simp [levelsF]

/-! ### how many there are -/
def cntStep (s : Int × Int) (l : Int) : Int × Int := if l = -1 then s else (if l ≠ s.2 then s.1 + 1 else s.1, l)
def cntTo (zs : List Int) : Int × Int := zs.foldl cntStep (0, -5)
theorem cntTo_snoc (zs : List Int) (l : Int) : cntTo (zs ++ [l]) = cntStep (cntTo zs) l := by unfold cntTo; rw [List.foldl_append]; rfl
theorem cnt_runs (zs : List Int) (hz : ∀ x ∈ zs, -1 ≤ x) : ∀ k, k ≤ zs.length →
    (cntTo (zs.take k)).1 = (runsTo zs k).1.length ∧ (((runsTo zs k).1 = [] ∧ (cntTo (zs.take k)).2 = -5) ∨ ((runsTo zs k).1 ≠ [] ∧ (cntTo (zs.take k)).2 = (runsTo zs k).2)) := by
  intro k
  induction k with
  | zero => intro _; simp [cntTo, runsTo]
  | succ k ih =>
    intro hk
    obtain ⟨h1, h2⟩ := ih (by omega)
    obtain ⟨l, hl⟩ : ∃ l, zs[k]? = some l := ⟨_, List.getElem?_eq_getElem (by omega)⟩
    have hlb := hz l (List.mem_of_getElem? hl)
    rw [runsTo_succ hl, take_snoc hl, cntTo_snoc]
    cases hst : runsTo zs k with
    | mk rs last =>
      cases hc : cntTo (zs.take k) with
      | mk m la =>
        rw [hst, hc] at h1 h2
        simp only at h1 h2
        unfold runsStep cntStep
        by_cases hl1 : l = -1
        · rw [if_pos hl1, if_pos hl1]
          exact ⟨h1, h2⟩
        · rw [if_neg hl1, if_neg hl1]
          simp only
          rcases h2 with ⟨h3, h4⟩ | ⟨h3, h4⟩
          · subst h3
            subst h4
            rw [if_pos (show l ≠ -5 by omega), if_pos (show l ≠ last ∨ ([] : List (List Int)) = [] from .inr rfl)]
            simp at h1 ⊢
            omega
          · subst h4
            by_cases hll : l = la
            · rw [if_neg (show ¬ l ≠ la from fun h => h hll), if_neg (show ¬ (l ≠ la ∨ rs = []) from fun h => h.elim (fun h => h hll) h3)]
              have := List.length_pos_iff.2 h3
              refine ⟨by simp; omega, .inr ⟨by simp, rfl⟩⟩
            · rw [if_pos hll, if_pos (show l ≠ la ∨ rs = [] from .inl hll)]
              refine ⟨by simp; omega, .inr ⟨by simp, rfl⟩⟩
theorem cnt_runsF (zs : List Int) (hz : ∀ x ∈ zs, -1 ≤ x) : (cntTo zs).1 = (runsF zs).length := by
  have := (cnt_runs zs hz zs.length (Nat.le_refl _)).1
  rwa [List.take_length] at this

/-! ### raised levels; one level -/
def raise (d : Int) (l : Int) : Int := if l = -1 then -1 else l + d
theorem raise_runs (zs : List Int) (d : Int) (hd : 0 ≤ d) (hz : ∀ x ∈ zs, -1 ≤ x) : ∀ k, k ≤ zs.length →
    (runsTo (zs.map (raise d)) k).1 = (runsTo zs k).1 ∧ ((runsTo zs k).1 = [] ∨ ((runsTo (zs.map (raise d)) k).2 = (runsTo zs k).2 + d)) := by
  intro k
  induction k with
  | zero => intro _; simp [runsTo]
  | succ k ih =>
    intro hk
    obtain ⟨h1, h2⟩ := ih (by omega)
    obtain ⟨l, hl⟩ : ∃ l, zs[k]? = some l := ⟨_, List.getElem?_eq_getElem (by omega)⟩
    have hlb := hz l (List.mem_of_getElem? hl)
    have hl' : (zs.map (raise d))[k]? = some (raise d l) := by simp [hl]
    rw [runsTo_succ hl, runsTo_succ hl']
    cases hst : runsTo zs k with
    | mk rs last =>
      cases hst' : runsTo (zs.map (raise d)) k with
      | mk rs' last' =>
        rw [hst, hst'] at h1 h2
        simp only at h1 h2
        subst h1
        unfold runsStep raise
        by_cases hl1 : l = -1
        · rw [if_pos hl1, if_pos hl1, if_pos rfl]
          exact ⟨rfl, h2⟩
        · rw [if_neg hl1, if_neg hl1, if_neg (by omega)]
          simp only
          rcases h2 with h2 | h2
          · rw [if_pos (.inr h2), if_pos (.inr h2)]
            exact ⟨rfl, .inr rfl⟩
          · by_cases hc : l ≠ last ∨ rs' = []
            · rw [if_pos hc, if_pos (by rcases hc with hc | hc; exact .inl (by omega); exact .inr hc)]
              exact ⟨rfl, .inr rfl⟩
            · rw [if_neg hc, if_neg (by
                intro h
                rcases h with h | h
                · exact hc (.inl (by omega))
                · exact hc (.inr h))]
              exact ⟨rfl, .inr rfl⟩
theorem raise_runsF (zs : List Int) (d : Int) (hd : 0 ≤ d) (hz : ∀ x ∈ zs, -1 ≤ x) : runsF (zs.map (raise d)) = runsF zs := by
  unfold runsF
  rw [List.length_map]
  exact (raise_runs zs d hd hz zs.length (Nat.le_refl _)).1
theorem one_runs (n : Nat) (l : Int) (hl : l ≠ -1) : ∀ k, k ≤ n → runsTo (List.replicate n l) k = (if k = 0 then ([], -1) else ([(List.range k).map (fun j : Nat => (j : Int))], l)) := by
  intro k
  induction k with
  | zero => intro _; simp [runsTo]
  | succ k ih =>
    intro hk
    have hx : (List.replicate n l)[k]? = some l := by rw [List.getElem?_replicate, if_pos (by omega)]
    rw [runsTo_succ hx, ih (by omega)]
    unfold runsStep
    rw [if_neg hl]
    by_cases h0 : k = 0
    · subst h0; simp
    · rw [if_neg h0, if_neg (show ¬ (k + 1 = 0) by omega)]
      show (if l ≠ l ∨ [(List.range k).map fun j : Nat => (j : Int)] = [] then _ else _) = _
      rw [if_neg (by simp)]
      simp [List.range_succ]
theorem one_runsF (n : Nat) (l : Int) (hl : l ≠ -1) (hn : 0 < n) : runsF (List.replicate n l) = [(List.range n).map (fun j : Nat => (j : Int))] := by
  unfold runsF
  rw [List.length_replicate, one_runs n l hl n (Nat.le_refl _), if_neg (by omega)]
theorem RunsOk.ne {zs : List Int} : ∀ {R : List (List Int)} {prev fin : Int}, RunsOk zs prev R fin → ∀ r ∈ R, r ≠ []
  | [], _, _, _, r, h => by simp at h
  | r' :: R, prev, fin, h, r, hr => by
    obtain ⟨l', h1, _, _, h4⟩ := h
    rcases List.mem_cons.1 hr with rfl | hr
    · exact h1
    · exact RunsOk.ne h4 r hr
theorem runsF_ne (zs : List Int) (hz : ∀ x ∈ zs, -1 ≤ x) : ∀ r ∈ runsF zs, r ≠ [] := by
  obtain ⟨_, fin, h⟩ := runsF_ok zs hz
  exact h.ne
end Go.Proofs.Ytamfjmonpbojnaa
