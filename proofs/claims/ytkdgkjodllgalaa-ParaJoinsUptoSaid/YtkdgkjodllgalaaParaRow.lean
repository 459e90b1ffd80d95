/-
  Slices of paragraphs (structs of three numbers): a row of the call's own; what para.Split makes, plainly.
-/
import Derived.Test.YtkdgkjodllgalaaOpen
namespace Go.Proofs.Ytkdgkjodllgalaa
open Go.RowKit

abbrev Par := Int × Int × Int
def flat3 (ps : List Par) : List Value := ps.flatMap fun p => [.int .i64 p.1, .int .i64 p.2.1, .int .i64 p.2.2]
theorem flat3_snoc (ps : List Par) (p : Par) : flat3 (ps ++ [p]) = flat3 ps ++ [.int .i64 p.1, .int .i64 p.2.1, .int .i64 p.2.2] := by simp [flat3]
theorem flat3_len (ps : List Par) : (flat3 ps).length = ps.length * 3 := by
  induction ps with
  | nil => rfl
  | cons p r ih => simp [flat3] at ih ⊢; omega
theorem flat3_get : ∀ {ps : List Par} {k : Nat} {p : Par}, ps[k]? = some p → (flat3 ps)[k * 3]? = some (.int .i64 p.1) ∧ (flat3 ps)[k * 3 + 1]? = some (.int .i64 p.2.1) ∧ (flat3 ps)[k * 3 + 2]? = some (.int .i64 p.2.2)
  | [], _, _, h => by simp at h
  | q :: r, 0, p, h => by simp at h; subst h; exact ⟨rfl, rfl, rfl⟩
  | q :: r, k + 1, p, h => by
    have ih := flat3_get (ps := r) (k := k) (p := p) (by simpa using h)
    have e : ∀ j, (flat3 (q :: r))[j + 3]? = (flat3 r)[j]? := fun j => by simp [flat3]
    have e0 : (k + 1) * 3 = k * 3 + 3 := by omega
    refine ⟨by rw [e0, e]; exact ih.1, ?_, ?_⟩
    · rw [show (k + 1) * 3 + 1 = (k * 3 + 1) + 3 by omega, e]; exact ih.2.1
    · rw [show (k + 1) * 3 + 2 = (k * 3 + 2) + 3 by omega, e]; exact ih.2.2

theorem info35 : (Try.prog.info? 35).map (fun i => (i.zero, i.size, i.bytes)) = some (some (.agg #[.int .i64 0, .int .i64 0, .int .i64 0]), 3, 24) := by kernel_rfl

/-- v is a slice of paragraphs of the call's own (blocks from B on) that holds ps. -/
def OwnP (w : World) (B : Nat) (v : Value) (ps : List Par) : Prop := w.ownsRow B 35 3 v ps.length (flat3 ps)
/-- The cells from address A on hold ps. -/
def RdP (w : World) (A : Option Addr) (ps : List Par) : Prop :=
  ∀ (k : Nat) (p : Par), ps[k]? = some p → ∃ b, A = some ⟨b, 0, none⟩ ∧ b < w.heap.size ∧ w.cell? ⟨b, k * 3, none⟩ = some (.int .i64 p.1) ∧ w.cell? ⟨b, k * 3 + 1, none⟩ = some (.int .i64 p.2.1) ∧ w.cell? ⟨b, k * 3 + 2, none⟩ = some (.int .i64 p.2.2)
section
variable {w w' : World} {B B' : Nat} {v : Value} {ps : List Par} {A : Option Addr}
theorem OwnP.nil (w : World) (B : Nat) : OwnP w B (.slice none 0 0) [] := World.ownsRow_nil _ _ _ _
theorem OwnP.mono (h : OwnP w B v ps) (hb : B' ≤ B) : OwnP w B' v ps := own_mono h hb
theorem OwnP.alloc (h : OwnP w B v ps) (o : Obj) : OwnP (w.alloc o) B v ps := World.ownsRow.alloc h o
theorem OwnP.ge (h : OwnP w B v ps) : ∀ g, v.ownBlock = some g → B ≤ g := own_ge h
theorem OwnP.below (h : OwnP w B v ps) (hb : Below B' w w') (hB : w.heap.size ≤ B') : OwnP w' B v ps :=
  own_below h hb fun g hg => by have := own_lt h g hg; omega
theorem OwnP.open_ (h : OwnP w B v ps) : ∃ A c, v = .slice A ps.length c ∧ ps.length ≤ c ∧ RdP w A ps := by
  obtain ⟨A, c, rfl, hc⟩ := own_open h
  refine ⟨A, c, rfl, hc, fun k p hp => ?_⟩
  obtain ⟨h1, h2, h3⟩ := flat3_get hp
  rcases h.2 with ⟨hv, hn⟩ | ⟨g, cap, cur, hv, hb, hg, _⟩
  · have := (List.getElem?_eq_some_iff.1 hp).1; omega
  · injection hv with hA _ _
    subst hA
    have key := fun j u hu => h.cells (g := g) rfl j u hu
    have a0 := key _ _ h1
    have a1 := key _ _ h2
    have a2 := key _ _ h3
    rw [Addr.add_lit, Nat.zero_add] at a0 a1 a2
    exact ⟨g, rfl, (own_lt h g rfl), a0, a1, a2⟩
theorem RdP.below (h : RdP w A ps) (hb : Below w.heap.size w w') : RdP w' A ps := fun k p hp => by
  obtain ⟨b, e, hlt, h1, h2, h3⟩ := h k p hp
  exact ⟨b, e, Nat.lt_of_lt_of_le hlt hb.size, by rw [hb.cell hlt]; exact h1, by rw [hb.cell hlt]; exact h2, by rw [hb.cell hlt]; exact h3⟩
theorem RdP.alloc (h : RdP w A ps) (o : Obj) : RdP (w.alloc o) A ps := h.below ((Below.refl _ _).alloc (Nat.le_refl _) o)
end

/-- 'out = append(out, Para{..})' -/
theorem wpList_pushP (w : World) {ops : Array Oper} {rest : List Oper} {o : Oper} {a : Act} {Q : Exit → Act → World → Prop} (hgd : o.guard = none) (s x : Operand)
    (ho : o.op = .call { callee := .builtin .append, args := #[s, x], argTypes := #[32, 32] })
    (B : Nat) (v : Value) (ps : List Par) (hs : a.eval s = v) (hown : OwnP w B v ps)
    (g : Nat) (p : Par) (hx : a.eval x = .slice (some ⟨g, 0, none⟩) 1 1) (hu : w.heap[g]? = some (.cells #[.int .i64 p.1, .int .i64 p.2.1, .int .i64 p.2.2] 35))
    (hn : ps.length ≤ 4294967296) (hbase : B ≤ w.heap.size)
    (h : ∀ v' w', OwnP w' B v' (ps ++ [p]) → w.grownBy w' v.ownBlock → wpList Try.prog ops Q rest (a.put o.dst v') w') : wpList Try.prog ops Q (o :: rest) a w := by
  obtain ⟨i, hi, hz, hsz, hby⟩ := info_parts info35
  refine wpList_append_own w hgd s x 32 ho B 35 i _ 3 24 Try.underlying32 hi hz hsz hby rfl (by omega) v ps.length (flat3 ps) hs hown ⟨g, 0, none⟩ 1 1 [.int .i64 p.1, .int .i64 p.2.1, .int .i64 p.2.2] hx rfl ?_ ?_ ?_ ?_ hbase (fun v' w' h1 h2 _ => h v' w' (by unfold OwnP; rw [flat3_snoc]; simpa using h1) h2)
  · intro j u' hj
    rw [Addr.add_lit, Nat.zero_add, cell_of_row _ _ _ _ _ _ hu]
    simpa using hj
  · intro u' hu'
    simp at hu'
    rcases hu' with rfl | rfl | rfl <;> rfl
  · unfold maxLen; omega
  · omega

/-- the paragraphs of what stands from place k on; the one under way began at place f -/
def splitF : List (Int × Int) → Nat → Nat → List Par
  | [], k, f => if f < k then [((f : Int), (k : Int), 0)] else []
  | [(_, c)], k, f => if c = 10 then [((f : Int), ((k + 1 : Nat) : Int), 1)] else [((f : Int), ((k + 1 : Nat) : Int), 0)]
  | (r, c) :: (r2, c2) :: t, k, f =>
    if c = 10 then
      if r = 13 ∧ r2 = 10 then ((f : Int), ((k + 2 : Nat) : Int), 2) :: splitF t (k + 2) (k + 2)
      else ((f : Int), ((k + 1 : Nat) : Int), 1) :: splitF ((r2, c2) :: t) (k + 1) (k + 1)
    else splitF ((r2, c2) :: t) (k + 1) f
theorem splitF_nil (k f : Nat) : splitF [] k f = if f < k then [((f : Int), (k : Int), 0)] else [] := by rw [splitF]
theorem splitF_no {r c : Int} {t : List (Int × Int)} {k f : Nat} (hc : c ≠ 10) (hf : f ≤ k) : splitF ((r, c) :: t) k f = splitF t (k + 1) f := by
  cases t with
  | nil => rw [splitF_nil, if_pos (by omega), splitF, if_neg hc]
  | cons p t => obtain ⟨r2, c2⟩ := p; rw [splitF, if_neg hc]
theorem splitF_one {r : Int} {t : List (Int × Int)} {k f : Nat} (h : ¬ (r = 13 ∧ (t.head?.map (·.1)) = some 10)) : splitF ((r, 10) :: t) k f = ((f : Int), ((k + 1 : Nat) : Int), 1) :: splitF t (k + 1) (k + 1) := by
  cases t with
  | nil => rw [splitF_nil, if_neg (by omega), splitF, if_pos rfl]
  | cons p t =>
    obtain ⟨r2, c2⟩ := p
    rw [splitF, if_pos rfl, if_neg (by simpa using h)]
theorem splitF_two {c2 : Int} {t : List (Int × Int)} {k f : Nat} : splitF ((13, 10) :: (10, c2) :: t) k f = ((f : Int), ((k + 2 : Nat) : Int), 2) :: splitF t (k + 2) (k + 2) := by
  rw [splitF, if_pos rfl, if_pos ⟨rfl, rfl⟩]
end Go.Proofs.Ytkdgkjodllgalaa
