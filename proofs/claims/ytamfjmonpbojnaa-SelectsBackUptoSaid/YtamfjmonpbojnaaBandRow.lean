/-
  Slices of bands (structs of two numbers): a row of the call's own.
-/
import Derived.Test.YtamfjmonpbojnaaSelBackPlain
import Derived.Test.YtamfjmonpbojnaaCells
import Derived.Lib.MinMax
namespace Go.Proofs.Ytamfjmonpbojnaa
open Go.RowKit

abbrev Bnd := Nat × Nat
def flat2 (ps : List Bnd) : List Value := ps.flatMap fun p => [.int .i64 (p.1 : Int), .int .i64 (p.2 : Int)]
theorem flat2_snoc (ps : List Bnd) (p : Bnd) : flat2 (ps ++ [p]) = flat2 ps ++ [.int .i64 (p.1 : Int), .int .i64 (p.2 : Int)] := by simp [flat2]
theorem flat2_len (ps : List Bnd) : (flat2 ps).length = ps.length * 2 := by
  induction ps with
  | nil => rfl
  | cons p r ih => simp [flat2] at ih ⊢; omega
theorem flat2_get : ∀ {ps : List Bnd} {k : Nat} {p : Bnd}, ps[k]? = some p → (flat2 ps)[k * 2]? = some (.int .i64 (p.1 : Int)) ∧ (flat2 ps)[k * 2 + 1]? = some (.int .i64 (p.2 : Int))
  | [], _, _, h => by simp at h
  | q :: r, 0, p, h => by simp at h; subst h; exact ⟨rfl, rfl⟩
  | q :: r, k + 1, p, h => by
    have ih := flat2_get (ps := r) (k := k) (p := p) (by simpa using h)
    have e : ∀ j, (flat2 (q :: r))[j + 2]? = (flat2 r)[j]? := fun j => by simp [flat2]
    have e0 : (k + 1) * 2 = k * 2 + 2 := by omega
    refine ⟨by rw [e0, e]; exact ih.1, ?_⟩
    rw [show (k + 1) * 2 + 1 = (k * 2 + 1) + 2 by omega, e]; exact ih.2
theorem flat2_last (ps : List Bnd) (a b c : Nat) : (flat2 (ps ++ [(a, b)])).set (ps.length * 2 + 1) (.int .i64 (c : Int)) = flat2 (ps ++ [(a, c)]) := by
  rw [flat2_snoc, flat2_snoc, List.set_append_right _ _ (by rw [flat2_len]; omega), flat2_len, show ps.length * 2 + 1 - ps.length * 2 = 1 by omega]
  rfl

theorem info37 : (Try.prog.info? 37).map (fun i => (i.zero, i.size, i.bytes)) = some (some (.agg #[.int .i64 0, .int .i64 0]), 2, 16) := by kernel_rfl

/-- v is a slice of bands of the call's own (blocks from B on) that holds ps. -/
def OwnB (w : World) (B : Nat) (v : Value) (ps : List Bnd) : Prop := w.ownsRow B 37 2 v ps.length (flat2 ps)
/-- The cells from address A on hold ps. -/
def RdB (w : World) (A : Option Addr) (ps : List Bnd) : Prop :=
  ∀ (k : Nat) (p : Bnd), ps[k]? = some p → ∃ b, A = some ⟨b, 0, none⟩ ∧ b < w.heap.size ∧ w.cell? ⟨b, k * 2, none⟩ = some (.int .i64 (p.1 : Int)) ∧ w.cell? ⟨b, k * 2 + 1, none⟩ = some (.int .i64 (p.2 : Int))
section
variable {w w' : World} {B B' : Nat} {v : Value} {ps : List Bnd} {A : Option Addr}
theorem OwnB.nil (w : World) (B : Nat) : OwnB w B (.slice none 0 0) [] := World.ownsRow_nil _ _ _ _
theorem OwnB.mono (h : OwnB w B v ps) (hb : B' ≤ B) : OwnB w B' v ps := own_mono h hb
theorem OwnB.alloc (h : OwnB w B v ps) (o : Obj) : OwnB (w.alloc o) B v ps := World.ownsRow.alloc h o
theorem OwnB.ge (h : OwnB w B v ps) : ∀ g, v.ownBlock = some g → B ≤ g := own_ge h
theorem OwnB.below (h : OwnB w B v ps) (hb : Below B' w w') (hB : w.heap.size ≤ B') : OwnB w' B v ps :=
  own_below h hb fun g hg => by have := own_lt h g hg; omega
theorem OwnB.open_ (h : OwnB w B v ps) : ∃ A c, v = .slice A ps.length c ∧ ps.length ≤ c ∧ RdB w A ps := by
  obtain ⟨A, c, rfl, hc⟩ := own_open h
  refine ⟨A, c, rfl, hc, fun k p hp => ?_⟩
  obtain ⟨h1, h2⟩ := flat2_get hp
  rcases h.2 with ⟨hv, hn⟩ | ⟨g, cap, cur, hv, hb, hg, _⟩
  · have := (List.getElem?_eq_some_iff.1 hp).1; omega
  · injection hv with hA _ _
    subst hA
    have key := fun j u hu => h.cells (g := g) rfl j u hu
    have a0 := key _ _ h1
    have a1 := key _ _ h2
    rw [Addr.add_lit, Nat.zero_add] at a0 a1
    exact ⟨g, rfl, (own_lt h g rfl), a0, a1⟩
theorem RdB.below (h : RdB w A ps) (hb : Below w.heap.size w w') : RdB w' A ps := fun k p hp => by
  obtain ⟨b, e, hlt, h1, h2⟩ := h k p hp
  exact ⟨b, e, Nat.lt_of_lt_of_le hlt hb.size, by rw [hb.cell hlt]; exact h1, by rw [hb.cell hlt]; exact h2⟩
theorem RdB.alloc (h : RdB w A ps) (o : Obj) : RdB (w.alloc o) A ps := h.below ((Below.refl _ _).alloc (Nat.le_refl _) o)
/-- The last one: where it lies; what holds when its end has been written. -/
theorem OwnB.last {a b : Nat} (h : OwnB w B v (ps ++ [(a, b)])) : ∃ g c, v = .slice (some ⟨g, 0, none⟩) (ps.length + 1) c ∧ B ≤ g ∧ g < w.heap.size ∧ ps.length + 1 ≤ c ∧ w.cell? ⟨g, ps.length * 2, none⟩ = some (.int .i64 (a : Int)) ∧ w.cell? ⟨g, ps.length * 2 + 1, none⟩ = some (.int .i64 (b : Int)) ∧
    w.frozen? ⟨g, ps.length * 2 + 1, none⟩ = false ∧ ∀ d : Nat, OwnB (w.setCell ⟨g, ps.length * 2 + 1, none⟩ (.int .i64 (d : Int))) B v (ps ++ [(a, d)]) := by
  unfold OwnB at h ⊢
  simp only [List.length_append, List.length_singleton] at h ⊢
  rcases h.2 with ⟨_, hn⟩ | ⟨g, c, cur, rfl, hg, hh, hnc, _⟩
  · omega
  · have hge : (ps ++ [(a, b)])[ps.length]? = some (a, b) := by simp
    obtain ⟨g1, g2⟩ := flat2_get hge
    refine ⟨g, c, rfl, hg, own_lt h g rfl, hnc, ?_, ?_, h.frozenAt _, fun d => ?_⟩
    · rw [h.cellAt _ (by omega)]; exact g1
    · rw [h.cellAt _ (by omega)]; exact g2
    · have := (h.stored (ps.length * 2 + 1) (.int .i64 (d : Int))).1
      rwa [flat2_last] at this
end

/-- 'out = append(out, Band{..})' -/
theorem wpList_pushB (w : World) {ops : Array Oper} {rest : List Oper} {o : Oper} {a : Act} {Q : Exit → Act → World → Prop} (hgd : o.guard = none) (s x : Operand)
    (ho : o.op = .call { callee := .builtin .append, args := #[s, x], argTypes := #[34, 34] })
    (B : Nat) (v : Value) (ps : List Bnd) (hs : a.eval s = v) (hown : OwnB w B v ps)
    (g : Nat) (p q : Nat) (hx : a.eval x = .slice (some ⟨g, 0, none⟩) 1 1) (hu : w.heap[g]? = some (.cells #[.int .i64 (p : Int), .int .i64 (q : Int)] 37))
    (hn : ps.length ≤ 4294967296) (hbase : B ≤ w.heap.size)
    (h : ∀ v' w', OwnB w' B v' (ps ++ [(p, q)]) → w.grownBy w' v.ownBlock → wpList Try.prog ops Q rest (a.put o.dst v') w') : wpList Try.prog ops Q (o :: rest) a w := by
  obtain ⟨i, hi, hz, hsz, hby⟩ := info_parts info37
  refine wpList_append_own w hgd s x 34 ho B 37 i _ 2 16 Try.underlying34 hi hz hsz hby rfl (by omega) v ps.length (flat2 ps) hs hown ⟨g, 0, none⟩ 1 1 [.int .i64 (p : Int), .int .i64 (q : Int)] hx rfl ?_ ?_ ?_ ?_ hbase (fun v' w' h1 h2 _ => h v' w' (by unfold OwnB; rw [flat2_snoc]; simpa using h1) h2)
  · intro j u' hj
    rw [Addr.add_lit, Nat.zero_add, cell_of_row _ _ _ _ _ _ hu]
    simpa using hj
  · intro u' hu'
    simp at hu'
    rcases hu' with rfl | rfl <;> rfl
  · unfold maxLen; omega
  · omega

/-! ### sums of widths that do not wrap -/
theorem wrap64_id {n : Int} (h0 : -9223372036854775808 ≤ n) (h1 : n ≤ 9223372036854775807) : wrap64 n = n := by unfold wrap64; omega
def upI (W : List Nat) : List Int := W.map fun x : Nat => (x : Int)
theorem upI_len (W : List Nat) : (upI W).length = W.length := by simp [upI]
theorem upI_take (W : List Nat) (k : Nat) : (upI W).take k = upI (W.take k) := by simp [upI]
theorem upI_get {W : List Nat} {k wd : Nat} (h : W[k]? = some wd) : (upI W)[k]? = some (wd : Int) := by simp [upI, h]
theorem sumF_up {W : List Nat} (h : ∀ x ∈ W, x ≤ 2) (hl : W.length ≤ 4194304) : ∀ k, k ≤ W.length → sumF ((upI W).take k) = (sF W k : Int) := by
  intro k
  induction k with
  | zero => intro _; rfl
  | succ k ih =>
    intro hk
    have hg : W[k]? = some W[k] := List.getElem?_eq_getElem (by omega)
    have hx := h W[k] (List.getElem_mem (by omega))
    have h1 := sF_le h k
    rw [sumF_take (upI_get hg), ih (by omega), sF_succ hg, wrap64_id (by omega) (by omega)]
    omega
theorem starts_up {W : List Nat} (h : ∀ x ∈ W, x ≤ 2) (hl : W.length ≤ 4194304) : startsF (upI W) = upI ((List.range W.length).map fun j => sF W j) := by
  unfold startsF
  rw [upI_len]
  unfold upI
  rw [List.map_map]
  apply List.map_congr_left
  intro j hj
  exact sumF_up h hl j (by have := List.mem_range.1 hj; omega)
theorem starts_get {W : List Nat} {k : Nat} (hk : k < W.length) : (upI ((List.range W.length).map fun j => sF W j))[k]? = some (sF W k : Int) := by
  apply upI_get
  rw [List.getElem?_map, List.getElem?_range hk]; rfl
end Go.Proofs.Ytamfjmonpbojnaa
