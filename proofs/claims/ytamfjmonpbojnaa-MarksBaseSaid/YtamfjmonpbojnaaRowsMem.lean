/-
  A slice of slices of int of the call's own: what holds of it, and how it goes on when a row is added or its last row grows.
-/
import Derived.Test.YtamfjmonpbojnaaMake
import Derived.Maps.AppendAt
namespace Go.Proofs.Ytamfjmonpbojnaa
open Go.RowKit

/-- append of one cell to a row of the call's own, the new row's block told. -/
theorem wpList_push_at {P : Program} (w : World) {ops : Array Oper} {rest : List Oper} {o : Oper} {a : Act} {Q : Exit → Act → World → Prop} (hgd : o.guard = none) (s x : Operand) (t : TypeId)
    (ho : o.op = .call { callee := .builtin .append, args := #[s, x], argTypes := #[t, t] })
    (base : Nat) (e : TypeId) (z : Value) (bytes : Nat) (ht : P.underlying t = some (.slice e)) (hinfo : (P.info? e).map (fun i => (i.zero, i.size, i.bytes)) = some (some z, 1, bytes)) (hzs : z.cells.size = 1)
    (v : Value) (n : Nat) (xs : List Value) (hs : a.eval s = v) (hown : w.ownsRow base e 1 v n xs)
    (g : Nat) (u : Value) (hx : a.eval x = .slice (some ⟨g, 0, none⟩) 1 1) (hu : w.cell? ⟨g, 0, none⟩ = some u) (h1 : u.oneCell' = true)
    (hn : n ≤ 4294967296) (hbytes : bytes ≤ 24) (hbase : base ≤ w.heap.size)
    (h : ∀ v' w', w'.ownsRow base e 1 v' (n + 1) (xs ++ [u]) → w.grownBy w' v.ownBlock → (v'.ownBlock = v.ownBlock ∨ v'.ownBlock = some w.heap.size) → wpList P ops Q rest (a.put o.dst v') w') : wpList P ops Q (o :: rest) a w := by
  obtain ⟨i, hi, hz, hsz, hby⟩ := info_parts hinfo
  have hb : (n + 1) * bytes ≤ 140737488355328 := by
    have : (n + 1) * bytes ≤ (n + 1) * 24 := Nat.mul_le_mul_left _ hbytes
    omega
  obtain ⟨v', w', hrun, h2, h3, _, h5⟩ := run_append_own_at (P := P) w base t o.type e i z 1 bytes ht hi hz hsz hby hzs (by omega) v n xs hown ⟨g, 0, none⟩ 1 1 [u] rfl
    (by
      intro j u' hj
      match j, hj with
      | 0, hj => simp at hj; subst hj; simpa [Addr.add] using hu)
    (by intro u' hu'; simp at hu'; subst hu'; exact h1) (by unfold maxLen; omega) hb hbase
  refine wpList_plain hgd fun K hK => ?_
  unfold Oper.wp execOp
  simp only [ho, resolve, invoke, builtin, Sem.run_bind, Sem.run_pure, Result.andThen_ok, List.map_toArray, List.map_cons, List.map_nil, hs, hx, hrun]
  exact hK _ _ (h v' w' h2 h3 h5)

/-- Two rows of other element types never share a block. -/
theorem own_ne {w : World} {B B' : Nat} {e e' : TypeId} {sz sz' n n' : Nat} {v v' : Value} {xs xs' : List Value} (h : w.ownsRow B e sz v n xs) (h' : w.ownsRow B' e' sz' v' n' xs') (hne : e ≠ e') {g : Nat} (hg : v.ownBlock = some g) : v'.ownBlock ≠ some g := by
  intro hg'
  rcases h.2 with ⟨rfl, _⟩ | ⟨g1, _, _, rfl, _, h1, _⟩
  · simp [Value.ownBlock] at hg
  · rcases h'.2 with ⟨rfl, _⟩ | ⟨g2, _, _, rfl, _, h2, _⟩
    · simp [Value.ownBlock] at hg'
    · simp [Value.ownBlock] at hg hg'
      subst hg
      subst hg'
      rw [h1] at h2
      injection h2 with h2
      injection h2 with _ h2
      exact hne h2

/-- A row of a slice of slices: the call's own, or one that lay there before block B. -/
def RowOk (w : World) (B : Nat) (h : Value) (r : List Int) : Prop :=
  Own w B h r ∨ ∃ A c, h = .slice A r.length c ∧ r.length ≤ c ∧ RdI .i64 w A r ∧ ∀ ad, A = some ad → ad.block < B

theorem RowOk.open_ {w : World} {B : Nat} {h : Value} {r : List Int} (hr : RowOk w B h r) : ∃ A c, h = .slice A r.length c ∧ r.length ≤ c ∧ RdI .i64 w A r := by
  rcases hr with h | ⟨A, c, rfl, hc, h, _⟩
  · exact h.open_
  · exact ⟨A, c, rfl, hc, h⟩
theorem RowOk.one {w : World} {B : Nat} {h : Value} {r : List Int} (hr : RowOk w B h r) : h.oneCell' = true := by
  obtain ⟨A, c, rfl, _⟩ := hr.open_
  rfl

/-- v is a slice of slices of the call's own, its rows as told, no two own rows in one block. -/
def Own2 (w : World) (B : Nat) (v : Value) (rows : List (List Int)) : Prop :=
  ∃ hs : List Value, w.ownsRow B 24 1 v rows.length hs ∧ (∀ (i : Nat) (r : List Int), rows[i]? = some r → ∃ h, hs[i]? = some h ∧ RowOk w B h r)

theorem info24 : (Try.prog.info? 24).map (fun i => (i.zero, i.size, i.bytes)) = some (some (.slice none 0 0), 1, 24) := by kernel_rfl

theorem Own2.nil (w : World) (B : Nat) : Own2 w B (.slice none 0 0) [] := ⟨[], World.ownsRow_nil _ _ _ _, fun i r h => by simp at h⟩

/-- Readers' form. -/
def Rd2 (w : World) (A : Option Addr) (rows : List (List Int)) : Prop :=
  ∃ hs : List Value, Rd w A hs ∧ hs.length = rows.length ∧ ∀ (i : Nat) (r : List Int), rows[i]? = some r → ∃ A' c', hs[i]? = some (.slice A' r.length c') ∧ r.length ≤ c' ∧ RdI .i64 w A' r
theorem Rd2.below {w w' : World} {A : Option Addr} {rows : List (List Int)} (h : Rd2 w A rows) (hb : Below w.heap.size w w') : Rd2 w' A rows := by
  obtain ⟨hs, h1, h2, h3⟩ := h
  exact ⟨hs, h1.below hb, h2, fun i r hr => by
    obtain ⟨A', c', a, b, c⟩ := h3 i r hr
    exact ⟨A', c', a, b, c.below hb⟩⟩
theorem Own2.open_ {w : World} {B : Nat} {v : Value} {rows : List (List Int)} (h : Own2 w B v rows) : ∃ A c, v = .slice A rows.length c ∧ rows.length ≤ c ∧ Rd2 w A rows := by
  obtain ⟨hs, h1, h2⟩ := h
  obtain ⟨A, c, rfl, hc⟩ := own_open h1
  refine ⟨A, c, rfl, hc, hs, Rd.of_own h1, own_len h1, fun i r hr => ?_⟩
  obtain ⟨h, e, ho⟩ := h2 i r hr
  obtain ⟨A', c', rfl, hc', hr'⟩ := ho.open_
  exact ⟨A', c', e, hc', hr'⟩
/-- A row of a slice of slices that is read. -/
theorem Rd2.at_ {w : World} {A : Option Addr} {rows : List (List Int)} (h : Rd2 w A rows) {i : Nat} {r : List Int} (hr : rows[i]? = some r) :
    ∃ b o A' c', A = some ⟨b, o, none⟩ ∧ w.cell? ⟨b, o + i, none⟩ = some (.slice A' r.length c') ∧ r.length ≤ c' ∧ RdI .i64 w A' r := by
  obtain ⟨hs, h1, h2, h3⟩ := h
  obtain ⟨A', c', e, hc, hr'⟩ := h3 i r hr
  obtain ⟨b, o, x, e1, e2, e3⟩ := h1.atv (k := i) ((List.getElem?_eq_some_iff.1 e).1)
  rw [e2.out] at e
  obtain rfl := Option.some.inj e
  exact ⟨b, o, A', c', e1, e3, hc, hr'⟩

theorem own_kept_ne {w w' : World} {B B' : Nat} {e e' : TypeId} {sz sz' n n' : Nat} {v v' : Value} {xs xs' : List Value} (h : w.ownsRow B e sz v n xs) (h' : w.ownsRow B' e' sz' v' n' xs') (hne : e ≠ e') (hg : w.grownBy w' v'.ownBlock) : w'.ownsRow B e sz v n xs := by
  refine h.kept hg ?_
  cases hv : v.ownBlock with
  | none => exact .inl rfl
  | some g => exact .inr (fun e1 => own_ne h h' hne hv e1.symm)

/-- .. all rows are the call's own, and the last row's block is no other's. -/
def OwnL (w : World) (B : Nat) (v : Value) (rows : List (List Int)) : Prop :=
  ∃ hs : List Value, w.ownsRow B 24 1 v rows.length hs ∧ (∀ (i : Nat) (r : List Int), rows[i]? = some r → ∃ h, hs[i]? = some h ∧ Own w B h r) ∧
    (∀ (i : Nat) (h hl : Value) (g : Nat), i + 1 < rows.length → hs[i]? = some h → hs[rows.length - 1]? = some hl → hl.ownBlock = some g → h.ownBlock ≠ some g)
theorem OwnL.own2 {w : World} {B : Nat} {v : Value} {rows : List (List Int)} (h : OwnL w B v rows) : Own2 w B v rows := by
  obtain ⟨hs, h1, h2, _⟩ := h
  exact ⟨hs, h1, fun i r hr => by obtain ⟨x, a, b⟩ := h2 i r hr; exact ⟨x, a, .inl b⟩⟩
theorem OwnL.nil (w : World) (B : Nat) : OwnL w B (.slice none 0 0) [] := ⟨[], World.ownsRow_nil _ _ _ _, fun i r h => by simp at h, fun i h hl g hi => by simp at hi⟩

/-- An empty row is added. -/
theorem OwnL.add {w w' : World} {B : Nat} {v v' : Value} {rows : List (List Int)} {hs : List Value} {o : Obj}
    (h1 : w.ownsRow B 24 1 v rows.length hs) (h2 : ∀ (i : Nat) (r : List Int), rows[i]? = some r → ∃ h, hs[i]? = some h ∧ Own w B h r)
    (hown : w'.ownsRow B 24 1 v' (rows.length + 1) (hs ++ [.slice none 0 0])) (hg : (w.alloc o).grownBy w' v.ownBlock) : OwnL w' B v' (rows ++ [[]]) := by
  have hl := own_len h1
  refine ⟨hs ++ [.slice none 0 0], by simpa using hown, fun i r hr => ?_, fun i h hlast g hi e1 e2 hb => ?_⟩
  · by_cases hi : i < rows.length
    · rw [List.getElem?_append_left hi] at hr
      obtain ⟨h, e, ho⟩ := h2 i r hr
      exact ⟨h, by rw [List.getElem?_append_left (by omega)]; exact e, own_kept_ne (h := ho.alloc o) (h' := h1.alloc o) (by decide) hg⟩
    · have hi' : i = rows.length := by
        have := (List.getElem?_eq_some_iff.1 hr).1; simp at this; omega
      subst hi'
      simp at hr
      subst hr
      exact ⟨.slice none 0 0, by rw [← hl]; simp, OwnT.nil _ _ _ _⟩
  · have : (hs ++ [Value.slice none 0 0])[(rows ++ [[]]).length - 1]? = some (.slice none 0 0) := by simp [← hl]
    rw [this] at e2
    obtain rfl := Option.some.inj e2
    simp [Value.ownBlock] at hb

/-- The last row: where it lies, and what holds when it has grown and been stored back. -/
theorem OwnL.last {w : World} {B : Nat} {v : Value} {rs : List (List Int)} {r : List Int} (h : OwnL w B v (rs ++ [r])) :
    ∃ g c Ah ch, v = .slice (some ⟨g, 0, none⟩) (rs.length + 1) c ∧ B ≤ g ∧ rs.length + 1 ≤ c ∧ w.cell? ⟨g, rs.length, none⟩ = some (.slice Ah r.length ch) ∧ Own w B (.slice Ah r.length ch) r ∧
      ∀ (w2 : World) (h' : Value) (o : Obj) (r' : List Int), (w.alloc o).grownBy w2 (Value.slice Ah r.length ch).ownBlock → Own w2 B h' r' → (h'.ownBlock = (Value.slice Ah r.length ch).ownBlock ∨ h'.ownBlock = some (w.heap.size + 1)) →
        w2.cell? ⟨g, rs.length, none⟩ = some (.slice Ah r.length ch) ∧ w2.frozen? ⟨g, rs.length, none⟩ = false ∧ OwnL (w2.setCell ⟨g, rs.length, none⟩ h') B v (rs ++ [r']) := by
  obtain ⟨hs, h1, h2, h3⟩ := h
  have hl := own_len h1
  simp only [List.length_append, List.length_singleton] at h1 hl
  obtain ⟨hlast, el, hol⟩ := h2 rs.length r (by simp)
  obtain ⟨Ah, ch, rfl, _, _⟩ := hol.open_
  rcases h1.2 with ⟨_, hn⟩ | ⟨g, c, cur, rfl, hg, hh, hnc, _⟩
  · omega
  have hcell : w.cell? ⟨g, rs.length, none⟩ = some (.slice Ah r.length ch) := by rw [h1.cellAt _ (by omega)]; exact el
  refine ⟨g, c, Ah, ch, rfl, hg, hnc, hcell, hol, fun w2 h' o r' hgrow ho' hb' => ?_⟩
  have k1 : w2.ownsRow B 24 1 (.slice (some ⟨g, 0, none⟩) (rs.length + 1) c) (rs.length + 1) hs := own_kept_ne (h1.alloc o) (hol.alloc o) (by decide) hgrow
  have k2 : w2.cell? ⟨g, rs.length, none⟩ = some (.slice Ah r.length ch) := by rw [k1.cellAt _ (by omega)]; exact el
  have st := k1.stored rs.length h'
  refine ⟨k2, k1.frozenAt _, hs.set rs.length h', by simpa using st.1, fun i q hq => ?_, fun i x xl gx hi e1 e2 hx => ?_⟩
  · by_cases hi : i < rs.length
    · rw [List.getElem?_append_left hi] at hq
      obtain ⟨x, ex, hox⟩ := h2 i q (by rw [List.getElem?_append_left hi]; exact hq)
      refine ⟨x, by rw [List.getElem?_set_ne (by omega)]; exact ex, ?_⟩
      have q1 : Own w2 B x q := by
        refine (hox.alloc o).kept hgrow ?_
        cases hv : x.ownBlock with
        | none => exact .inl rfl
        | some gx =>
          refine .inr (fun e => ?_)
          exact h3 i x _ gx (by simp; omega) ex (by simpa using el) e.symm hv
      exact ownsRow_setCell_other q1 (by
        intro e
        exact own_ne q1 k1 (by decide) e (by simp [Value.ownBlock])) h'
    · have hi' : i = rs.length := by
        have := (List.getElem?_eq_some_iff.1 hq).1; simp at this; omega
      subst hi'
      simp at hq
      subst hq
      refine ⟨h', by rw [List.getElem?_set_self (by omega)], ?_⟩
      exact ownsRow_setCell_other ho' (by
        intro e
        exact own_ne ho' k1 (by decide) e (by simp [Value.ownBlock])) h'
  · simp only [List.length_append, List.length_singleton] at hi e2
    rw [List.getElem?_set_ne (by omega)] at e1
    rw [show rs.length + 1 - 1 = rs.length by omega, List.getElem?_set_self (by omega)] at e2
    obtain rfl := Option.some.inj e2
    obtain ⟨q, hq⟩ : ∃ q, rs[i]? = some q := ⟨_, List.getElem?_eq_getElem (by omega)⟩
    obtain ⟨x', ex, hox⟩ := h2 i q (by rw [List.getElem?_append_left (by omega)]; exact hq)
    rw [e1] at ex
    obtain rfl := Option.some.inj ex
    rcases hb' with hb' | hb'
    · rw [hb'] at hx
      exact h3 i x _ gx (by simp; omega) e1 (by simpa using el) hx
    · rw [hb'] at hx
      intro hxx
      have := hox.lt gx hxx
      simp at hx
      omega
end Go.Proofs.Ytamfjmonpbojnaa
