/-
  The words of this seat's proofs: a slice that reads as a list (Rd), a row of the call's own, the law of an append of one cell, a made row, small facts on lists.
-/
import Derived.Test.YtamfjmonpbojnaaRows
import Derived.WalkKit
import Derived.ProofKit
import Derived.OpenShut
import Derived.Deep.LoopGhost
import Derived.Deep.OwnRows
import Derived.Lib.Hide
namespace Go.Proofs.Ytamfjmonpbojnaa
open Go.RowKit

theorem ret_int {k : IntKind} {a b : Int} (h : a = b) : Ending.returned (.int k a) = .returned (.int k b) := by rw [h]
theorem ret_bool {a b : Bool} (h : a = b) : Ending.returned (.bool a) = .returned (.bool b) := by rw [h]

theorem block_add (a : Addr) (n : Nat) : (a.add n).block = a.block := by unfold Addr.add; split <;> rfl

/-- The cells from address A on hold xs. -/
def Rd (w : World) (A : Option Addr) (xs : List Value) : Prop :=
  ∀ k u, xs[k]? = some u → ∃ ad, A = some ad ∧ w.cell? (ad.add k) = some u

section
variable {w w' : World} {A : Option Addr} {xs : List Value}
theorem Rd.nil (w : World) (A : Option Addr) : Rd w A [] := fun k u h => by simp at h
theorem Rd.keep (h : Rd w A xs) (hk : ∀ p : Addr, p.block < w.heap.size → w'.cell? p = w.cell? p) : Rd w' A xs := fun k u hu => by
  obtain ⟨ad, e, hc⟩ := h k u hu
  exact ⟨ad, e, (hk _ (block_lt_of_cell hc)).trans hc⟩
theorem Rd.below (h : Rd w A xs) (hb : Below w.heap.size w w') : Rd w' A xs := h.keep fun _ hp => hb.cell hp
theorem Rd.alloc (h : Rd w A xs) (o : Obj) : Rd (w.alloc o) A xs := h.below ((Below.refl _ _).alloc (Nat.le_refl _) o)
/-- The address, for all elements at once. -/
theorem Rd.addr (h : Rd w A xs) (hk : 0 < xs.length) : ∃ b o, A = some ⟨b, o, none⟩ ∧ b < w.heap.size ∧ ∀ k u, xs[k]? = some u → w.cell? ⟨b, o + k, none⟩ = some u := by
  obtain ⟨⟨b, o, sp⟩, e, hc⟩ := h 0 xs[0] (by simp [hk])
  have h0 : Addr.add ⟨b, o, sp⟩ 0 = ⟨b, o, sp⟩ := by simp [Addr.add]
  rw [h0] at hc
  have hsp : sp = none := by simpa using World.cell?_spot hc
  subst hsp
  refine ⟨b, o, e, block_lt_of_cell hc, fun k u hu => ?_⟩
  obtain ⟨ad', e', hc⟩ := h k u hu
  rw [e] at e'
  obtain rfl := Option.some.inj e'
  rwa [Addr.add_lit] at hc
theorem Rd.atv {k : Nat} (h : Rd w A xs) (hk : k < xs.length) :
    ∃ b o x, A = some ⟨b, o, none⟩ ∧ Hid (xs[k]? = some x) ∧ w.cell? ⟨b, o + k, none⟩ = some x := by
  obtain ⟨b, o, e, _, hc⟩ := h.addr (by omega)
  exact ⟨b, o, xs[k], e, List.getElem?_eq_getElem hk, hc k _ (List.getElem?_eq_getElem hk)⟩
theorem Rd.of_own {base : Nat} {e : TypeId} {n c : Nat} (h : w.ownsRow base e 1 (.slice A n c) n xs) : Rd w A xs := by
  rcases h.2 with ⟨hv, hn⟩ | ⟨g, cap, cur, hv, hb, hg, _⟩
  · have : xs = [] := List.eq_nil_of_length_eq_zero (by have := h.1; omega)
    subst this
    exact Rd.nil _ _
  · injection hv with hA _ _
    subst hA
    intro k u hu
    exact ⟨_, rfl, h.cells (g := g) rfl k u hu⟩
end

section
variable {w w' : World} {base base' : Nat} {e : TypeId} {size : Nat} {v : Value} {n : Nat} {xs : List Value}
theorem own_mono (h : w.ownsRow base e size v n xs) (hb : base' ≤ base) : w.ownsRow base' e size v n xs := by
  refine ⟨h.1, ?_⟩
  rcases h.2 with hn | ⟨g, cap, cur, rfl, hg, rest⟩
  · exact .inl hn
  · exact .inr ⟨g, cap, cur, rfl, by omega, rest⟩
/-- The shape of what is owned. -/
theorem own_open (h : w.ownsRow base e size v n xs) : ∃ A c, v = .slice A n c ∧ n ≤ c := by
  rcases h.2 with ⟨rfl, rfl⟩ | ⟨g, cap, cur, rfl, _, _, hn, _⟩
  · exact ⟨none, 0, rfl, by omega⟩
  · exact ⟨_, _, rfl, hn⟩
theorem own_len (h : w.ownsRow base e 1 v n xs) : xs.length = n := by have := h.1; omega
theorem own_below (h : w.ownsRow base e size v n xs) {B : Nat} (hb : Below B w w') (hB : ∀ g, v.ownBlock = some g → g < B) : w'.ownsRow base e size v n xs := by
  refine ⟨h.1, ?_⟩
  rcases h.2 with hn | ⟨g, cap, cur, rfl, hg, hh, rest⟩
  · exact .inl hn
  · exact .inr ⟨g, cap, cur, rfl, hg, by rw [hb.block g (hB g rfl)]; exact hh, rest⟩
theorem own_lt (h : w.ownsRow base e size v n xs) : ∀ g, v.ownBlock = some g → g < w.heap.size := fun g hg => (h.lt g hg).2
theorem own_ge (h : w.ownsRow base e size v n xs) : ∀ g, v.ownBlock = some g → base ≤ g := fun g hg => (h.lt g hg).1
end

section
variable {P : Program} {w : World} {b : Nat} {t : TypeId} {n : Nat} {f : Nat → Value}
theorem own_of_row {base : Nat} (h : w.rowIs b t n f) (hb : base ≤ b) (hm : n ≤ maxLen) : w.ownsRow base t 1 (.slice (some ⟨b, 0, none⟩) n n) n ((List.range n).map f) := by
  obtain ⟨c, hh, hn, hc⟩ := h
  refine ⟨by simp, .inr ⟨b, n, c, rfl, hb, hh, Nat.le_refl _, hm, by omega, ?_⟩⟩
  rw [Nat.mul_one, List.take_of_length_le (by simp [hn])]
  apply List.ext_getElem?
  intro i
  rw [Array.getElem?_toList]
  by_cases hi : i < n
  · rw [hc i hi]; simp [hi]
  · rw [Array.getElem?_eq_none (by omega), List.getElem?_eq_none (by simp; omega)]
end

/-- append of one cell to a row of the call's own. -/
theorem wpList_push {P : Program} (w : World) {ops : Array Oper} {rest : List Oper} {o : Oper} {a : Act} {Q : Exit → Act → World → Prop} (hgd : o.guard = none) (s x : Operand) (t : TypeId)
    (ho : o.op = .call { callee := .builtin .append, args := #[s, x], argTypes := #[t, t] })
    (base : Nat) (e : TypeId) (z : Value) (bytes : Nat) (ht : P.underlying t = some (.slice e)) (hinfo : (P.info? e).map (fun i => (i.zero, i.size, i.bytes)) = some (some z, 1, bytes)) (hzs : z.cells.size = 1)
    (v : Value) (n : Nat) (xs : List Value) (hs : a.eval s = v) (hown : w.ownsRow base e 1 v n xs)
    (g : Nat) (u : Value) (hx : a.eval x = .slice (some ⟨g, 0, none⟩) 1 1) (hu : w.cell? ⟨g, 0, none⟩ = some u) (h1 : u.oneCell' = true)
    (hn : n ≤ 4294967296) (hbytes : bytes ≤ 24) (hbase : base ≤ w.heap.size)
    (h : ∀ v' w', w'.ownsRow base e 1 v' (n + 1) (xs ++ [u]) → w.grownBy w' v.ownBlock → wpList P ops Q rest (a.put o.dst v') w') : wpList P ops Q (o :: rest) a w := by
  obtain ⟨i, hi, hz, hsz, hby⟩ := info_parts hinfo
  refine wpList_append_own w hgd s x t ho base e i z 1 bytes ht hi hz hsz hby hzs (by omega) v n xs hs hown ⟨g, 0, none⟩ 1 1 [u] hx rfl ?_ ?_ ?_ ?_ hbase (fun v' w' h1 h2 _ => h v' w' h1 h2)
  · intro j u' hj
    match j, hj with
    | 0, hj => simp at hj; subst hj; simpa [Addr.add] using hu
  · intro u' hu'; simp at hu'; subst hu'; exact h1
  · unfold maxLen; omega
  · have : (n + 1) * bytes ≤ (n + 1) * 24 := Nat.mul_le_mul_left _ hbytes
    omega

/-- append of a whole slice, nil, empty or not, to a row of the call's own. -/
theorem wpList_cat {P : Program} (w : World) {ops : Array Oper} {rest : List Oper} {o : Oper} {a : Act} {Q : Exit → Act → World → Prop} (hgd : o.guard = none) (s x : Operand) (t : TypeId)
    (ho : o.op = .call { callee := .builtin .append, args := #[s, x], argTypes := #[t, t] })
    (base : Nat) (e : TypeId) (z : Value) (bytes : Nat) (ht : P.underlying t = some (.slice e)) (hinfo : (P.info? e).map (fun i => (i.zero, i.size, i.bytes)) = some (some z, 1, bytes)) (hzs : z.cells.size = 1)
    (v : Value) (n : Nat) (xs : List Value) (hs : a.eval s = v) (hown : w.ownsRow base e 1 v n xs)
    (A : Option Addr) (m c : Nat) (news : List Value) (hx : a.eval x = .slice A m c) (hm : news.length = m) (hr : Rd w A news) (h1 : ∀ u ∈ news, u.oneCell' = true)
    (hn : n + m ≤ 4294967296) (hbytes : bytes ≤ 24) (hbase : base ≤ w.heap.size)
    (h : ∀ v' w', w'.ownsRow base e 1 v' (n + m) (xs ++ news) → w.grownBy w' v.ownBlock → wpList P ops Q rest (a.put o.dst v') w') : wpList P ops Q (o :: rest) a w := by
  obtain ⟨i, hi, hz, hsz, hby⟩ := info_parts hinfo
  cases A with
  | some ad =>
    refine wpList_append_own w hgd s x t ho base e i z 1 bytes ht hi hz hsz hby hzs (by omega) v n xs hs hown ad m c news hx (by omega) ?_ h1 ?_ ?_ hbase (fun v' w' h1 h2 _ => h v' w' h1 h2)
    · intro j u hj
      obtain ⟨ad', e', hc⟩ := hr j u hj
      obtain rfl := Option.some.inj e'
      exact hc
    · unfold maxLen; omega
    · have : (n + m) * bytes ≤ (n + m) * 24 := Nat.mul_le_mul_left _ hbytes
      omega
  | none =>
    have hnil : news = [] := by
      cases news with
      | nil => rfl
      | cons y r => obtain ⟨ad, e', _⟩ := hr 0 y rfl; cases e'
    subst hnil
    have hm0 : m = 0 := by simpa using hm.symm
    subst hm0
    have key := h v w (by simpa using hown) ⟨rfl, rfl, rfl, Nat.le_refl _, fun _ _ _ => rfl⟩
    refine wpList_plain hgd fun K hK => ?_
    have hrun : (Builtin.append_ #[t, t] o.type #[v, .slice none 0 c]).run P w = .ok v w := by
      rcases hown.2 with ⟨rfl, rfl⟩ | ⟨g, cap, cur, rfl, _, _, hnc, _⟩
      · simp [Builtin.append_, run_underlying ht, sizeOf, typeInfo, hi, Builtin.lenOf, Builtin.firstCells]
      · simp [Builtin.append_, run_underlying ht, sizeOf, typeInfo, hi, Builtin.lenOf, Builtin.firstCells, hnc, storeCells]
    unfold Oper.wp execOp
    simp only [ho, resolve, invoke, builtin, Sem.run_bind, Sem.run_pure, Result.andThen_ok, List.map_toArray, List.map_cons, List.map_nil, hs, hx, hrun]
    exact hK _ _ key

theorem take_snoc {α : Type} {l : List α} {k : Nat} {x : α} (h : l[k]? = some x) : l.take (k + 1) = l.take k ++ [x] := by
  rw [List.take_add_one, h]; rfl
theorem map_take_snoc {α β : Type} (f : α → β) {l : List α} {k : Nat} {x : α} (h : l[k]? = some x) : (l.take (k + 1)).map f = (l.take k).map f ++ [f x] := by
  rw [take_snoc h]; simp

/-- A slice of integers of kind K that reads as zs. -/
def RdI (K : IntKind) (w : World) (A : Option Addr) (zs : List Int) : Prop := Rd w A (zs.map (Value.int K))
section
variable {K : IntKind} {w w' : World} {A : Option Addr} {zs : List Int}
theorem RdI.nil (K : IntKind) (w : World) (A : Option Addr) : RdI K w A [] := Rd.nil _ _
theorem RdI.below (h : RdI K w A zs) (hb : Below w.heap.size w w') : RdI K w' A zs := Rd.below h hb
theorem RdI.alloc (h : RdI K w A zs) (o : Obj) : RdI K (w.alloc o) A zs := Rd.alloc h o
/-- The address, for all elements at once. -/
theorem RdI.addr (h : RdI K w A zs) (hk : 0 < zs.length) : ∃ b o, A = some ⟨b, o, none⟩ ∧ b < w.heap.size ∧ ∀ k x, zs[k]? = some x → w.cell? ⟨b, o + k, none⟩ = some (.int K x) := by
  obtain ⟨b, o, e, hb, hc⟩ := Rd.addr h (by simpa using hk)
  exact ⟨b, o, e, hb, fun k x hx => hc k _ (by simp [hx])⟩
/-- An element: its address, its value. -/
theorem RdI.at_ (h : RdI K w A zs) {k : Nat} (hk : k < zs.length) :
    ∃ b o x, A = some ⟨b, o, none⟩ ∧ Hid (zs[k]? = some x) ∧ w.cell? ⟨b, o + k, none⟩ = some (.int K x) := by
  obtain ⟨b, o, e, _, hc⟩ := h.addr (by omega)
  exact ⟨b, o, zs[k], e, List.getElem?_eq_getElem hk, hc k _ (List.getElem?_eq_getElem hk)⟩
end
/-- A literal of numbers in a new block. -/
theorem rd_lit (K : IntKind) (w : World) (cs : Array Value) (e : TypeId) (zs : List Int) (h : cs = (zs.map (Value.int K)).toArray) :
    RdI K (w.alloc (.cells cs e)) (some ⟨w.heap.size, 0, none⟩) zs := by
  subst h
  intro k u hu
  refine ⟨_, rfl, ?_⟩
  have hadd : (⟨w.heap.size, 0, none⟩ : Addr).add k = ⟨w.heap.size, k, none⟩ := by unfold Addr.add; split <;> simp_all
  rw [hadd, cell_of_row _ _ _ _ _ _ (heap_alloc_new w _)]
  simpa using hu

/-- Value v is a slice (element type e, integers of kind K) of the call's own (blocks from B on) that holds zs. -/
def OwnT (e : TypeId) (K : IntKind) (w : World) (B : Nat) (v : Value) (zs : List Int) : Prop := w.ownsRow B e 1 v zs.length (zs.map (Value.int K))
/-- .. a slice of int. -/
abbrev Own (w : World) (B : Nat) (v : Value) (zs : List Int) : Prop := OwnT 3 .i64 w B v zs
theorem info3 : (Try.prog.info? 3).map (fun i => (i.zero, i.size, i.bytes)) = some (some (.int .i64 0), 1, 8) := by kernel_rfl
section
variable {e : TypeId} {K : IntKind} {w w' : World} {B B' : Nat} {v : Value} {zs : List Int}
theorem OwnT.nil (e : TypeId) (K : IntKind) (w : World) (B : Nat) : OwnT e K w B (.slice none 0 0) [] := World.ownsRow_nil _ _ _ _
theorem OwnT.mono (h : OwnT e K w B v zs) (hb : B' ≤ B) : OwnT e K w B' v zs := own_mono h hb
theorem OwnT.open_ (h : OwnT e K w B v zs) : ∃ A c, v = .slice A zs.length c ∧ zs.length ≤ c ∧ RdI K w A zs := by
  obtain ⟨A, c, rfl, hc⟩ := own_open h
  exact ⟨A, c, rfl, hc, Rd.of_own h⟩
theorem OwnT.rd {A : Option Addr} {n c : Nat} (h : OwnT e K w B (.slice A n c) zs) : RdI K w A zs := by
  obtain ⟨A', c', hv, _, hr⟩ := h.open_
  injection hv with h1 h2 h3
  subst h1
  exact hr
theorem OwnT.alloc (h : OwnT e K w B v zs) (o : Obj) : OwnT e K (w.alloc o) B v zs := World.ownsRow.alloc h o
theorem OwnT.below (h : OwnT e K w B v zs) (hb : Below B' w w') (hB : w.heap.size ≤ B') : OwnT e K w' B v zs :=
  own_below h hb fun g hg => by have := own_lt h g hg; omega
theorem OwnT.ge (h : OwnT e K w B v zs) : ∀ g, v.ownBlock = some g → B ≤ g := own_ge h
theorem OwnT.lt (h : OwnT e K w B v zs) : ∀ g, v.ownBlock = some g → g < w.heap.size := own_lt h
theorem OwnT.kept {row : Option Nat} (h : OwnT e K w B v zs) (hg : w.grownBy w' row) (hne : v.ownBlock = none ∨ v.ownBlock ≠ row) : OwnT e K w' B v zs := World.ownsRow.kept h hg hne
theorem OwnT.of_eq {zs' : List Int} (h : OwnT e K w B v zs) (e' : zs = zs') : OwnT e K w B v zs' := e' ▸ h
end
/-- Below, behind a new block and an append onto a row of the call's own. -/
theorem below_push {e : TypeId} {K : IntKind} {W w w1 : World} {B : Nat} {o : Obj} {v : Value} {zs : List Int} (hb : Below B W w) (hB : B ≤ w.heap.size) (hown : OwnT e K w B v zs) (hg : (w.alloc o).grownBy w1 v.ownBlock) : Below B W w1 :=
  (hb.alloc hB o).grown hg (by simp; omega) hown.ge

/-- 'out = append(out, x)' on []int. -/
theorem wpList_pushI (w : World) {ops : Array Oper} {rest : List Oper} {o : Oper} {a : Act} {Q : Exit → Act → World → Prop} (hgd : o.guard = none) (s x : Operand)
    (ho : o.op = .call { callee := .builtin .append, args := #[s, x], argTypes := #[24, 24] })
    (B : Nat) (v : Value) (zs : List Int) (hs : a.eval s = v) (hown : Own w B v zs)
    (g : Nat) (u : Int) (hx : a.eval x = .slice (some ⟨g, 0, none⟩) 1 1) (hu : w.cell? ⟨g, 0, none⟩ = some (.int .i64 u))
    (hn : zs.length ≤ 4294967296) (hbase : B ≤ w.heap.size)
    (h : ∀ v' w', Own w' B v' (zs ++ [u]) → w.grownBy w' v.ownBlock → wpList Try.prog ops Q rest (a.put o.dst v') w') : wpList Try.prog ops Q (o :: rest) a w :=
  wpList_push w hgd s x 24 ho B 3 _ 8 Try.underlying24 info3 rfl v _ _ hs hown g _ hx hu rfl hn (by omega) hbase fun v' w' h1 h2 => h v' w' (by unfold Own OwnT; simpa using h1) h2
/-- 'out = append(out, xs...)' on []int. -/
theorem wpList_catI (w : World) {ops : Array Oper} {rest : List Oper} {o : Oper} {a : Act} {Q : Exit → Act → World → Prop} (hgd : o.guard = none) (s x : Operand)
    (ho : o.op = .call { callee := .builtin .append, args := #[s, x], argTypes := #[24, 24] })
    (B : Nat) (v : Value) (zs : List Int) (hs : a.eval s = v) (hown : Own w B v zs)
    (A : Option Addr) (m c : Nat) (ys : List Int) (hx : a.eval x = .slice A m c) (hm : ys.length = m) (hr : RdI .i64 w A ys)
    (hn : zs.length + m ≤ 4294967296) (hbase : B ≤ w.heap.size)
    (h : ∀ v' w', Own w' B v' (zs ++ ys) → w.grownBy w' v.ownBlock → wpList Try.prog ops Q rest (a.put o.dst v') w') : wpList Try.prog ops Q (o :: rest) a w :=
  wpList_cat w hgd s x 24 ho B 3 _ 8 Try.underlying24 info3 rfl v _ _ hs hown A m c _ hx (by simpa using hm) hr (by intro u hu; obtain ⟨y, _, rfl⟩ := List.mem_map.1 hu; rfl) hn (by omega) hbase fun v' w' h1 h2 => h v' w' (by unfold Own OwnT; simpa [hm] using h1) h2
/-- Below, behind an append onto a row of the call's own. -/
theorem below_cat {e : TypeId} {K : IntKind} {W w w1 : World} {B : Nat} {v : Value} {zs : List Int} (hb : Below B W w) (hB : B ≤ w.heap.size) (hown : OwnT e K w B v zs) (hg : w.grownBy w1 v.ownBlock) : Below B W w1 :=
  hb.grown hg hB hown.ge
theorem below_drew {B : Nat} {W w : World} (h : Below B W w) : Below B W w.drew := h.drew

end Go.Proofs.Ytamfjmonpbojnaa
