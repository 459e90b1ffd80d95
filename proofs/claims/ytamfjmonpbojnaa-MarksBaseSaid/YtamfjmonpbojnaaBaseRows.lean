/-
  Four rows of the call's own that grow side by side, no two in one block: what an append onto one of them leaves.
-/
import Derived.Test.YtamfjmonpbojnaaKeepPlain
namespace Go.Proofs.Ytamfjmonpbojnaa
open Go.RowKit

/-- Two rows never share a block. -/
def Apart (v v' : Value) : Prop := ∀ g, v.ownBlock = some g → v'.ownBlock ≠ some g
theorem Apart.symm {v v' : Value} (h : Apart v v') : Apart v' v := fun g h1 h2 => h g h2 h1
theorem Apart.none (v : Value) (n c : Nat) : Apart (.slice none n c) v := fun g h => by simp [Value.ownBlock] at h

/-- append of one cell to a row of the call's own, other rows beside it. -/
theorem wpList_push_apart (w : World) (ob : Obj) {ops : Array Oper} {rest : List Oper} {o : Oper} {a : Act} {Q : Exit → Act → World → Prop} (hgd : o.guard = none) (s x : Operand) (t : TypeId)
    (ho : o.op = .call { callee := .builtin .append, args := #[s, x], argTypes := #[t, t] })
    (B : Nat) (e : TypeId) (K : IntKind) (z : Value) (bytes : Nat) (ht : Try.prog.underlying t = some (.slice e)) (hinfo : (Try.prog.info? e).map (fun i => (i.zero, i.size, i.bytes)) = some (some z, 1, bytes)) (hzs : z.cells.size = 1)
    (v : Value) (zs : List Int) (hs : a.eval s = v) (hown : OwnT e K w B v zs)
    (g : Nat) (u : Int) (hx : a.eval x = .slice (some ⟨g, 0, none⟩) 1 1) (hu : (w.alloc ob).cell? ⟨g, 0, none⟩ = some (.int K u))
    (hn : zs.length ≤ 4294967296) (hbytes : bytes ≤ 24) (hbase : B ≤ w.heap.size)
    (h : ∀ v' w', OwnT e K w' B v' (zs ++ [u]) → (∀ e2 K2 v2 zs2, OwnT e2 K2 w B v2 zs2 → Apart v v2 → OwnT e2 K2 w' B v2 zs2 ∧ Apart v' v2) → Below B w w' → wpList Try.prog ops Q rest (a.put o.dst v') w') :
    wpList Try.prog ops Q (o :: rest) a (w.alloc ob) := by
  refine wpList_push_at (w.alloc ob) hgd s x t ho B e z bytes ht hinfo hzs v _ _ hs (hown.alloc ob) g _ hx hu rfl hn hbytes (by simp; omega) (fun v' w' h1 h2 h3 => ?_)
  refine h v' w' (by unfold OwnT; simpa using h1) (fun e2 K2 v2 zs2 ho2 hap => ⟨?_, fun g2 hg2 hg2' => ?_⟩) (((Below.refl B w).alloc hbase ob).grown h2 (by simp; omega) (hown.alloc ob).ge)
  · refine (ho2.alloc ob).kept h2 ?_
    cases hv : v.ownBlock with
    | none =>
      cases hv2 : v2.ownBlock with
      | none => exact .inl rfl
      | some g2 => exact .inr (by simp)
    | some g1 => exact .inr (hap g1 hv)
  · rcases h3 with h3 | h3
    · exact hap g2 (by rw [← h3]; exact hg2) hg2'
    · have := ho2.lt g2 hg2'
      rw [h3] at hg2
      have := Option.some.inj hg2
      simp at this
      omega

/-- classes, widths, levels and bases of a line that is being built -/
structure Grow4 (w : World) (B : Nat) (vc vw vl vb : Value) (C Wd L Bs : List Int) : Prop where
  oc : OwnT 60 .u8 w B vc C
  ow : Own w B vw Wd
  ol : Own w B vl L
  ob : Own w B vb Bs
  cw : Apart vc vw
  cl : Apart vc vl
  cb : Apart vc vb
  wl : Apart vw vl
  wb : Apart vw vb
  lb : Apart vl vb
theorem Grow4.nil (w : World) (B : Nat) : Grow4 w B (.slice none 0 0) (.slice none 0 0) (.slice none 0 0) (.slice none 0 0) [] [] [] [] :=
  ⟨OwnT.nil _ _ _ _, OwnT.nil _ _ _ _, OwnT.nil _ _ _ _, OwnT.nil _ _ _ _, Apart.none _ _ _, Apart.none _ _ _, Apart.none _ _ _, Apart.none _ _ _, Apart.none _ _ _, Apart.none _ _ _⟩
section
variable {w : World} {obj : Obj} {ops : Array Oper} {rest : List Oper} {o : Oper} {a : Act} {Q : Exit → Act → World → Prop} {B : Nat} {vc vw vl vb : Value} {C Wd L Bs : List Int}
theorem wpList_grow_c (h4 : Grow4 w B vc vw vl vb C Wd L Bs) (hgd : o.guard = none) (s x : Operand) (ho : o.op = .call { callee := .builtin .append, args := #[s, x], argTypes := #[48, 48] }) (hs : a.eval s = vc)
    (g : Nat) (u : Int) (hx : a.eval x = .slice (some ⟨g, 0, none⟩) 1 1) (hu : (w.alloc obj).cell? ⟨g, 0, none⟩ = some (.int .u8 u)) (hn : C.length ≤ 4294967296) (hbase : B ≤ w.heap.size)
    (h : ∀ v' w', Grow4 w' B v' vw vl vb (C ++ [u]) Wd L Bs → Below B w w' → wpList Try.prog ops Q rest (a.put o.dst v') w') : wpList Try.prog ops Q (o :: rest) a (w.alloc obj) := by
  refine wpList_push_apart w obj hgd s x 48 ho B 60 .u8 _ 1 Try.underlying48 info60 rfl vc C hs h4.oc g u hx hu hn (by omega) hbase fun v' w' ho' hk hb => h v' w' ?_ hb
  obtain ⟨k1, a1⟩ := hk _ _ _ _ h4.ow h4.cw
  obtain ⟨k2, a2⟩ := hk _ _ _ _ h4.ol h4.cl
  obtain ⟨k3, a3⟩ := hk _ _ _ _ h4.ob h4.cb
  exact ⟨ho', k1, k2, k3, a1, a2, a3, h4.wl, h4.wb, h4.lb⟩
theorem wpList_grow_w (h4 : Grow4 w B vc vw vl vb C Wd L Bs) (hgd : o.guard = none) (s x : Operand) (ho : o.op = .call { callee := .builtin .append, args := #[s, x], argTypes := #[24, 24] }) (hs : a.eval s = vw)
    (g : Nat) (u : Int) (hx : a.eval x = .slice (some ⟨g, 0, none⟩) 1 1) (hu : (w.alloc obj).cell? ⟨g, 0, none⟩ = some (.int .i64 u)) (hn : Wd.length ≤ 4294967296) (hbase : B ≤ w.heap.size)
    (h : ∀ v' w', Grow4 w' B vc v' vl vb C (Wd ++ [u]) L Bs → Below B w w' → wpList Try.prog ops Q rest (a.put o.dst v') w') : wpList Try.prog ops Q (o :: rest) a (w.alloc obj) := by
  refine wpList_push_apart w obj hgd s x 24 ho B 3 .i64 _ 8 Try.underlying24 info3 rfl vw Wd hs h4.ow g u hx hu hn (by omega) hbase fun v' w' ho' hk hb => h v' w' ?_ hb
  obtain ⟨k1, a1⟩ := hk _ _ _ _ h4.oc h4.cw.symm
  obtain ⟨k2, a2⟩ := hk _ _ _ _ h4.ol h4.wl
  obtain ⟨k3, a3⟩ := hk _ _ _ _ h4.ob h4.wb
  exact ⟨k1, ho', k2, k3, a1.symm, h4.cl, h4.cb, a2, a3, h4.lb⟩
theorem wpList_grow_l (h4 : Grow4 w B vc vw vl vb C Wd L Bs) (hgd : o.guard = none) (s x : Operand) (ho : o.op = .call { callee := .builtin .append, args := #[s, x], argTypes := #[24, 24] }) (hs : a.eval s = vl)
    (g : Nat) (u : Int) (hx : a.eval x = .slice (some ⟨g, 0, none⟩) 1 1) (hu : (w.alloc obj).cell? ⟨g, 0, none⟩ = some (.int .i64 u)) (hn : L.length ≤ 4294967296) (hbase : B ≤ w.heap.size)
    (h : ∀ v' w', Grow4 w' B vc vw v' vb C Wd (L ++ [u]) Bs → Below B w w' → wpList Try.prog ops Q rest (a.put o.dst v') w') : wpList Try.prog ops Q (o :: rest) a (w.alloc obj) := by
  refine wpList_push_apart w obj hgd s x 24 ho B 3 .i64 _ 8 Try.underlying24 info3 rfl vl L hs h4.ol g u hx hu hn (by omega) hbase fun v' w' ho' hk hb => h v' w' ?_ hb
  obtain ⟨k1, a1⟩ := hk _ _ _ _ h4.oc h4.cl.symm
  obtain ⟨k2, a2⟩ := hk _ _ _ _ h4.ow h4.wl.symm
  obtain ⟨k3, a3⟩ := hk _ _ _ _ h4.ob h4.lb
  exact ⟨k1, k2, ho', k3, h4.cw, a1.symm, h4.cb, a2.symm, h4.wb, a3⟩
theorem wpList_grow_b (h4 : Grow4 w B vc vw vl vb C Wd L Bs) (hgd : o.guard = none) (s x : Operand) (ho : o.op = .call { callee := .builtin .append, args := #[s, x], argTypes := #[24, 24] }) (hs : a.eval s = vb)
    (g : Nat) (u : Int) (hx : a.eval x = .slice (some ⟨g, 0, none⟩) 1 1) (hu : (w.alloc obj).cell? ⟨g, 0, none⟩ = some (.int .i64 u)) (hn : Bs.length ≤ 4294967296) (hbase : B ≤ w.heap.size)
    (h : ∀ v' w', Grow4 w' B vc vw vl v' C Wd L (Bs ++ [u]) → Below B w w' → wpList Try.prog ops Q rest (a.put o.dst v') w') : wpList Try.prog ops Q (o :: rest) a (w.alloc obj) := by
  refine wpList_push_apart w obj hgd s x 24 ho B 3 .i64 _ 8 Try.underlying24 info3 rfl vb Bs hs h4.ob g u hx hu hn (by omega) hbase fun v' w' ho' hk hb => h v' w' ?_ hb
  obtain ⟨k1, a1⟩ := hk _ _ _ _ h4.oc h4.cb.symm
  obtain ⟨k2, a2⟩ := hk _ _ _ _ h4.ow h4.wb.symm
  obtain ⟨k3, a3⟩ := hk _ _ _ _ h4.ol h4.lb.symm
  exact ⟨k1, k2, k3, ho', h4.cw, h4.cl, a1.symm, h4.wl, a2.symm, a3.symm⟩
end
end Go.Proofs.Ytamfjmonpbojnaa
