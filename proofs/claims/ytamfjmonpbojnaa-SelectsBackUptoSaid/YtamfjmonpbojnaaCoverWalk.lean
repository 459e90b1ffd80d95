/-
  The contracts of boustrophedonlaw35.cover and selects.Cells.
-/
import Derived.Test.YtamfjmonpbojnaaLineWalk
namespace Go.Proofs.Ytamfjmonpbojnaa
open Go.RowKit

/-- v is a slice of bool of the call's own that holds bs. -/
def OwnO (w : World) (B : Nat) (v : Value) (bs : List Bool) : Prop := w.ownsRow B 4 1 v bs.length (bs.map Value.bool)
def RdO (w : World) (A : Option Addr) (bs : List Bool) : Prop := Rd w A (bs.map Value.bool)
theorem OwnO.nil (w : World) (B : Nat) : OwnO w B (.slice none 0 0) [] := World.ownsRow_nil _ _ _ _
theorem OwnO.ge {w : World} {B : Nat} {v : Value} {bs : List Bool} (h : OwnO w B v bs) : ∀ g, v.ownBlock = some g → B ≤ g := own_ge h
theorem OwnO.alloc {w : World} {B : Nat} {v : Value} {bs : List Bool} (h : OwnO w B v bs) (o : Obj) : OwnO (w.alloc o) B v bs := World.ownsRow.alloc h o
theorem OwnO.mono {w : World} {B B' : Nat} {v : Value} {bs : List Bool} (h : OwnO w B v bs) (hb : B' ≤ B) : OwnO w B' v bs := own_mono h hb
theorem OwnO.of_eq {w : World} {B : Nat} {v : Value} {bs bs' : List Bool} (h : OwnO w B v bs) (e : bs = bs') : OwnO w B v bs' := e ▸ h
theorem OwnO.open_ {w : World} {B : Nat} {v : Value} {bs : List Bool} (h : OwnO w B v bs) : ∃ A c, v = .slice A bs.length c ∧ bs.length ≤ c ∧ RdO w A bs := by
  obtain ⟨A, c, rfl, hc⟩ := own_open h
  exact ⟨A, c, rfl, hc, Rd.of_own h⟩
theorem RdO.below {w w' : World} {A : Option Addr} {bs : List Bool} (h : RdO w A bs) (hb : Below w.heap.size w w') : RdO w' A bs := Rd.below h hb
theorem RdO.addr {w : World} {A : Option Addr} {bs : List Bool} (h : RdO w A bs) (hk : 0 < bs.length) : ∃ b o, A = some ⟨b, o, none⟩ ∧ b < w.heap.size ∧ ∀ (k : Nat) (x : Bool), bs[k]? = some x → w.cell? ⟨b, o + k, none⟩ = some (.bool x) := by
  obtain ⟨b, o, e, hb, hc⟩ := Rd.addr h (by simpa using hk)
  exact ⟨b, o, e, hb, fun k x hx => hc k _ (by simp [hx])⟩
theorem below_pushO {W w w1 : World} {B : Nat} {o : Obj} {v : Value} {bs : List Bool} (hb : Below B W w) (hB : B ≤ w.heap.size) (hown : OwnO w B v bs) (hg : (w.alloc o).grownBy w1 v.ownBlock) : Below B W w1 :=
  (hb.alloc hB o).grown hg (by simp; omega) hown.ge
/-- 'out = append(out, b)' on []bool. -/
theorem wpList_pushO (w : World) {ops : Array Oper} {rest : List Oper} {o : Oper} {a : Act} {Q : Exit → Act → World → Prop} (hgd : o.guard = none) (s x : Operand)
    (ho : o.op = .call { callee := .builtin .append, args := #[s, x], argTypes := #[32, 32] })
    (B : Nat) (v : Value) (bs : List Bool) (hs : a.eval s = v) (hown : OwnO w B v bs)
    (g : Nat) (u : Bool) (hx : a.eval x = .slice (some ⟨g, 0, none⟩) 1 1) (hu : w.cell? ⟨g, 0, none⟩ = some (.bool u))
    (hn : bs.length ≤ 4294967296) (hbase : B ≤ w.heap.size)
    (h : ∀ v' w', OwnO w' B v' (bs ++ [u]) → w.grownBy w' v.ownBlock → wpList Try.prog ops Q rest (a.put o.dst v') w') : wpList Try.prog ops Q (o :: rest) a w :=
  wpList_push w hgd s x 32 ho B 4 _ 1 Try.underlying32 info4 rfl v _ _ hs hown g _ hx hu rfl hn (by omega) hbase fun v' w' h1 h2 => h v' w' (by unfold OwnO; simpa using h1) h2

theorem totF_take_le {W : List Nat} {V : List Int} (hW : ∀ x ∈ W, x ≤ 2) (hl : V.length = W.length) (k : Nat) : totF ((V.zip W).take k) ≤ 2 * W.length := by
  have h : totF ((V.zip W).take k) = sF W k := by
    unfold totF sF
    congr 1
    rw [List.zip, List.take_zipWith, ← List.zip, List.map_snd_zip]
    simp; omega
  rw [h]
  exact sF_le hW k
theorem cover_snoc {f t : Int} {V : List Int} {W : List Nat} {k : Nat} {p : Int} {wd : Nat} (hv : V[k]? = some p) (hw : W[k]? = some wd) : coverF f t ((V.zip W).take (k + 1)) = coverF f t ((V.zip W).take k) ++ List.replicate wd (inB f t p) := by
  rw [take_snoc (show (V.zip W)[k]? = some (p, wd) by rw [List.getElem?_zip_eq_some]; exact ⟨hv, hw⟩)]
  unfold coverF
  rw [List.flatMap_append]
  simp

set_option maxRecDepth 100000 in
set_option maxHeartbeats 4000000 in
theorem cover_any (A0 : Option Addr) (n c0 : Nat) (V : List Int) (A1 : Option Addr) (c1 : Nat) (W : List Nat) (f t : Int) (w : World)
    (h0 : V.length = n) (h1 : W.length = n) (r0 : RdI .i64 w A0 V) (r1 : RdI .i64 w A1 (upI W)) (hW : ∀ x ∈ W, x ≤ 2) (b1 : n ≤ 2097152) :
    Calls Try.prog 28 #[.slice A0 n c0, .slice A1 n c1, .int .i64 f, .int .i64 t] w fun e w' => ∃ v, e = .returned v ∧ OwnO w' w.heap.size v (coverF f t (V.zip W)) ∧ Below w.heap.size w w' := by
  have H0 := Lib.hid h0
  have H1 := Lib.hid h1
  have K1 : Hid ((upI W).length = n) := Lib.hid (by rw [upI_len, h1])
  have HZ : Hid ((V.zip W).length = n) := Lib.hid (by rw [List.length_zip, h0, h1]; omega)
  have HT : Hid (∀ k, totF ((V.zip W).take k) ≤ 2 * n) := Lib.hid (fun k => by have := totF_take_le hW (h0.trans h1.symm) k; omega)
  have HW := Lib.hid hW
  clear h0 h1 hW
  go_enter Try.func28, Try.ntmps28
  go_wp2_with fail
  go_loopg [10, 9] (n + 1) (fun m i v wr => ∃ k : Nat, k ≤ n ∧ m = n - k + 1 ∧ i = .int .i64 k ∧ OwnO wr w.heap.size v (coverF f t ((V.zip W).take k)) ∧ Below w.heap.size w wr)
  case atStart => exact ⟨0, Nat.zero_le _, rfl, rfl, OwnO.nil _ _, Below.refl _ _⟩
  case round =>
    obtain ⟨k, hk, hm, rfl, hown, hb⟩ := hrel
    have Hm := Lib.hid hm
    clear hm
    by_cases hlt : k < n
    · obtain ⟨p, hp⟩ : ∃ p, V[k]? = some p := ⟨_, List.getElem?_eq_getElem (by rw [H0.out]; omega)⟩
      obtain ⟨wd, hwd⟩ : ∃ wd, W[k]? = some wd := ⟨_, List.getElem?_eq_getElem (by rw [H1.out]; omega)⟩
      have hwd2 := HW.out wd (List.mem_of_getElem? hwd)
      have hsn := Lib.hid (cover_snoc (f := f) (t := t) hp hwd)
      have hcl : (coverF f t ((V.zip W).take k)).length ≤ 2 * n := by rw [coverF_len]; exact HT.out k
      have HP := Lib.hid hp
      have HWD := Lib.hid (upI_get hwd)
      clear hp hwd
      generalize coverF f t ((V.zip W).take k) = C at *
      obtain ⟨wo, rfl⟩ : ∃ wo : World, wo = wr := ⟨_, rfl⟩
      go_wp2_with fail
      go_loopg [11, 9] (wd + 1) (fun m i v wr => ∃ j : Nat, j ≤ wd ∧ m = wd - j + 1 ∧ i = .int .i64 j ∧ OwnO wr w.heap.size v (C ++ List.replicate j (inB f t p)) ∧ Below w.heap.size w wr)
      case atStart => exact ⟨0, Nat.zero_le _, rfl, rfl, hown.of_eq (by simp), hb⟩
      case round =>
        clear hown hb
        obtain ⟨j, hj, hm2, rfl, hown, hb⟩ := hrel
        have Hm2 := Lib.hid hm2
        clear hm2
        have hbs := hb.size
        obtain ⟨b, o, rfl, _, hA0⟩ := (r0.below hb).addr (by rw [H0.out]; omega)
        obtain ⟨b1', o1, rfl, _, hA1⟩ := (r1.below hb).addr (by rw [K1.out]; omega)
        have f0 := hA0 k p HP.out
        have f1 := hA1 k _ HWD.out
        clear hA0 hA1
        by_cases hjw : j < wd
        · have hpl : (C ++ List.replicate j (inB f t p)).length ≤ 4294967296 := by simp; omega
          have hrep : Hid (C ++ List.replicate (j + 1) (inB f t p) = (C ++ List.replicate j (inB f t p)) ++ [inB f t p]) := Lib.hid (by rw [List.replicate_succ']; simp)
          by_cases g1 : f ≤ p
          · have d1 : decide (f ≤ p) = true := decide_eq_true g1
            by_cases g2 : p < t
            · have d2 : decide (p < t) = true := decide_eq_true g2
              have hin : Hid (inB f t p = true) := Lib.hid (by unfold inB; rw [d1, d2]; rfl)
              go_wp2_with (first
                | (at_builtin; refine wpList_pushO _ rfl (.tmp 32) (.tmp 47) rfl w.heap.size _ _ rfl (hown.alloc _) wr.heap.size true rfl (by simp) hpl (by simp; omega) ?_))
              intro v2 w2 hown2 hgrow2
              have hb2 := below_pushO hb hbs hown hgrow2
              clear hgrow2
              go_wp2_with fail
              go_roundg (wd - j)
              case measure => have := Hm2.out; omega
              case rel => exact ⟨j + 1, by omega, by omega, by go_num, hown2.of_eq (by rw [hrep.out, hin.out]; simp), hb2⟩
            · have d2 : decide (p < t) = false := decide_eq_false g2
              have hin : Hid (inB f t p = false) := Lib.hid (by unfold inB; rw [d1, d2]; rfl)
              go_wp2_with (first
                | (at_builtin; refine wpList_pushO _ rfl (.tmp 32) (.tmp 47) rfl w.heap.size _ _ rfl (hown.alloc _) wr.heap.size false rfl (by simp) hpl (by simp; omega) ?_))
              intro v2 w2 hown2 hgrow2
              have hb2 := below_pushO hb hbs hown hgrow2
              clear hgrow2
              go_wp2_with fail
              go_roundg (wd - j)
              case measure => have := Hm2.out; omega
              case rel => exact ⟨j + 1, by omega, by omega, by go_num, hown2.of_eq (by rw [hrep.out, hin.out]; simp), hb2⟩
          · have d1 : decide (f ≤ p) = false := decide_eq_false g1
            have hin : Hid (inB f t p = false) := Lib.hid (by unfold inB; rw [d1]; rfl)
            go_wp2_with (first
              | (at_builtin; refine wpList_pushO _ rfl (.tmp 32) (.tmp 47) rfl w.heap.size _ _ rfl (hown.alloc _) wr.heap.size false rfl (by simp) hpl (by simp; omega) ?_))
            intro v2 w2 hown2 hgrow2
            have hb2 := below_pushO hb hbs hown hgrow2
            clear hgrow2
            go_wp2_with fail
            go_roundg (wd - j)
            case measure => have := Hm2.out; omega
            case rel => exact ⟨j + 1, by omega, by omega, by go_num, hown2.of_eq (by rw [hrep.out, hin.out]; simp), hb2⟩
        · obtain rfl : wd = j := by omega
          go_wp2_with fail
          go_roundg (n - k)
          case measure => have := Hm.out; omega
          case rel => exact ⟨k + 1, by omega, by omega, by go_num, hown.of_eq hsn.out.symm, hb⟩
    · go_wp2_with fail
      go_ret
      exact ⟨_, rfl, hown.of_eq (by rw [List.take_of_length_le (by rw [HZ.out]; omega)]), hb⟩

set_option maxHeartbeats 1000000 in
theorem cells_any (A : Option Addr) (n c : Nat) (bs : List Bnd) (w : World) (hn : bs.length = n) (hr : RdB w A bs) (hbd : ∀ q ∈ bs, q.1 ≤ q.2 ∧ q.2 ≤ 4194304) (hsz : n ≤ 4194304) :
    Calls Try.prog 30 #[.slice A n c] w fun e w' => e = .returned (.int .i64 (cellsF bs)) ∧ Below w.heap.size w w' := by
  have HN := Lib.hid hn
  have HB := Lib.hid hbd
  clear hn hbd
  go_enter Try.func30, Try.ntmps30
  go_wp2_with fail
  go_loopg [8, 3] (n + 1) (fun m i s wr => ∃ (k : Nat) (S : Int), k ≤ n ∧ m = n - k + 1 ∧ i = .int .i64 k ∧ s = .int .i64 S ∧ Hid (S = cellsF (bs.take k)) ∧ 0 ≤ S ∧ S ≤ 4194304 * k ∧ Below w.heap.size w wr)
  case atStart => exact ⟨0, 0, Nat.zero_le _, rfl, rfl, rfl, Lib.hid rfl, Int.le_refl _, by omega, Below.refl _ _⟩
  case round =>
    obtain ⟨k, S, hk, hm, rfl, rfl, hS, hS0, hS1, hb⟩ := hrel
    have Hm := Lib.hid hm
    clear hm
    have hbs := hb.size
    by_cases hlt : k < n
    · obtain ⟨q, hq⟩ : ∃ q, bs[k]? = some q := ⟨_, List.getElem?_eq_getElem (by rw [HN.out]; exact hlt)⟩
      obtain ⟨b, rfl, _, x0, x1⟩ := (hr.below hb) k q hq
      obtain ⟨hq1, hq2⟩ := HB.out q (List.mem_of_getElem? hq)
      have hnx : Hid (cellsF (bs.take (k + 1)) = S + ((q.2 : Int) - (q.1 : Int))) := Lib.hid (by rw [take_snoc hq, cellsF_snoc, hS.out])
      obtain ⟨q1, q2⟩ := q
      simp only at x0 x1 hq1 hq2 hnx
      clear hq
      go_wp2_with fail
      go_roundg (n - k)
      case measure => have := Hm.out; omega
      case rel => exact ⟨k + 1, S + ((q2 : Int) - (q1 : Int)), by omega, by omega, by go_num, rfl, Lib.hid hnx.out.symm, by omega, by omega, hb.alloc hbs _⟩
    · have hE : Hid (S = cellsF bs) := Lib.hid (by rw [hS.out, List.take_of_length_le (by rw [HN.out]; omega)])
      go_wp2_with fail
      go_ret
      exact ⟨ret_int hE.out, hb⟩
end Go.Proofs.Ytamfjmonpbojnaa
