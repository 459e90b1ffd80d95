/-
  para.Split: its contract.
-/
import Derived.Test.YtkdgkjodllgalaaParaRow
namespace Go.Proofs.Ytkdgkjodllgalaa
open Go.RowKit

theorem below_pushP {W w w1 : World} {B : Nat} {o : Obj} {v : Value} {ps : List Par} (hb : Below B W w) (hB : B ≤ w.heap.size) (hown : OwnP w B v ps) (hg : (w.alloc o).grownBy w1 v.ownBlock) : Below B W w1 :=
  (hb.alloc hB o).grown hg (by simp; omega) hown.ge
theorem zip_at {rs cs : List Int} {k : Nat} (h : k < (rs.zip cs).length) : ∃ r c, Hid (rs[k]? = some r) ∧ Hid (cs[k]? = some c) ∧ Hid ((rs.zip cs).drop k = (r, c) :: (rs.zip cs).drop (k + 1)) := by
  have hl : k < rs.length ∧ k < cs.length := by simp at h; omega
  refine ⟨rs[k], cs[k], Lib.hid (List.getElem?_eq_getElem hl.1), Lib.hid (List.getElem?_eq_getElem hl.2), Lib.hid ?_⟩
  rw [List.drop_eq_getElem_cons h, List.getElem_zip]

def SplitRel (rs cs : List Int) (B n : Nat) (W : World) (m : Nat) (v f i : Value) (wr : World) : Prop :=
  ∃ (k j : Nat) (ps : List Par), k ≤ n ∧ j ≤ k ∧ m = n - k + 1 ∧ ps.length ≤ k ∧ i = .int .i64 k ∧ f = .int .i64 j ∧ Hid (splitF (rs.zip cs) 0 0 = ps ++ splitF ((rs.zip cs).drop k) k j) ∧ OwnP wr B v ps ∧ Below B W wr

set_option maxHeartbeats 2000000 in
theorem split_any (A0 : Option Addr) (n0 c0 : Nat) (rs : List Int) (A1 : Option Addr) (n1 c1 : Nat) (cs : List Int) (w : World) (hn0 : rs.length = n0) (hn1 : cs.length = n1) (hr0 : RdI .i32 w A0 rs) (hr1 : RdI .u8 w A1 cs) (hz0 : n0 ≤ 4194304) (hz1 : n1 ≤ 4194304) :
    Calls Try.prog 19 #[.slice A0 n0 c0, .slice A1 n1 c1] w fun e w' => ∃ v, e = .returned v ∧ OwnP w' w.heap.size v (splitF (rs.zip cs) 0 0) ∧ Below w.heap.size w w' := by
  obtain ⟨n, hn⟩ : ∃ n, (rs.zip cs).length = n := ⟨_, rfl⟩
  have hmin : n = min n0 n1 := by rw [← hn, List.length_zip, hn0, hn1]
  have HN := Lib.hid hn
  have hsz : n ≤ 4194304 := by omega
  clear hn hn0 hn1
  go_enter Try.func19, Try.ntmps19
  have hcase : n0 < n1 ∨ n0 = n1 ∨ n1 < n0 := by omega
  rcases hcase with h | h | h
  · obtain rfl : n0 = n := by omega
    clear hmin
    go_wp2_with fail
    go_loopg [5, 7, 8] (n0 + 1) (fun m v f i wr => SplitRel rs cs w.heap.size n0 w m v f i wr)
    case atStart => exact ⟨0, 0, [], Nat.zero_le _, Nat.le_refl _, rfl, Nat.le_refl _, rfl, rfl, Lib.hid rfl, OwnP.nil _ _, Below.refl _ _⟩
    case round =>
      obtain ⟨k, j, ps, hk, hj, hm, hp, rfl, rfl, he, hown, hb⟩ := hrel
      have Hm := Lib.hid hm
      clear hm
      have hbs := hb.size
      by_cases hlt : k < n0
      · obtain ⟨r, c, hr, hc, hd⟩ := zip_at (rs := rs) (cs := cs) (k := k) (by rw [HN.out]; exact hlt)
        obtain ⟨b0, o0, e0, _, q0⟩ := (hr0.below hb).addr (by have := (List.getElem?_eq_some_iff.1 hr.out).1; omega)
        obtain ⟨b1, o1, e1, _, q1⟩ := (hr1.below hb).addr (by have := (List.getElem?_eq_some_iff.1 hc.out).1; omega)
        subst e0
        subst e1
        have f0 := q0 k r hr.out
        have f1 := q1 k c hc.out
        by_cases hc10 : c = 10
        · have C10 := Lib.hid hc10
          have d1 : (c != 10) = false := by simp [hc10]
          clear hc10 q1 hr0 hr1
          have hsplit : (r = 13 ∧ k + 1 < n0 ∧ ∃ c2, Hid ((rs.zip cs).drop (k + 1) = (10, c2) :: (rs.zip cs).drop (k + 2)) ∧ Hid (rs[k + 1]? = some 10)) ∨ (r ≠ 13 ∨ r = 13 ∧ (¬ k + 1 < n0 ∨ k + 1 < n0 ∧ ∃ r2, r2 ≠ 10 ∧ Hid (rs[k + 1]? = some r2))) ∧ Hid (¬ (r = 13 ∧ (((rs.zip cs).drop (k + 1)).head?.map (·.1)) = some 10)) := by
            by_cases h13 : r = 13
            · by_cases hk1 : k + 1 < n0
              · obtain ⟨r2, c2, g1, g2, g3⟩ := zip_at (rs := rs) (cs := cs) (k := k + 1) (by rw [HN.out]; exact hk1)
                by_cases h10 : r2 = 10
                · subst h10; exact .inl ⟨h13, hk1, c2, g3, g1⟩
                · exact .inr ⟨.inr ⟨h13, .inr ⟨hk1, r2, h10, g1⟩⟩, Lib.hid (by rw [g3.out]; simp [h10])⟩
              · exact .inr ⟨.inr ⟨h13, .inl hk1⟩, Lib.hid (by rw [List.drop_of_length_le (by rw [HN.out]; omega)]; simp)⟩
            · exact .inr ⟨.inl h13, Lib.hid (by simp [h13])⟩
          rcases hsplit with ⟨h13, hk1, c2, hd2, g2⟩ | ⟨hkind, hnot⟩
          · have R13 := Lib.hid h13
            have d2 : (r == 13) = true := by simp [h13]
            have f2 := q0 (k + 1) 10 g2.out
            have d3 : decide ((k : Int) + 1 < (n0 : Int)) = true := decide_eq_true (by omega)
            clear h13 q0
            go_wp2_with (first
              | (at_builtin; refine wpList_pushP _ rfl _ _ rfl w.heap.size _ _ rfl (hown.alloc _) wr.heap.size ((j : Int), (k : Int) + 1 + 1, 2) rfl (heap_alloc_new wr _) (by omega) (by simp; omega) ?_))
            intro v' w1 hown' hgrow
            go_wp2_with fail
            go_roundg (n0 - k - 1)
            case measure => have := Hm.out; omega
            case rel => exact ⟨k + 2, k + 2, ps ++ [_], by omega, Nat.le_refl _, by omega, by simp; omega, by go_num, by go_num, Lib.hid (by rw [he.out, hd.out, hd2.out, R13.out, C10.out, splitF_two]; simp; omega), hown', below_pushP hb hb.size hown hgrow⟩
          · have go1 : ∀ {v0 v' : Value} {w1 : World}, OwnP wr w.heap.size v0 ps → OwnP w1 w.heap.size v' (ps ++ [((j : Int), (k : Int) + 1, 1)]) → (wr.alloc (.cells #[.int .i64 (j : Int), .int .i64 ((k : Int) + 1), .int .i64 1] 35)).grownBy w1 v0.ownBlock → SplitRel rs cs w.heap.size n0 w (n0 - k) v' (.int .i64 ((k : Int) + 1)) (.int .i64 ((k : Int) + 1)) w1 := by
              intro v0 v' w1 hown hown' hgrow
              exact ⟨k + 1, k + 1, ps ++ [((j : Int), (k : Int) + 1, 1)], by omega, Nat.le_refl _, by omega, by simp; omega, by go_num, by go_num, Lib.hid (by rw [he.out, hd.out, C10.out, splitF_one hnot.out]; simp), hown', below_pushP hb hb.size hown hgrow⟩
            rcases hkind with h13 | ⟨h13, hk1 | ⟨hk1, r2, h10, g2⟩⟩
            · have d2 : (r == 13) = false := beq_eq_false_iff_ne.2 h13
              clear q0 h13
              go_wp2_with (first
                | (at_builtin; refine wpList_pushP _ rfl _ _ rfl w.heap.size _ _ rfl (hown.alloc _) wr.heap.size ((j : Int), (k : Int) + 1, 1) rfl (heap_alloc_new wr _) (by omega) (by simp; omega) ?_))
              intro v' w1 hown' hgrow
              go_wp2_with fail
              go_roundg (n0 - k)
              · exact go1 hown hown' hgrow
              · have := Hm.out; omega
            · have d2 : (r == 13) = true := by simp [h13]
              have d3 : decide ((k : Int) + 1 < (n0 : Int)) = false := decide_eq_false (by omega)
              clear q0 h13
              go_wp2_with (first
                | (at_builtin; refine wpList_pushP _ rfl _ _ rfl w.heap.size _ _ rfl (hown.alloc _) wr.heap.size ((j : Int), (k : Int) + 1, 1) rfl (heap_alloc_new wr _) (by omega) (by simp; omega) ?_))
              intro v' w1 hown' hgrow
              go_wp2_with fail
              go_roundg (n0 - k)
              · exact go1 hown hown' hgrow
              · have := Hm.out; omega
            · have d2 : (r == 13) = true := by simp [h13]
              have d3 : decide ((k : Int) + 1 < (n0 : Int)) = true := decide_eq_true (by omega)
              have f2 := q0 (k + 1) r2 g2.out
              have d4 : (r2 == 10) = false := beq_eq_false_iff_ne.2 h10
              clear q0 h13 h10
              go_wp2_with (first
                | (at_builtin; refine wpList_pushP _ rfl _ _ rfl w.heap.size _ _ rfl (hown.alloc _) wr.heap.size ((j : Int), (k : Int) + 1, 1) rfl (heap_alloc_new wr _) (by omega) (by simp; omega) ?_))
              intro v' w1 hown' hgrow
              go_wp2_with fail
              go_roundg (n0 - k)
              · exact go1 hown hown' hgrow
              · have := Hm.out; omega
        · have C10 := Lib.hid hc10
          have d1 : (c != 10) = true := bne_iff_ne.2 hc10
          clear hc10 q0 q1 hr0 hr1
          go_wp2_with fail
          go_roundg (n0 - k)
          case measure => have := Hm.out; omega
          case rel => exact ⟨k + 1, j, ps, by omega, by omega, by omega, by omega, by go_num, rfl, Lib.hid (by rw [he.out, hd.out, splitF_no C10.out hj]), hown, hb⟩
      · have hkn : k = n0 := by omega
        subst hkn
        have hd : Hid ((rs.zip cs).drop k = []) := Lib.hid (List.drop_of_length_le (by rw [HN.out]; exact Nat.le_refl _))
        by_cases hjk : j < k
        · go_wp2_with (first
            | (at_builtin; refine wpList_pushP _ rfl _ _ rfl w.heap.size _ _ rfl (hown.alloc _) wr.heap.size ((j : Int), (k : Int), 0) rfl (heap_alloc_new wr _) (by omega) (by simp; omega) ?_))
          intro v' w1 hown' hgrow
          go_wp2_with fail
          go_ret
          exact ⟨_, rfl, by rw [he.out, hd.out, splitF_nil, if_pos hjk]; exact hown', below_pushP hb hb.size hown hgrow⟩
        · go_wp2_with fail
          go_ret
          exact ⟨_, rfl, by rw [he.out, hd.out, splitF_nil, if_neg hjk, List.append_nil]; exact hown, hb⟩
  · subst h
    obtain rfl : n0 = n := by omega
    clear hmin
    go_wp2_with fail
    go_loopg [5, 7, 8] (n0 + 1) (fun m v f i wr => SplitRel rs cs w.heap.size n0 w m v f i wr)
    case atStart => exact ⟨0, 0, [], Nat.zero_le _, Nat.le_refl _, rfl, Nat.le_refl _, rfl, rfl, Lib.hid rfl, OwnP.nil _ _, Below.refl _ _⟩
    case round =>
      obtain ⟨k, j, ps, hk, hj, hm, hp, rfl, rfl, he, hown, hb⟩ := hrel
      have Hm := Lib.hid hm
      clear hm
      have hbs := hb.size
      by_cases hlt : k < n0
      · obtain ⟨r, c, hr, hc, hd⟩ := zip_at (rs := rs) (cs := cs) (k := k) (by rw [HN.out]; exact hlt)
        obtain ⟨b0, o0, e0, _, q0⟩ := (hr0.below hb).addr (by have := (List.getElem?_eq_some_iff.1 hr.out).1; omega)
        obtain ⟨b1, o1, e1, _, q1⟩ := (hr1.below hb).addr (by have := (List.getElem?_eq_some_iff.1 hc.out).1; omega)
        subst e0
        subst e1
        have f0 := q0 k r hr.out
        have f1 := q1 k c hc.out
        by_cases hc10 : c = 10
        · have C10 := Lib.hid hc10
          have d1 : (c != 10) = false := by simp [hc10]
          clear hc10 q1 hr0 hr1
          have hsplit : (r = 13 ∧ k + 1 < n0 ∧ ∃ c2, Hid ((rs.zip cs).drop (k + 1) = (10, c2) :: (rs.zip cs).drop (k + 2)) ∧ Hid (rs[k + 1]? = some 10)) ∨ (r ≠ 13 ∨ r = 13 ∧ (¬ k + 1 < n0 ∨ k + 1 < n0 ∧ ∃ r2, r2 ≠ 10 ∧ Hid (rs[k + 1]? = some r2))) ∧ Hid (¬ (r = 13 ∧ (((rs.zip cs).drop (k + 1)).head?.map (·.1)) = some 10)) := by
            by_cases h13 : r = 13
            · by_cases hk1 : k + 1 < n0
              · obtain ⟨r2, c2, g1, g2, g3⟩ := zip_at (rs := rs) (cs := cs) (k := k + 1) (by rw [HN.out]; exact hk1)
                by_cases h10 : r2 = 10
                · subst h10; exact .inl ⟨h13, hk1, c2, g3, g1⟩
                · exact .inr ⟨.inr ⟨h13, .inr ⟨hk1, r2, h10, g1⟩⟩, Lib.hid (by rw [g3.out]; simp [h10])⟩
              · exact .inr ⟨.inr ⟨h13, .inl hk1⟩, Lib.hid (by rw [List.drop_of_length_le (by rw [HN.out]; omega)]; simp)⟩
            · exact .inr ⟨.inl h13, Lib.hid (by simp [h13])⟩
          rcases hsplit with ⟨h13, hk1, c2, hd2, g2⟩ | ⟨hkind, hnot⟩
          · have R13 := Lib.hid h13
            have d2 : (r == 13) = true := by simp [h13]
            have f2 := q0 (k + 1) 10 g2.out
            have d3 : decide ((k : Int) + 1 < (n0 : Int)) = true := decide_eq_true (by omega)
            clear h13 q0
            go_wp2_with (first
              | (at_builtin; refine wpList_pushP _ rfl _ _ rfl w.heap.size _ _ rfl (hown.alloc _) wr.heap.size ((j : Int), (k : Int) + 1 + 1, 2) rfl (heap_alloc_new wr _) (by omega) (by simp; omega) ?_))
            intro v' w1 hown' hgrow
            go_wp2_with fail
            go_roundg (n0 - k - 1)
            case measure => have := Hm.out; omega
            case rel => exact ⟨k + 2, k + 2, ps ++ [_], by omega, Nat.le_refl _, by omega, by simp; omega, by go_num, by go_num, Lib.hid (by rw [he.out, hd.out, hd2.out, R13.out, C10.out, splitF_two]; simp; omega), hown', below_pushP hb hb.size hown hgrow⟩
          · have go1 : ∀ {v0 v' : Value} {w1 : World}, OwnP wr w.heap.size v0 ps → OwnP w1 w.heap.size v' (ps ++ [((j : Int), (k : Int) + 1, 1)]) → (wr.alloc (.cells #[.int .i64 (j : Int), .int .i64 ((k : Int) + 1), .int .i64 1] 35)).grownBy w1 v0.ownBlock → SplitRel rs cs w.heap.size n0 w (n0 - k) v' (.int .i64 ((k : Int) + 1)) (.int .i64 ((k : Int) + 1)) w1 := by
              intro v0 v' w1 hown hown' hgrow
              exact ⟨k + 1, k + 1, ps ++ [((j : Int), (k : Int) + 1, 1)], by omega, Nat.le_refl _, by omega, by simp; omega, by go_num, by go_num, Lib.hid (by rw [he.out, hd.out, C10.out, splitF_one hnot.out]; simp), hown', below_pushP hb hb.size hown hgrow⟩
            rcases hkind with h13 | ⟨h13, hk1 | ⟨hk1, r2, h10, g2⟩⟩
            · have d2 : (r == 13) = false := beq_eq_false_iff_ne.2 h13
              clear q0 h13
              go_wp2_with (first
                | (at_builtin; refine wpList_pushP _ rfl _ _ rfl w.heap.size _ _ rfl (hown.alloc _) wr.heap.size ((j : Int), (k : Int) + 1, 1) rfl (heap_alloc_new wr _) (by omega) (by simp; omega) ?_))
              intro v' w1 hown' hgrow
              go_wp2_with fail
              go_roundg (n0 - k)
              · exact go1 hown hown' hgrow
              · have := Hm.out; omega
            · have d2 : (r == 13) = true := by simp [h13]
              have d3 : decide ((k : Int) + 1 < (n0 : Int)) = false := decide_eq_false (by omega)
              clear q0 h13
              go_wp2_with (first
                | (at_builtin; refine wpList_pushP _ rfl _ _ rfl w.heap.size _ _ rfl (hown.alloc _) wr.heap.size ((j : Int), (k : Int) + 1, 1) rfl (heap_alloc_new wr _) (by omega) (by simp; omega) ?_))
              intro v' w1 hown' hgrow
              go_wp2_with fail
              go_roundg (n0 - k)
              · exact go1 hown hown' hgrow
              · have := Hm.out; omega
            · have d2 : (r == 13) = true := by simp [h13]
              have d3 : decide ((k : Int) + 1 < (n0 : Int)) = true := decide_eq_true (by omega)
              have f2 := q0 (k + 1) r2 g2.out
              have d4 : (r2 == 10) = false := beq_eq_false_iff_ne.2 h10
              clear q0 h13 h10
              go_wp2_with (first
                | (at_builtin; refine wpList_pushP _ rfl _ _ rfl w.heap.size _ _ rfl (hown.alloc _) wr.heap.size ((j : Int), (k : Int) + 1, 1) rfl (heap_alloc_new wr _) (by omega) (by simp; omega) ?_))
              intro v' w1 hown' hgrow
              go_wp2_with fail
              go_roundg (n0 - k)
              · exact go1 hown hown' hgrow
              · have := Hm.out; omega
        · have C10 := Lib.hid hc10
          have d1 : (c != 10) = true := bne_iff_ne.2 hc10
          clear hc10 q0 q1 hr0 hr1
          go_wp2_with fail
          go_roundg (n0 - k)
          case measure => have := Hm.out; omega
          case rel => exact ⟨k + 1, j, ps, by omega, by omega, by omega, by omega, by go_num, rfl, Lib.hid (by rw [he.out, hd.out, splitF_no C10.out hj]), hown, hb⟩
      · have hkn : k = n0 := by omega
        subst hkn
        have hd : Hid ((rs.zip cs).drop k = []) := Lib.hid (List.drop_of_length_le (by rw [HN.out]; exact Nat.le_refl _))
        by_cases hjk : j < k
        · go_wp2_with (first
            | (at_builtin; refine wpList_pushP _ rfl _ _ rfl w.heap.size _ _ rfl (hown.alloc _) wr.heap.size ((j : Int), (k : Int), 0) rfl (heap_alloc_new wr _) (by omega) (by simp; omega) ?_))
          intro v' w1 hown' hgrow
          go_wp2_with fail
          go_ret
          exact ⟨_, rfl, by rw [he.out, hd.out, splitF_nil, if_pos hjk]; exact hown', below_pushP hb hb.size hown hgrow⟩
        · go_wp2_with fail
          go_ret
          exact ⟨_, rfl, by rw [he.out, hd.out, splitF_nil, if_neg hjk, List.append_nil]; exact hown, hb⟩
  · obtain rfl : n1 = n := by omega
    clear hmin
    go_wp2_with fail
    go_loopg [5, 7, 8] (n1 + 1) (fun m v f i wr => SplitRel rs cs w.heap.size n1 w m v f i wr)
    case atStart => exact ⟨0, 0, [], Nat.zero_le _, Nat.le_refl _, rfl, Nat.le_refl _, rfl, rfl, Lib.hid rfl, OwnP.nil _ _, Below.refl _ _⟩
    case round =>
      obtain ⟨k, j, ps, hk, hj, hm, hp, rfl, rfl, he, hown, hb⟩ := hrel
      have Hm := Lib.hid hm
      clear hm
      have hbs := hb.size
      by_cases hlt : k < n1
      · obtain ⟨r, c, hr, hc, hd⟩ := zip_at (rs := rs) (cs := cs) (k := k) (by rw [HN.out]; exact hlt)
        obtain ⟨b0, o0, e0, _, q0⟩ := (hr0.below hb).addr (by have := (List.getElem?_eq_some_iff.1 hr.out).1; omega)
        obtain ⟨b1, o1, e1, _, q1⟩ := (hr1.below hb).addr (by have := (List.getElem?_eq_some_iff.1 hc.out).1; omega)
        subst e0
        subst e1
        have f0 := q0 k r hr.out
        have f1 := q1 k c hc.out
        by_cases hc10 : c = 10
        · have C10 := Lib.hid hc10
          have d1 : (c != 10) = false := by simp [hc10]
          clear hc10 q1 hr0 hr1
          have hsplit : (r = 13 ∧ k + 1 < n1 ∧ ∃ c2, Hid ((rs.zip cs).drop (k + 1) = (10, c2) :: (rs.zip cs).drop (k + 2)) ∧ Hid (rs[k + 1]? = some 10)) ∨ (r ≠ 13 ∨ r = 13 ∧ (¬ k + 1 < n1 ∨ k + 1 < n1 ∧ ∃ r2, r2 ≠ 10 ∧ Hid (rs[k + 1]? = some r2))) ∧ Hid (¬ (r = 13 ∧ (((rs.zip cs).drop (k + 1)).head?.map (·.1)) = some 10)) := by
            by_cases h13 : r = 13
            · by_cases hk1 : k + 1 < n1
              · obtain ⟨r2, c2, g1, g2, g3⟩ := zip_at (rs := rs) (cs := cs) (k := k + 1) (by rw [HN.out]; exact hk1)
                by_cases h10 : r2 = 10
                · subst h10; exact .inl ⟨h13, hk1, c2, g3, g1⟩
                · exact .inr ⟨.inr ⟨h13, .inr ⟨hk1, r2, h10, g1⟩⟩, Lib.hid (by rw [g3.out]; simp [h10])⟩
              · exact .inr ⟨.inr ⟨h13, .inl hk1⟩, Lib.hid (by rw [List.drop_of_length_le (by rw [HN.out]; omega)]; simp)⟩
            · exact .inr ⟨.inl h13, Lib.hid (by simp [h13])⟩
          rcases hsplit with ⟨h13, hk1, c2, hd2, g2⟩ | ⟨hkind, hnot⟩
          · have R13 := Lib.hid h13
            have d2 : (r == 13) = true := by simp [h13]
            have f2 := q0 (k + 1) 10 g2.out
            have d3 : decide ((k : Int) + 1 < (n1 : Int)) = true := decide_eq_true (by omega)
            clear h13 q0
            go_wp2_with (first
              | (at_builtin; refine wpList_pushP _ rfl _ _ rfl w.heap.size _ _ rfl (hown.alloc _) wr.heap.size ((j : Int), (k : Int) + 1 + 1, 2) rfl (heap_alloc_new wr _) (by omega) (by simp; omega) ?_))
            intro v' w1 hown' hgrow
            go_wp2_with fail
            go_roundg (n1 - k - 1)
            case measure => have := Hm.out; omega
            case rel => exact ⟨k + 2, k + 2, ps ++ [_], by omega, Nat.le_refl _, by omega, by simp; omega, by go_num, by go_num, Lib.hid (by rw [he.out, hd.out, hd2.out, R13.out, C10.out, splitF_two]; simp; omega), hown', below_pushP hb hb.size hown hgrow⟩
          · have go1 : ∀ {v0 v' : Value} {w1 : World}, OwnP wr w.heap.size v0 ps → OwnP w1 w.heap.size v' (ps ++ [((j : Int), (k : Int) + 1, 1)]) → (wr.alloc (.cells #[.int .i64 (j : Int), .int .i64 ((k : Int) + 1), .int .i64 1] 35)).grownBy w1 v0.ownBlock → SplitRel rs cs w.heap.size n1 w (n1 - k) v' (.int .i64 ((k : Int) + 1)) (.int .i64 ((k : Int) + 1)) w1 := by
              intro v0 v' w1 hown hown' hgrow
              exact ⟨k + 1, k + 1, ps ++ [((j : Int), (k : Int) + 1, 1)], by omega, Nat.le_refl _, by omega, by simp; omega, by go_num, by go_num, Lib.hid (by rw [he.out, hd.out, C10.out, splitF_one hnot.out]; simp), hown', below_pushP hb hb.size hown hgrow⟩
            rcases hkind with h13 | ⟨h13, hk1 | ⟨hk1, r2, h10, g2⟩⟩
            · have d2 : (r == 13) = false := beq_eq_false_iff_ne.2 h13
              clear q0 h13
              go_wp2_with (first
                | (at_builtin; refine wpList_pushP _ rfl _ _ rfl w.heap.size _ _ rfl (hown.alloc _) wr.heap.size ((j : Int), (k : Int) + 1, 1) rfl (heap_alloc_new wr _) (by omega) (by simp; omega) ?_))
              intro v' w1 hown' hgrow
              go_wp2_with fail
              go_roundg (n1 - k)
              · exact go1 hown hown' hgrow
              · have := Hm.out; omega
            · have d2 : (r == 13) = true := by simp [h13]
              have d3 : decide ((k : Int) + 1 < (n1 : Int)) = false := decide_eq_false (by omega)
              clear q0 h13
              go_wp2_with (first
                | (at_builtin; refine wpList_pushP _ rfl _ _ rfl w.heap.size _ _ rfl (hown.alloc _) wr.heap.size ((j : Int), (k : Int) + 1, 1) rfl (heap_alloc_new wr _) (by omega) (by simp; omega) ?_))
              intro v' w1 hown' hgrow
              go_wp2_with fail
              go_roundg (n1 - k)
              · exact go1 hown hown' hgrow
              · have := Hm.out; omega
            · have d2 : (r == 13) = true := by simp [h13]
              have d3 : decide ((k : Int) + 1 < (n1 : Int)) = true := decide_eq_true (by omega)
              have f2 := q0 (k + 1) r2 g2.out
              have d4 : (r2 == 10) = false := beq_eq_false_iff_ne.2 h10
              clear q0 h13 h10
              go_wp2_with (first
                | (at_builtin; refine wpList_pushP _ rfl _ _ rfl w.heap.size _ _ rfl (hown.alloc _) wr.heap.size ((j : Int), (k : Int) + 1, 1) rfl (heap_alloc_new wr _) (by omega) (by simp; omega) ?_))
              intro v' w1 hown' hgrow
              go_wp2_with fail
              go_roundg (n1 - k)
              · exact go1 hown hown' hgrow
              · have := Hm.out; omega
        · have C10 := Lib.hid hc10
          have d1 : (c != 10) = true := bne_iff_ne.2 hc10
          clear hc10 q0 q1 hr0 hr1
          go_wp2_with fail
          go_roundg (n1 - k)
          case measure => have := Hm.out; omega
          case rel => exact ⟨k + 1, j, ps, by omega, by omega, by omega, by omega, by go_num, rfl, Lib.hid (by rw [he.out, hd.out, splitF_no C10.out hj]), hown, hb⟩
      · have hkn : k = n1 := by omega
        subst hkn
        have hd : Hid ((rs.zip cs).drop k = []) := Lib.hid (List.drop_of_length_le (by rw [HN.out]; exact Nat.le_refl _))
        by_cases hjk : j < k
        · go_wp2_with (first
            | (at_builtin; refine wpList_pushP _ rfl _ _ rfl w.heap.size _ _ rfl (hown.alloc _) wr.heap.size ((j : Int), (k : Int), 0) rfl (heap_alloc_new wr _) (by omega) (by simp; omega) ?_))
          intro v' w1 hown' hgrow
          go_wp2_with fail
          go_ret
          exact ⟨_, rfl, by rw [he.out, hd.out, splitF_nil, if_pos hjk]; exact hown', below_pushP hb hb.size hown hgrow⟩
        · go_wp2_with fail
          go_ret
          exact ⟨_, rfl, by rw [he.out, hd.out, splitF_nil, if_neg hjk, List.append_nil]; exact hown, hb⟩
end Go.Proofs.Ytkdgkjodllgalaa
