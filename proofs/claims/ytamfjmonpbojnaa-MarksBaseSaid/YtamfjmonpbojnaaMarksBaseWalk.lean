/-
  The walk of MarksBase.
-/
import Derived.Test.YtamfjmonpbojnaaBaseRows
namespace Go.Proofs.Ytamfjmonpbojnaa
open Go.RowKit

theorem rep_snoc (m : Nat) : List.replicate m (1 : Int) ++ [1] = List.replicate (m + 1) 1 := List.replicate_succ'.symm

set_option maxRecDepth 100000 in
set_option maxHeartbeats 4000000 in
theorem marksBase_walk (A : Option Addr) (n c : Nat) (ns : List Int) (w : World) (hn : ns.length = n) (hr : RdI .u8 w A ns) (hz : Bytes ns) :
    Calls Try.prog 20 #[.slice A n c] w fun e w' => e = .returned (.bool true) ∧ Below w.heap.size w w' := by
  have HN := Lib.hid hn
  clear hn
  go_enter Try.func20, Try.ntmps20
  go_wp2_with fail
  refine (awake26_any _).mono ?_
  rintro e w1 ⟨rfl, hb1⟩
  have hr1 := hr.below hb1
  clear hr
  go_wp2_with fail
  go_loopg [7, 3, 4, 5, 6] (n + 1) (fun f i vc vw vl vb wr => ∃ (k m : Nat) (C Wd Bs : List Int), k ≤ n ∧ k ≤ 30 ∧ m ≤ 4 * k ∧ f = n - k + 1 ∧ i = .int .i64 k ∧ Hid (BLine C Wd Bs m) ∧ Grow4 wr w1.heap.size vc vw vl vb C Wd (List.replicate m 1) Bs ∧ Below w1.heap.size w1 wr)
  case atStart => exact ⟨0, 0, [], [], [], Nat.zero_le _, by omega, by omega, rfl, rfl, Lib.hid BLine.nil, Grow4.nil _ _, Below.refl _ _⟩
  case round =>
    obtain ⟨k, m, C, Wd, Bs, hkn, hk30, hm4, hf, rfl, HBL, h4, hb⟩ := hrel
    have Hf := Lib.hid hf
    clear hf
    obtain ⟨Ac, cc, rfl, _, dc⟩ := h4.oc.open_
    rw [HBL.out.lc] at h4 ⊢
    by_cases hlt : k < n ∧ k < 30
    · obtain ⟨hlt, hlt30⟩ := hlt
      obtain ⟨b, o, x, rfl, hx, hc⟩ := (hr1.below hb).at_ (k := k) (by rw [HN.out]; exact hlt)
      have hxb := u8_bd hz hx
      have hHc : Hid (∀ wq, Below w1.heap.size w1 wq → wq.cell? ⟨b, o + k, none⟩ = some (.int .u8 x)) := Lib.hid (fun wq hq => by
        obtain ⟨b', o', e', hb', hA⟩ := hr1.addr (by rw [HN.out]; omega)
        injection e' with e'
        injection e' with e1 e2
        subst e1
        subst e2
        exact (hq.cell hb').trans (hA k x hx.out))
      obtain ⟨r, hrx, hr3⟩ : ∃ r : Nat, x % 4 = (r : Int) ∧ r ≤ 3 := ⟨(x % 4).toNat, by omega, by omega⟩
      have HRX := Lib.hid hrx
      have hbs := hb.size
      clear hrx hc dc
      go_wp2_with (first
        | (at_builtin; refine wpList_grow_c h4 rfl (.tmp 27) (.tmp 28) rfl rfl wr.heap.size 1 rfl (by simp) (by rw [HBL.out.lc]; omega) hbs ?_))
      intro v1 w2 h41 hb2
      have hs2 := hb2.size
      clear h4
      go_wp2_with (first
        | (at_builtin; refine wpList_grow_w h41 rfl (.tmp 30) (.tmp 31) rfl rfl w2.heap.size 1 rfl (by simp) (by rw [HBL.out.lw]; omega) (by omega) ?_))
      intro v2 w3 h42 hb3
      have hs3 := hb3.size
      clear h41
      go_wp2_with (first
        | (at_builtin; refine wpList_grow_l h42 rfl (.tmp 33) (.tmp 34) rfl rfl w3.heap.size 1 rfl (by simp) (by simp; omega) (by omega) ?_))
      intro v3 w4 h43 hb4
      have hs4 := hb4.size
      clear h42
      go_wp2_with (first
        | (at_builtin; refine wpList_grow_b h43 rfl (.tmp 36) (.tmp 38) rfl rfl w4.heap.size (m : Int) rfl (by simp) (by rw [HBL.out.lb]; omega) (by omega) ?_))
      intro v4 w5 h44 hb5
      have hs5 := hb5.size
      have hb15 : Below w1.heap.size w1 w5 := ((((hb.trans (hb2.mono (Nat.le_refl _))).trans (hb3.mono (Nat.le_refl _))).trans (hb4.mono (Nat.le_refl _))).trans (hb5.mono (Nat.le_refl _)))
      have HBL0 := Lib.hid (HBL.out.letter (m : Int))
      have HL0 : Hid ((Bs ++ [(m : Int)])[m]? = some (m : Int)) := Lib.hid (by rw [List.getElem?_append_right (by rw [HBL.out.lb]; exact Nat.le_refl _), HBL.out.lb]; simp)
      rw [rep_snoc] at h44
      clear h43 hb hb2 hb3 hb4 hb5 HBL hs2 hs3 hs4 hbs
      generalize C ++ [1] = C at *
      generalize Wd ++ [1] = Wd at *
      generalize Bs ++ [(m : Int)] = Bs at *
      go_wp2_with fail
      go_loopg [9, 3, 4, 5, 6] (r + 1) (fun f i vc vw vl vb wr => ∃ (j : Nat) (C Wd Bs : List Int), j ≤ r ∧ f = r - j + 1 ∧ i = .int .i64 j ∧ Hid (BLine C Wd Bs (m + j + 1)) ∧ Hid (Bs[m + j]? = some (m : Int)) ∧ Grow4 wr w1.heap.size vc vw vl vb C Wd (List.replicate (m + j + 1) 1) Bs ∧ Below w1.heap.size w1 wr)
      case atStart => exact ⟨0, C, Wd, Bs, Nat.zero_le _, rfl, rfl, HBL0, HL0, h44, hb15⟩
      case round =>
        clear h44 hb15 HBL0 HL0 hs5
        obtain ⟨j, C, Wd, Bs, hjr, hf2, rfl, HBL, HL, h4, hb⟩ := hrel
        have Hf2 := Lib.hid hf2
        clear hf2
        have hc := hHc.out _ hb
        have hbs := hb.size
        by_cases hjlt : j < r
        · have dj : decide ((j : Int) < x % 4) = true := decide_eq_true (by rw [HRX.out]; omega)
          go_wp2_with (first
            | (at_builtin; refine wpList_grow_c h4 rfl (.tmp 50) (.tmp 51) rfl rfl wr.heap.size 8 rfl (by simp) (by rw [HBL.out.lc]; omega) hbs ?_))
          intro v1 w2 h41 hb2
          have hs2 := hb2.size
          clear h4
          go_wp2_with (first
            | (at_builtin; refine wpList_grow_w h41 rfl (.tmp 53) (.tmp 54) rfl rfl w2.heap.size 0 rfl (by simp) (by rw [HBL.out.lw]; omega) (by omega) ?_))
          intro v2 w3 h42 hb3
          have hs3 := hb3.size
          clear h41
          go_wp2_with (first
            | (at_builtin; refine wpList_grow_l h42 rfl (.tmp 56) (.tmp 57) rfl rfl w3.heap.size 1 rfl (by simp) (by simp; omega) (by omega) ?_))
          intro v3 w4 h43 hb4
          have hs4 := hb4.size
          clear h42
          go_wp2_with (first
            | (at_builtin; refine wpList_grow_b h43 rfl (.tmp 59) (.tmp 61) rfl rfl w4.heap.size (m : Int) rfl (by simp) (by rw [HBL.out.lb]; omega) (by omega) ?_))
          intro v4 w5 h44 hb5
          have hb15 : Below w1.heap.size w1 w5 := ((((hb.trans (hb2.mono (Nat.le_refl _))).trans (hb3.mono (Nat.le_refl _))).trans (hb4.mono (Nat.le_refl _))).trans (hb5.mono (Nat.le_refl _)))
          have HBL1 := Lib.hid (HBL.out.mark HL.out)
          have HL1 : Hid ((Bs ++ [(m : Int)])[m + j + 1]? = some (m : Int)) := Lib.hid (by rw [List.getElem?_append_right (by rw [HBL.out.lb]; exact Nat.le_refl _), HBL.out.lb]; simp)
          rw [rep_snoc] at h44
          clear h43 hb hb2 hb3 hb4 hb5 HBL HL hs2 hs3 hs4
          go_wp2_with fail
          go_roundg (r - j)
          case measure => have := Hf2.out; omega
          case rel => exact ⟨j + 1, _, _, _, by omega, by omega, by go_num, HBL1, HL1, h44, hb15⟩
        · have dj : decide ((j : Int) < x % 4) = false := decide_eq_false (by rw [HRX.out]; omega)
          go_wp2_with fail
          go_roundg (n - k)
          case measure => have := Hf.out; omega
          case rel => exact ⟨k + 1, m + j + 1, _, _, _, by omega, by omega, by omega, by omega, by go_num, HBL, h4, hb⟩
    · have dg : (k < n ∧ ¬ k < 30) ∨ ¬ k < n := by omega
      clear hlt
      have hm120 : m ≤ 120 := by omega
      rcases dg with ⟨dg1, dg2⟩ | dg
      all_goals
        obtain ⟨Aw, cw, rfl, _, dw⟩ := h4.ow.open_
        obtain ⟨Al, cl, rfl, _, dl⟩ := h4.ol.open_
        obtain ⟨Ab, cb, rfl, _, db⟩ := h4.ob.open_
        rw [HBL.out.lw, HBL.out.lb, List.length_replicate]
        clear h4
        go_wp2_with fail
        refine (visual_any Al m cl (List.replicate m 1) wr (by simp) dl (by omega)).mono ?_
        rintro e w2 ⟨v, rfl, hown, hb2⟩
        have HVL : Hid ((visualF (List.replicate m 1)).length = m) := Lib.hid (by rw [visual_ones, fallL_len])
        obtain ⟨Av, cv, rfl, _, dv⟩ := hown.open_
        rw [HVL.out]
        have dc := dc.below hb2
        have dw := dw.below hb2
        have dl := dl.below hb2
        have db := db.below hb2
        have bb2 := hb.trans (hb2.mono hb.size)
        clear hown hb2 hb
        go_wp2_with fail
        refine (fix_any Av m cv (visualF (List.replicate m 1)) Al m cl (List.replicate m 1) Ac m cc C Aw m cw Wd w2 HVL.out (by simp) HBL.out.lc HBL.out.lw dv dl dc dw (by omega) (by omega) (by omega) (by omega)).mono ?_
        rintro e w3 ⟨v, rfl, hown3, hb3⟩
        have hown3 : Own w3 w2.heap.size v (baseOut C Wd m) := hown3
        obtain ⟨Ao, co, rfl, _, dO⟩ := hown3.open_
        rw [baseOut_len]
        have HO : Hid ((baseOut C Wd m).length = m) := Lib.hid (baseOut_len C Wd m)
        have HLaw : Hid (∀ (k : Nat) (p : Int), (baseOut C Wd m)[k]? = some p → ∃ q : Nat, p = q ∧ q < m ∧ ((C[q]? = some 1) ∨ (C[q]? = some 8 ∧ ∃ k' q' b, k = k' + 1 ∧ q = q' + 1 ∧ (baseOut C Wd m)[k']? = some ((q' : Nat) : Int) ∧ Bs[q']? = some b ∧ Bs[q]? = some b))) := Lib.hid fun k p h => base_law HBL.out h
        have dc := dc.below hb3
        have db := db.below hb3
        have bb3 := bb2.trans (hb3.mono bb2.size)
        clear hown3 hb3 bb2 dw dl dv
        generalize baseOut C Wd m = O at *
        obtain ⟨wo, rfl⟩ : ∃ wo : World, wo = w3 := ⟨_, rfl⟩
        go_wp2_with fail
        go_loopg [71] (m + 1) (fun f i wr => ∃ t : Nat, t ≤ m ∧ f = m - t + 1 ∧ i = .int .i64 t ∧ Below wo.heap.size wo wr)
        case atStart => exact ⟨0, Nat.zero_le _, rfl, rfl, Below.refl _ _⟩
        case round =>
          obtain ⟨t, htm, hf, rfl, hb⟩ := hrel
          have Hf3 := Lib.hid hf
          clear hf
          by_cases hlt2 : t < m
          · obtain ⟨bo, oo, rfl, _, hAo⟩ := (dO.below hb).addr (by rw [HO.out]; omega)
            obtain ⟨bc, oc, rfl, _, hAc⟩ := (dc.below hb).addr (by rw [HBL.out.lc]; omega)
            obtain ⟨bb, ob, rfl, _, hAb⟩ := (db.below hb).addr (by rw [HBL.out.lb]; omega)
            obtain ⟨p, hp⟩ : ∃ p, O[t]? = some p := ⟨_, List.getElem?_eq_getElem (by rw [HO.out]; exact hlt2)⟩
            obtain ⟨q, rfl, hq, hcase⟩ := HLaw.out t p hp
            have c1 := hAo t _ hp
            rcases hcase with hc1 | ⟨hc8, t', q', b, ht', hq', h3, h4, h5⟩
            · have c2 := hAc q _ hc1
              clear hAo hAc hAb hp hc1
              go_wp2_with fail
              go_quiet (fail)
              go_wp2_with fail
              go_roundg (m - t)
              case measure => have := Hf3.out; omega
              case rel => exact ⟨t + 1, by omega, by omega, by go_num, below_drewN hb _⟩
            · have c2 := hAc q _ hc8
              have c3 := hAo (t - 1) _ (by rw [show t - 1 = t' by omega]; exact h3)
              have c4 := hAb q' _ h4
              have c5 := hAb q _ h5
              have t1 : 1 ≤ t := by omega
              have q1 : 1 ≤ q := by omega
              have q2 : q' < m := by omega
              have d1 : ((t : Int) == 0) = false := by simp; omega
              have d2 : ((q' : Int) != (q : Int) - 1) = false := by simp; omega
              have d3 : (b != b) = false := by simp
              clear hAo hAc hAb hp hc8 h3 h4 h5 ht' hq'
              go_wp2_with fail
              go_quiet (fail)
              go_wp2_with fail
              go_roundg (m - t)
              case measure => have := Hf3.out; omega
              case rel => exact ⟨t + 1, by omega, by omega, by go_num, below_drewN hb _⟩
          · have g0 : ((m : Int) == m) = true := by simp
            go_wp2_with fail
            go_ret
            exact ⟨rfl, hb1.trans ((bb3.trans (hb.mono bb3.size)).mono hb1.size)⟩
end Go.Proofs.Ytamfjmonpbojnaa
