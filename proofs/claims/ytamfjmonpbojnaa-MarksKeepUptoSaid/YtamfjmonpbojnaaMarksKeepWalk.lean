/-
  The walk of MarksKeep.
-/
import Derived.Test.YtamfjmonpbojnaaKeepPlain
import Derived.Test.YtamfjmonpbojnaaMarksFixWalk
namespace Go.Proofs.Ytamfjmonpbojnaa
open Go.RowKit

set_option maxRecDepth 100000 in
set_option maxHeartbeats 4000000 in
theorem marksKeep_walk (A1 : Option Addr) (n1 c1 : Nat) (ls : List Int) (A2 : Option Addr) (n2 c2 : Nat) (ns : List Int) (A3 : Option Addr) (n3 c3 : Nat) (ws : List Int) (w : World)
    (h1 : ls.length = n1) (h2 : ns.length = n2) (h3 : ws.length = n3) (r1 : RdI .u8 w A1 ls) (r2 : RdI .u8 w A2 ns) (r3 : RdI .u8 w A3 ws)
    (z1 : Bytes ls) (z2 : Bytes ns) (z3 : Bytes ws) (b1 : n1 ≤ 1048576) (b2 : n2 ≤ 1048576) (b3 : n3 ≤ 1048576) :
    Calls Try.prog 21 #[.slice A1 n1 c1, .slice A2 n2 c2, .slice A3 n3 c3] w fun e w' => e = .returned (.bool true) ∧ Below w.heap.size w w' := by
  obtain ⟨N, hN⟩ : ∃ N, N = min (min n1 n2) n3 := ⟨_, rfl⟩
  have hmin := min3_run n1 n2 n3 N hN
  have hN1 : N ≤ n1 := by omega
  have hN2 : N ≤ n2 := by omega
  have hN3 : N ≤ n3 := by omega
  have H1 := Lib.hid h1
  have H2 := Lib.hid h2
  have H3 := Lib.hid h3
  have K1 : Hid (((levelsF ls).take N).length = N) := Lib.hid (by simp [len_levels]; omega)
  have K2 : Hid (((classesF ns).take N).length = N) := Lib.hid (by simp [len_classes]; omega)
  have K3 : Hid (((widthsF ws).take N).length = N) := Lib.hid (by simp [len_widths]; omega)
  have hbd : ∀ x ∈ (levelsF ls).take N, -1 ≤ x ∧ x ≤ 5 := fun x hx => levels_bd ls z1 x (List.mem_of_mem_take hx)
  have hmk := run_make_row' (P := Try.prog) 24 3 (.int .i64 0) 8 Try.underlying24 info3 rfl .i64 .i64 N (by omega) (by omega)
  clear h1 h2 h3 hN
  go_enter Try.func21, Try.ntmps21
  go_wp2_with fail
  refine (awake26_any _).mono ?_
  rintro e w1 ⟨rfl, hb1⟩
  go_wp2_with fail
  refine (levels_any _ n1 _ ls _ H1.out (r1.below hb1) z1 (by omega)).mono ?_
  rintro e w2 ⟨v, rfl, hown, hb2⟩
  have bb2 := hb1.trans (hb2.mono hb1.size)
  obtain ⟨Al, cl, rfl, hcl, dl⟩ := hown.open_
  rw [len_levels, H1.out] at hcl ⊢
  clear hown hb1 hb2
  go_wp2_with fail
  refine (classes_any _ n2 _ ns _ H2.out (r2.below bb2) z2 (by omega)).mono ?_
  rintro e w3 ⟨v, rfl, hown, hb3⟩
  have bb3 := bb2.trans (hb3.mono bb2.size)
  obtain ⟨Ac, cc, rfl, hcc, dc⟩ := hown.open_
  rw [len_classes, H2.out] at hcc ⊢
  have dl := dl.below hb3
  clear hown hb3 bb2
  go_wp2_with fail
  refine (widths_any _ n3 _ ws _ H3.out (r3.below bb3) z3 (by omega)).mono ?_
  rintro e w4 ⟨v, rfl, hown, hb4⟩
  have bb4 := bb3.trans (hb4.mono bb3.size)
  obtain ⟨Aw, cw, rfl, hcw, dw⟩ := hown.open_
  rw [len_widths, H3.out] at hcw ⊢
  have dl := (dl.below hb4).take N
  have dc := (dc.below hb4).take N
  have dw := dw.take N
  clear hown hb4 bb3 r1 r2 r3
  generalize (levelsF ls).take N = L at *
  generalize (classesF ns).take N = C at *
  generalize (widthsF ws).take N = Wd at *
  have i1 : (0 : Int) ≤ (N : Int) := by omega
  have i2 : (N : Int) ≤ (cl : Int) := by omega
  have i3 : (N : Int) ≤ (cc : Int) := by omega
  have i4 : (N : Int) ≤ (cw : Int) := by omega
  go_wp2_with fail
  clear hmin
  refine (visual_any _ N _ L _ K1.out dl (by omega)).mono ?_
  rintro e w5 ⟨v, rfl, hown, hb5⟩
  have bb5 := bb4.trans (hb5.mono bb4.size)
  have hvl : (visualF L).length ≤ N := by have := visual_len L; rw [K1.out] at this; exact this
  have dl := dl.below hb5
  have dc := dc.below hb5
  have dw := dw.below hb5
  obtain ⟨V, hV⟩ : ∃ V, V = visualF L := ⟨_, rfl⟩
  obtain ⟨nv, hnv⟩ : ∃ nv, nv = V.length := ⟨_, rfl⟩
  rw [← hV] at hown hvl
  rw [← hnv] at hvl
  obtain ⟨Av, cv, rfl, hcv, dv⟩ := hown.open_
  rw [← hnv] at hcv ⊢
  have HNV := Lib.hid hnv.symm
  have HNV' := HNV
  have HFE : Hid (fixL (L.map fun l => 2 * l) C Wd V = V) := Lib.hid (fix_even L C Wd V)
  have HFW : Hid (fixL L C (List.replicate N 1) V = V) := Lib.hid (by rw [hV]; exact fix_wide L C N K1.out)
  have HFB : Hid (∃ out, backF (fixL L C Wd V) N = some out ∧ out.length = N) := Lib.hid (by have := fix_back L C Wd; rwa [← hV, K1.out] at this)
  have HFM : Hid (∀ p ∈ fixL L C Wd V, ∃ (q : Nat) (l : Int), p = q ∧ L[q]? = some l ∧ l ≠ -1) := Lib.hid (by rw [hV]; exact fun p hp => fix_mem hp)
  have HFL : Hid ((fixL L C Wd V).length = nv) := Lib.hid (by rw [fixL_len, HNV'.out])
  clear hown hb5 bb4 hV hnv
  have q5 := Below.refl w5.heap.size w5
  go_wp2_with fail
  go_upto_region 6 with (fail)
  go_cut [12] (fun s wy => ∃ (wx : World) (Af : Option Addr) (cf : Nat), wx = wy ∧ s = .slice Af nv cf ∧ RdI .i64 wx Af (fixL L C Wd V) ∧ Below w5.heap.size w5 wx)
  case first =>
    clear hmk
    go_region_with ((go_at_call 38; refine (fix_any _ nv _ V _ N _ L _ N _ C _ N _ Wd _ HNV.out K1.out K2.out K3.out ?_ ?_ ?_ ?_ (by omega) (by omega) (by omega) (by omega)).mono ?_; exact dv.below (below_drew q5); exact dl.below (below_drew q5); exact dc.below (below_drew q5); exact dw.below (below_drew q5); rintro e w7 ⟨v7, rfl, hown7, hb7⟩))
    all_goals
      obtain ⟨Af, cf, rfl, _, df⟩ := hown7.open_
      rw [HFL.out]
      go_wp2_with fail
      go_meet
      exact ⟨_, Af, cf, rfl, rfl, df, (below_drew q5).trans hb7⟩
  case rest =>
    obtain ⟨wx, Af, cf, rfl, rfl, df, hbx⟩ := hcut
    have dl := dl.below hbx
    have dc := dc.below hbx
    have dw := dw.below hbx
    have dv := dv.below hbx
    have bbx := bb5.trans (hbx.mono bb5.size)
    clear q5 hbx bb5
    go_wp2_with fail
    refine (back_any _ nv _ (fixL L C Wd V) _ N _ _ HFL.out df (by omega) (by omega)).mono ?_
    rintro e w8 ⟨v8, b8, rfl, hcase, hb8⟩
    obtain rfl : b8 = true := by
      rcases hcase with ⟨h, _⟩ | ⟨_, _, h, _⟩
      · obtain ⟨o, h', _⟩ := HFB.out
        rw [h] at h'
        cases h'
      · exact h
    clear hcase HFB
    have dl := dl.below hb8
    have dc := dc.below hb8
    have dw := dw.below hb8
    have dv := dv.below hb8
    have df := df.below hb8
    have bb8 := bbx.trans (hb8.mono bbx.size)
    clear hb8 bbx
    generalize fixL L C Wd V = F at *
    go_wp2_with fail
    go_upto_region 8 with (fail)
    go_cut [15, 16] (fun s1 s2 wy => ∃ (wx : World) (g1 g2 : Nat), wx = wy ∧ s1 = .slice (some ⟨g1, 0, none⟩) N N ∧ s2 = .slice (some ⟨g2, 0, none⟩) N N ∧ w8.heap.size ≤ g1 ∧ w8.heap.size ≤ g2 ∧ g1 ≠ g2 ∧
      wx.rowIs g1 3 N (fun _ => .int .i64 0) ∧ wx.rowIs g2 3 N (fun _ => .int .i64 0) ∧ Below w8.heap.size w8 wx)
    case first =>
      go_region
      all_goals
        go_wp2_with fail
        go_meet
        have r1 := (World.rowIs_made w8 (.int .i64 0) N 3).alloc (.cells (madeCells #[.int .i64 0] N) 3)
        have r2 := World.rowIs_made (w8.alloc (.cells (madeCells #[.int .i64 0] N) 3)) (.int .i64 0) N 3
        rw [World.size_alloc] at r2
        have hb24 : Below w8.heap.size w8 ((w8.alloc (.cells (madeCells #[.int .i64 0] N) 3)).alloc (.cells (madeCells #[.int .i64 0] N) 3)).drew := below_drew (((Below.refl _ _).alloc (Nat.le_refl _) _).alloc (by simp) _)
        first
          | exact ⟨_, w8.heap.size, w8.heap.size + 1, rfl, rfl, rfl, by omega, by omega, by omega, r1, r2, hb24⟩
          | exact ⟨_, w8.heap.size + 1, w8.heap.size, rfl, rfl, rfl, by omega, by omega, by omega, r2, r1, hb24⟩
    case rest =>
      obtain ⟨wy, g1, g2, rfl, rfl, rfl, hg1, hg2, hne, hW, hE, hb9⟩ := hcut
      go_wp2_with fail
      clear hmk
      go_loopg [63] (N + 1) (fun m i wr => ∃ k : Nat, k ≤ N ∧ m = N - k + 1 ∧ i = .int .i64 k ∧ wr.rowIs g1 3 N (fun j => .int .i64 (if j < k then 1 else 0)) ∧
          wr.rowIs g2 3 N (fun j => .int .i64 (if j < k then 2 * L.getD j 0 else 0)) ∧ Below w8.heap.size w8 wr)
      case atStart => exact ⟨0, Nat.zero_le _, rfl, rfl, hW.congr (fun i _ => rfl), hE.congr (fun i _ => rfl), hb9⟩
      case round =>
        clear hW hE hb9
        obtain ⟨k, hk, hm, rfl, hB, hC, hb⟩ := hrel
        have Hm := Lib.hid hm
        clear hm
        by_cases hlt : k < N
        · obtain ⟨b, o, l, rfl, hx, hc⟩ := (dl.below hb).at_ (k := k) (by rw [K1.out]; exact hlt)
          have hlb := hbd l (List.mem_of_getElem? hx.out)
          have Hg : Hid (L.getD k 0 = l) := Lib.hid (by rw [List.getD_eq_getElem?_getD, hx.out]; rfl)
          have hbs := hb.size
          have hblt : b < w8.heap.size := by
            obtain ⟨b', o', e', h', _⟩ := dl.addr (by rw [K1.out]; omega)
            injection e' with e'
            injection e' with e1 e2
            subst e1
            exact h'
          have nb1 : b ≠ g1 := by omega
          have nb2 : b ≠ g2 := by omega
          have cB := hB.cell hlt
          have fB := hB.frozen k
          have cC := hC.cell hlt
          have fC := hC.frozen k
          have HB := Lib.hid ((hB.set k (.int .i64 1)).setOther (a := ⟨g2, k, none⟩) (by first | exact hne | exact hne.symm) (.int .i64 (2 * l)))
          have HC := Lib.hid ((hC.setOther (a := ⟨g1, k, none⟩) (by first | exact hne | exact hne.symm) (.int .i64 1)).set k (.int .i64 (2 * l)))
          clear hB hC
          go_wp2_with fail
          go_roundg (N - k)
          case measure => have := Hm.out; omega
          case rel =>
            refine ⟨k + 1, by omega, by omega, by go_num, HB.out.congr (fun i _ => ?_), HC.out.congr (fun i _ => ?_), (hb.setCell hg1 _).setCell hg2 _⟩
            · by_cases hik : i = k
              · subst hik; rw [if_pos rfl, if_pos (by omega)]
              · rw [if_neg hik]; by_cases h2 : i < k
                · rw [if_pos h2, if_pos (by omega)]
                · rw [if_neg h2, if_neg (by omega)]
            · by_cases hik : i = k
              · subst hik; rw [if_pos rfl, if_pos (by omega), Hg.out]
              · rw [if_neg hik]; by_cases h2 : i < k
                · rw [if_pos h2, if_pos (by omega)]
                · rw [if_neg h2, if_neg (by omega)]
        · obtain rfl : N = k := by omega
          have oW : Own wr w8.heap.size (.slice (some ⟨g1, 0, none⟩) N N) (List.replicate N 1) :=
            own_row_eq hB hg1 (by omega) (by simp) (fun j hj => by rw [if_pos hj, List.getElem?_replicate, if_pos hj])
          have oE : Own wr w8.heap.size (.slice (some ⟨g2, 0, none⟩) N N) (L.map fun l => 2 * l) :=
            own_row_eq hC hg2 (by omega) (by rw [List.length_map, K1.out]) (fun j hj => by
              rw [if_pos hj, List.getElem?_map, List.getD_eq_getElem?_getD, List.getElem?_eq_getElem (by rw [K1.out]; exact hj)]; rfl)
          have dW := oW.rd
          have dE := oE.rd
          have dl := dl.below hb
          have dc := dc.below hb
          have dw := dw.below hb
          have dv := dv.below hb
          have df := df.below hb
          have bb9 := bb8.trans (hb.mono bb8.size)
          have K4 : Hid ((List.replicate N (1 : Int)).length = N) := Lib.hid (by simp)
          have K5 : Hid ((L.map fun l => 2 * l).length = N) := Lib.hid (by rw [List.length_map, K1.out])
          have q9 := Below.refl wr.heap.size wr
          obtain ⟨wo, rfl⟩ : ∃ wo : World, wo = wr := ⟨_, rfl⟩
          have KS : ∀ (w' : World) (A : Option Addr) (c : Nat), Below wo.heap.size wo w' → RdI .i64 w' A V → Calls Try.prog 37 #[.slice A nv c, .slice Av nv cv] w' fun e w'' => e = .returned (.bool true) ∧ Below wo.heap.size wo w'' := fun w' A c h hd =>
            (same_any A nv c V Av nv cv V w' HNV.out HNV.out hd (dv.below h) (by omega)).mono fun e w'' ⟨e1, e2⟩ => ⟨by rw [e1, sameB_self], h.trans (e2.mono h.size)⟩
          have K1' : ∀ (w' : World), Below wo.heap.size wo w' → Calls Try.prog 38 #[.slice Av nv cv, .slice (some ⟨g2, 0, none⟩) N N, .slice Ac N cc, .slice Aw N cw] w' fun e w'' => ∃ A c, e = .returned (.slice A nv c) ∧ RdI .i64 w'' A V ∧ Below wo.heap.size wo w'' := fun w' h =>
            (fix_any Av nv cv V (some ⟨g2, 0, none⟩) N N (L.map fun l => 2 * l) Ac N cc C Aw N cw Wd w' HNV.out K5.out K2.out K3.out (dv.below h) (dE.below h) (dc.below h) (dw.below h) (by omega) (by omega) (by omega) (by omega)).mono fun e w'' ⟨v, e1, e2, e3⟩ => by
              rw [HFE.out] at e2
              obtain ⟨A, c, rfl, _, d⟩ := e2.open_
              rw [HNV.out] at e1
              exact ⟨A, c, e1, d, h.trans (e3.mono h.size)⟩
          have K2' : ∀ (w' : World), Below wo.heap.size wo w' → Calls Try.prog 38 #[.slice Av nv cv, .slice Al N cl, .slice Ac N cc, .slice (some ⟨g1, 0, none⟩) N N] w' fun e w'' => ∃ A c, e = .returned (.slice A nv c) ∧ RdI .i64 w'' A V ∧ Below wo.heap.size wo w'' := fun w' h =>
            (fix_any Av nv cv V Al N cl L Ac N cc C (some ⟨g1, 0, none⟩) N N (List.replicate N 1) w' HNV.out K1.out K2.out K4.out (dv.below h) (dl.below h) (dc.below h) (dW.below h) (by omega) (by omega) (by omega) (by omega)).mono fun e w'' ⟨v, e1, e2, e3⟩ => by
              rw [HFW.out] at e2
              obtain ⟨A, c, rfl, _, d⟩ := e2.open_
              rw [HNV.out] at e1
              exact ⟨A, c, e1, d, h.trans (e3.mono h.size)⟩
          have HKS := Lib.hid KS
          have HK1 := Lib.hid K1'
          have HK2 := Lib.hid K2'
          clear KS K1' K2'
          clear hB hC oW oE dc dw dv dW dE hb bb8
          go_wp2_with fail
          go_upto_region 15 with (fail)
          go_cut [89] (fun s wy => s = .bool false ∧ Below wo.heap.size wo wy)
          case first =>
            go_region_held3 (fun _ => True) (trivial) (first
              | (go_at_call 38; refine (HK1.out _ ?_).mono ?_; (first | assumption | exact below_drew q9); rintro e w12 ⟨A12, c12, rfl, d12, bW12⟩)
              | (go_at_call 37; refine (HKS.out _ _ _ ?_ ?_).mono ?_; assumption; assumption; rintro e w13 ⟨rfl, bW13⟩))
            all_goals
              go_wp2_with fail
              go_meet
              exact ⟨rfl, bW13⟩
          case rest =>
            obtain ⟨rfl, hbc⟩ := hcut
            have bb10 := bb9.trans (hbc.mono bb9.size)
            obtain ⟨wz, rfl⟩ : ∃ wz : World, wz = wc := ⟨_, rfl⟩
            go_wp2_with fail
            go_loop [18] (fun i => ∃ k : Nat, k ≤ nv ∧ i = .int .i64 k) (fun i => nv - (intOf i).toNat)
            case atStart => exact ⟨0, Nat.zero_le _, rfl⟩
            case round =>
              obtain ⟨k, hk, rfl⟩ := hrel
              by_cases hlt2 : k < nv
              · obtain ⟨b, o, p, rfl, hx, hc⟩ := (df.below hbc).at_ (k := k) (by rw [HFL.out]; exact hlt2)
                obtain ⟨q, l, rfl, hq, hl⟩ := HFM.out p (List.mem_of_getElem? hx.out)
                have hqN : q < N := by have := (List.getElem?_eq_some_iff.1 hq).1; rwa [K1.out] at this
                obtain ⟨b', o', rfl, _, hA⟩ := (dl.below hbc).addr (by rw [K1.out]; omega)
                have hc2 := hA q l hq
                have d1 : (l == -1) = false := by simp [hl]
                clear hA hq hl
                go_wp2_with fail
                go_round
                case rel => exact ⟨k + 1, by omega, by go_num⟩
                case measure => simp [intOf]; omega
              · have g0 : ((nv : Int) == nv) = true := by simp
                go_wp2_with fail
                go_region_held3 (fun _ => True) (trivial) (first
                  | (go_at_call 38; refine (HK2.out _ ?_).mono ?_; (first | assumption | exact below_drew hbc | exact below_drew (below_drew hbc)); rintro e w12 ⟨A12, c12, rfl, d12, bW12⟩)
                  | (go_at_call 37; refine (HKS.out _ _ _ ?_ ?_).mono ?_; assumption; assumption; rintro e w13 ⟨rfl, bW13⟩))
                all_goals
                  go_wp2_with fail
                  go_ret
                  exact ⟨rfl, bb9.trans (bW13.mono bb9.size)⟩
end Go.Proofs.Ytamfjmonpbojnaa
