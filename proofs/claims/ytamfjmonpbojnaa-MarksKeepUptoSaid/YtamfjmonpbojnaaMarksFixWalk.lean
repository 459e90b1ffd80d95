/-
  The walk of MarksFix.
-/
import Derived.Test.YtamfjmonpbojnaaMarksRawWalk
import Derived.Deep.RegionWith
import Derived.Deep.RegionHeld3
namespace Go.Proofs.Ytamfjmonpbojnaa
open Go.RowKit

theorem RdI.take {K : IntKind} {w : World} {A : Option Addr} {zs : List Int} (h : RdI K w A zs) (k : Nat) : RdI K w A (zs.take k) := by
  intro j u hu
  refine h j u ?_
  rw [List.map_take, List.getElem?_take] at hu
  split at hu
  · exact hu
  · cases hu

set_option maxRecDepth 100000 in
set_option maxHeartbeats 4000000 in
theorem marksFix_walk (A1 : Option Addr) (n1 c1 : Nat) (ls : List Int) (A2 : Option Addr) (n2 c2 : Nat) (ns : List Int) (A3 : Option Addr) (n3 c3 : Nat) (ws : List Int) (w : World)
    (h1 : ls.length = n1) (h2 : ns.length = n2) (h3 : ws.length = n3) (r1 : RdI .u8 w A1 ls) (r2 : RdI .u8 w A2 ns) (r3 : RdI .u8 w A3 ws)
    (z1 : Bytes ls) (z2 : Bytes ns) (z3 : Bytes ws) (b1 : n1 ≤ 1048576) (b2 : n2 ≤ 1048576) (b3 : n3 ≤ 1048576) :
    Calls Try.prog 19 #[.slice A1 n1 c1, .slice A2 n2 c2, .slice A3 n3 c3] w fun e w' => e = .returned (.bool true) ∧ Below w.heap.size w w' := by
  obtain ⟨N, hN⟩ : ∃ N, N = min (min n1 n2) n3 := ⟨_, rfl⟩
  have hmin := min3_run n1 n2 n3 N hN
  have hN1 : N ≤ n1 := by omega
  have hN2 : N ≤ n2 := by omega
  have hN3 : N ≤ n3 := by omega
  have H1 := Lib.hid h1
  have H2 := Lib.hid h2
  have H3 := Lib.hid h3
  have K1 : Hid (((levelsF ls).take N).length = N) := Lib.hid (by simp [len_levels]; omega)
  have K2 : Hid (((classesF ns).take N).length = N) := Lib.hid (by simp [len_classes]; omega)
  have K3 : Hid (((widthsF ws).take N).length = N) := Lib.hid (by simp [len_widths]; omega)
  clear h1 h2 h3 hN
  go_enter Try.func19, Try.ntmps19
  go_wp2_with fail
  refine (awake26_any _).mono ?_
  rintro e w1 ⟨rfl, hb1⟩
  go_wp2_with fail
  refine (levels_any _ n1 _ ls _ H1.out (r1.below hb1) z1 (by omega)).mono ?_
  rintro e w2 ⟨v, rfl, hown, hb2⟩
  have bb2 := hb1.trans (hb2.mono hb1.size)
  obtain ⟨Al, cl, rfl, hcl, dl⟩ := hown.open_
  rw [len_levels, H1.out] at hcl ⊢
  clear hown hb1 hb2
  go_wp2_with fail
  refine (classes_any _ n2 _ ns _ H2.out (r2.below bb2) z2 (by omega)).mono ?_
  rintro e w3 ⟨v, rfl, hown, hb3⟩
  have bb3 := bb2.trans (hb3.mono bb2.size)
  obtain ⟨Ac, cc, rfl, hcc, dc⟩ := hown.open_
  rw [len_classes, H2.out] at hcc ⊢
  have dl := dl.below hb3
  clear hown hb3 bb2
  go_wp2_with fail
  refine (widths_any _ n3 _ ws _ H3.out (r3.below bb3) z3 (by omega)).mono ?_
  rintro e w4 ⟨v, rfl, hown, hb4⟩
  have bb4 := bb3.trans (hb4.mono bb3.size)
  obtain ⟨Aw, cw, rfl, hcw, dw⟩ := hown.open_
  rw [len_widths, H3.out] at hcw ⊢
  have dl := (dl.below hb4).take N
  have dc := (dc.below hb4).take N
  have dw := dw.take N
  clear hown hb4 bb3 r1 r2 r3
  generalize (levelsF ls).take N = L at *
  generalize (classesF ns).take N = C at *
  generalize (widthsF ws).take N = Wd at *
  have i1 : (0 : Int) ≤ (N : Int) := by omega
  have i2 : (N : Int) ≤ (cl : Int) := by omega
  have i3 : (N : Int) ≤ (cc : Int) := by omega
  have i4 : (N : Int) ≤ (cw : Int) := by omega
  go_wp2_with fail
  clear hmin
  refine (visual_any _ N _ L _ K1.out dl (by omega)).mono ?_
  rintro e w5 ⟨v, rfl, hown, hb5⟩
  have bb5 := bb4.trans (hb5.mono bb4.size)
  have hvl : (visualF L).length ≤ N := by have := visual_len L; rw [K1.out] at this; exact this
  have dl := dl.below hb5
  have dc := dc.below hb5
  have dw := dw.below hb5
  obtain ⟨V, hV⟩ : ∃ V, V = visualF L := ⟨_, rfl⟩
  obtain ⟨nv, hnv⟩ : ∃ nv, nv = V.length := ⟨_, rfl⟩
  rw [← hV] at hown hvl
  rw [← hnv] at hvl
  obtain ⟨Av, cv, rfl, hcv, dv⟩ := hown.open_
  rw [← hnv] at hcv ⊢
  have HNV := Lib.hid hnv.symm
  clear hown hb5 bb4 hV hnv
  go_wp2_with (first
    | (at_builtin; refine wpList_catI _ rfl (.const (.slice none 0 0)) (.tmp 33) rfl w5.heap.size _ [] rfl (OwnT.nil _ _ _ _) Av nv cv V rfl HNV.out dv (by simp; omega) (Nat.le_refl _) ?_))
  intro v6 w6 hown gr
  have hb6 : Below w5.heap.size w5 w6 := below_cat (Below.refl _ _) (Nat.le_refl _) (OwnT.nil 3 .i64 w5 w5.heap.size) gr
  have bb6 := bb5.trans (hb6.mono bb5.size)
  obtain ⟨Ao, co, rfl, _, do6⟩ := hown.open_
  rw [HNV.out]
  have dl := dl.below hb6
  have dc := dc.below hb6
  have dw := dw.below hb6
  have dv := dv.below hb6
  have HFL : Hid ((fixL L C Wd V).length = nv) := Lib.hid (by rw [fixL_len, HNV.out])
  clear hown gr hb6 bb5
  have q0 := Below.refl w6.heap.size w6
  go_wp2_with fail
  go_upto_region 7 with (fail)
  go_cut [13] (fun s wy => ∃ (wx : World) (Af : Option Addr) (cf : Nat), wx = wy ∧ s = .slice Af nv cf ∧ RdI .i64 wx Af (fixL L C Wd V) ∧ Below w6.heap.size w6 wx)
  case first =>
    go_region_with ((go_at_call 38; refine (fix_any _ nv _ V _ N _ L _ N _ C _ N _ Wd _ HNV.out K1.out K2.out K3.out ?_ ?_ ?_ ?_ (by omega) (by omega) (by omega) (by omega)).mono ?_; exact dv.below (below_drew q0); exact dl.below (below_drew q0); exact dc.below (below_drew q0); exact dw.below (below_drew q0); rintro e w7 ⟨v7, rfl, hown7, hb7⟩))
    all_goals
      obtain ⟨Af, cf, rfl, _, df⟩ := hown7.open_
      rw [HFL.out]
      go_wp2_with fail
      go_meet
      exact ⟨_, Af, cf, rfl, rfl, df, (below_drew q0).trans hb7⟩
  case rest =>
    obtain ⟨wx, Af, cf, rfl, rfl, df, hbx⟩ := hcut
    have dl := dl.below hbx
    have dc := dc.below hbx
    have dw := dw.below hbx
    have dv := dv.below hbx
    have do6 := do6.below hbx
    have bbx := bb6.trans (hbx.mono bb6.size)
    have qx := Below.refl wx.heap.size wx
    clear q0 hbx
    have KW : ∀ w', Below wx.heap.size wx w' → Calls Try.prog 39 #[.slice Av nv cv, .slice Al N cl, .slice Ac N cc, .slice Aw N cw] w' fun e w'' => ∃ A c, e = .returned (.slice A nv c) ∧ RdI .i64 w'' A (fixL L C Wd V) ∧ Below wx.heap.size wx w'' := fun w' hb =>
      (want_any _ nv _ V _ N _ L _ N _ C _ N _ Wd _ HNV.out K1.out K2.out K3.out (dv.below hb) (dl.below hb) (dc.below hb) (dw.below hb) (by omega) (by omega) hcv).mono fun e w'' ⟨A, c, e1, e2, e3⟩ => ⟨A, c, e1, e2, hb.trans (e3.mono hb.size)⟩
    have KS : ∀ w', Below wx.heap.size wx w' → Calls Try.prog 37 #[.slice Av nv cv, .slice Ao nv co] w' fun e w'' => e = .returned (.bool true) ∧ Below wx.heap.size wx w'' := fun w' hb =>
      (same_any _ nv _ V _ nv _ V _ HNV.out HNV.out (dv.below hb) (do6.below hb) (by omega)).mono fun e w'' ⟨e1, e2⟩ => ⟨by rw [e1, sameB_self], hb.trans (e2.mono hb.size)⟩
    have KF : ∀ w' A c, Below wx.heap.size wx w' → RdI .i64 w' A (fixL L C Wd V) → Calls Try.prog 37 #[.slice Af nv cf, .slice A nv c] w' fun e w'' => e = .returned (.bool true) ∧ Below wx.heap.size wx w'' := fun w' A c hb hd =>
      (same_any _ nv _ (fixL L C Wd V) _ nv _ (fixL L C Wd V) _ HFL.out HFL.out (df.below hb) hd (by omega)).mono fun e w'' ⟨e1, e2⟩ => ⟨by rw [e1, sameB_self], hb.trans (e2.mono hb.size)⟩
    have HKW := Lib.hid KW
    have HKS := Lib.hid KS
    have HKF := Lib.hid KF
    clear KW KS KF dl dc dw dv do6 df
    generalize fixL L C Wd V = F at *
    go_wp2_with fail
    go_region_held3 (fun _ => True) (trivial) (first
      | (go_at_call_of 37 Av; refine (HKS.out _ ?_).mono ?_; exact below_drew qx; rintro e w11 ⟨rfl, bW11⟩)
      | (go_at_call_of 39 Av; refine (HKW.out _ ?_).mono ?_; (first | assumption | exact below_drew (by assumption)); rintro e w12 ⟨A12, c12, rfl, d12, bW12⟩)
      | (go_at_call_of 37 Af; refine (HKF.out _ _ _ ?_ ?_).mono ?_; assumption; assumption; rintro e w13 ⟨rfl, bW13⟩))
    all_goals
      go_wp2_with fail
      go_ret
      exact ⟨rfl, bbx.trans (bW13.mono bbx.size)⟩
end Go.Proofs.Ytamfjmonpbojnaa
