/-
  The contract of boustrophedonlaw26.awake; the walk of MarksRaw.
-/
import Derived.Test.YtamfjmonpbojnaaWantWalk
import Derived.Test.YtamfjmonpbojnaaOrderLaws
namespace Go.Proofs.Ytamfjmonpbojnaa
open Go.RowKit

theorem fv1 : fixL [1, 1, 1] [1, 8, 8] [1, 0, 0] [2, 1, 0] = [0, 1, 2] := by decide +kernel
theorem fv2 : fixL [2, 2, 2] [1, 8, 8] [1, 0, 0] [2, 1, 0] = [2, 1, 0] := by decide +kernel
theorem fixL_len (L C Wd vis : List Int) : (fixL L C Wd vis).length = vis.length := (fixAll_perm _ _ _ vis).length_eq
theorem len_widths (zs : List Int) : (widthsF zs).length = zs.length := by simp [widthsF]
theorem len_classes (zs : List Int) : (classesF zs).length = zs.length := by simp [classesF]

set_option maxHeartbeats 2000000 in
theorem awake26_any (w : World) :
    Calls Try.prog 35 #[] w fun e w' => e = .returned (.bool true) ∧ Below w.heap.size w w' := by
  obtain ⟨o1, ho1⟩ : ∃ o1, o1 = Obj.cells #[.int .u8 1, .int .u8 8, .int .u8 8] 60 := ⟨_, rfl⟩
  have R1 := rd_lit .u8 w #[.int .u8 1, .int .u8 8, .int .u8 8] 60 [1, 8, 8] rfl
  have R2 := rd_lit .i64 (w.alloc (.cells #[.int .u8 1, .int .u8 8, .int .u8 8] 60)) #[.int .i64 1, .int .i64 0, .int .i64 0] 3 [1, 0, 0] rfl
  have R3 := rd_lit .i64 ((w.alloc (.cells #[.int .u8 1, .int .u8 8, .int .u8 8] 60)).alloc (.cells #[.int .i64 1, .int .i64 0, .int .i64 0] 3)) #[.int .i64 2, .int .i64 1, .int .i64 0] 3 [2, 1, 0] rfl
  have R4 := rd_lit .i64 (((w.alloc (.cells #[.int .u8 1, .int .u8 8, .int .u8 8] 60)).alloc (.cells #[.int .i64 1, .int .i64 0, .int .i64 0] 3)).alloc (.cells #[.int .i64 2, .int .i64 1, .int .i64 0] 3)) #[.int .i64 1, .int .i64 1, .int .i64 1] 3 [1, 1, 1] rfl
  simp only [World.size_alloc] at R2 R3 R4
  clear ho1 o1
  go_enter Try.func35, Try.ntmps35
  go_wp2_with fail
  refine (fix_any _ 3 _ [2, 1, 0] _ 3 _ [1, 1, 1] _ 3 _ [1, 8, 8] _ 3 _ [1, 0, 0] _ rfl rfl rfl rfl (R3.alloc _) R4 (((R1.alloc _).alloc _).alloc _) ((R2.alloc _).alloc _) (by omega) (by omega) (by omega) (by omega)).mono ?_
  rintro e w1 ⟨v, rfl, hown, hb1⟩
  rw [fv1] at hown
  obtain ⟨A1, c1, rfl, _, d1⟩ := hown.open_
  have b1 : Below w.heap.size w w1 := (((((Below.refl _ _).alloc (Nat.le_refl _) _).alloc (by simp) _).alloc (by simp; omega) _).alloc (by simp; omega) _).trans (hb1.mono (by simp; omega))
  have S1 := ((((R1.alloc (.cells #[.int .i64 1, .int .i64 0, .int .i64 0] 3)).alloc (.cells #[.int .i64 2, .int .i64 1, .int .i64 0] 3)).alloc (.cells #[.int .i64 1, .int .i64 1, .int .i64 1] 3)).below hb1)
  have S2 := (((R2.alloc (.cells #[.int .i64 2, .int .i64 1, .int .i64 0] 3)).alloc (.cells #[.int .i64 1, .int .i64 1, .int .i64 1] 3)).below hb1)
  clear R1 R2 R3 R4 hown hb1
  go_wp2_with fail
  have T1 := rd_lit .i64 w1 #[.int .i64 0, .int .i64 1, .int .i64 2] 3 [0, 1, 2] rfl
  refine (same_any _ 3 _ [0, 1, 2] _ 3 _ [0, 1, 2] _ rfl rfl (d1.alloc _) T1 (by omega)).mono ?_
  rintro e w2 ⟨rfl, hb2⟩
  rw [sameB_self]
  have b12 : Below w1.heap.size w1 w2 := ((Below.refl _ _).alloc (Nat.le_refl _) _).trans (hb2.mono (by simp))
  have b2 := b1.trans (b12.mono b1.size)
  have S1 := S1.below b12
  have S2 := S2.below b12
  clear T1 d1 hb2 b1 b12
  go_wp2_with fail
  have T1 := rd_lit .i64 w2 #[.int .i64 2, .int .i64 1, .int .i64 0] 3 [2, 1, 0] rfl
  have T2 := rd_lit .i64 (w2.alloc (.cells #[.int .i64 2, .int .i64 1, .int .i64 0] 3)) #[.int .i64 2, .int .i64 2, .int .i64 2] 3 [2, 2, 2] rfl
  simp only [World.size_alloc] at T2
  refine (fix_any _ 3 _ [2, 1, 0] _ 3 _ [2, 2, 2] _ 3 _ [1, 8, 8] _ 3 _ [1, 0, 0] _ rfl rfl rfl rfl (T1.alloc _) T2 ((S1.alloc _).alloc _) ((S2.alloc _).alloc _) (by omega) (by omega) (by omega) (by omega)).mono ?_
  rintro e w3 ⟨v, rfl, hown, hb3⟩
  rw [fv2] at hown
  obtain ⟨A3, c3, rfl, _, d3⟩ := hown.open_
  have b23 : Below w2.heap.size w2 w3 := (((Below.refl _ _).alloc (Nat.le_refl _) _).alloc (by simp) _).trans (hb3.mono (by simp; omega))
  have b3 := b2.trans (b23.mono b2.size)
  clear T1 T2 S1 S2 hown hb3 b2 b23
  go_wp2_with fail
  have T1 := rd_lit .i64 w3 #[.int .i64 2, .int .i64 1, .int .i64 0] 3 [2, 1, 0] rfl
  refine (same_any _ 3 _ [2, 1, 0] _ 3 _ [2, 1, 0] _ rfl rfl (d3.alloc _) T1 (by omega)).mono ?_
  rintro e w4 ⟨rfl, hb4⟩
  rw [sameB_self]
  have b34 : Below w3.heap.size w3 w4 := ((Below.refl _ _).alloc (Nat.le_refl _) _).trans (hb4.mono (by simp))
  have b4 := b3.trans (b34.mono b3.size)
  go_wp2_with fail
  go_ret
  exact ⟨rfl, b4⟩

set_option maxHeartbeats 2000000 in
theorem marksRaw_walk (A0 : Option Addr) (n0 c0 : Nat) (vis : List Int) (A1 : Option Addr) (n1 c1 : Nat) (ls : List Int) (A2 : Option Addr) (n2 c2 : Nat) (ns : List Int) (A3 : Option Addr) (n3 c3 : Nat) (ws : List Int) (w : World)
    (h0 : vis.length = n0) (h1 : ls.length = n1) (h2 : ns.length = n2) (h3 : ws.length = n3) (r0 : RdI .i64 w A0 vis) (r1 : RdI .u8 w A1 ls) (r2 : RdI .u8 w A2 ns) (r3 : RdI .u8 w A3 ws)
    (z1 : Bytes ls) (z2 : Bytes ns) (z3 : Bytes ws) (b0 : n0 ≤ 1048576) (b1 : n1 ≤ 1048576) (b2 : n2 ≤ 1048576) (b3 : n3 ≤ 1048576) (hc0 : n0 ≤ c0) :
    Calls Try.prog 12 #[.slice A0 n0 c0, .slice A1 n1 c1, .slice A2 n2 c2, .slice A3 n3 c3] w fun e w' => e = .returned (.bool true) ∧ Below w.heap.size w w' := by
  have H0 := Lib.hid h0
  have H1 := Lib.hid h1
  have H2 := Lib.hid h2
  have H3 := Lib.hid h3
  clear h0 h1 h2 h3
  go_enter Try.func12, Try.ntmps12
  go_wp2_with fail
  refine (awake26_any _).mono ?_
  rintro e w1 ⟨rfl, hb1⟩
  go_wp2_with fail
  refine (levels_any _ n1 _ ls _ H1.out (r1.below hb1) z1 (by omega)).mono ?_
  rintro e w2 ⟨v, rfl, hown, hb2⟩
  have bb2 := hb1.trans (hb2.mono hb1.size)
  obtain ⟨Al, cl, rfl, _, dl⟩ := hown.open_
  rw [len_levels, H1.out]
  clear hown hb1 hb2
  go_wp2_with fail
  refine (classes_any _ n2 _ ns _ H2.out (r2.below bb2) z2 (by omega)).mono ?_
  rintro e w3 ⟨v, rfl, hown, hb3⟩
  have bb3 := bb2.trans (hb3.mono bb2.size)
  obtain ⟨Ac, cc, rfl, _, dc⟩ := hown.open_
  rw [len_classes, H2.out]
  have dl := dl.below hb3
  clear hown hb3 bb2
  go_wp2_with fail
  refine (widths_any _ n3 _ ws _ H3.out (r3.below bb3) z3 (by omega)).mono ?_
  rintro e w4 ⟨v, rfl, hown, hb4⟩
  have bb4 := bb3.trans (hb4.mono bb3.size)
  obtain ⟨Aw, cw, rfl, _, dw⟩ := hown.open_
  rw [len_widths, H3.out]
  have dl := dl.below hb4
  have dc := dc.below hb4
  have r0 := r0.below bb4
  have K1 : Hid ((levelsF ls).length = n1) := Lib.hid (by rw [len_levels, H1.out])
  have K2 : Hid ((classesF ns).length = n2) := Lib.hid (by rw [len_classes, H2.out])
  have K3 : Hid ((widthsF ws).length = n3) := Lib.hid (by rw [len_widths, H3.out])
  clear hown hb4 bb3 r1 r2 r3
  generalize levelsF ls = L at *
  generalize classesF ns = C at *
  generalize widthsF ws = Wd at *
  go_wp2_with fail
  refine (fix_any _ n0 _ vis _ n1 _ L _ n2 _ C _ n3 _ Wd _ H0.out K1.out K2.out K3.out r0 dl dc dw (by omega) (by omega) (by omega) (by omega)).mono ?_
  rintro e w5 ⟨v, rfl, hown, hb5⟩
  have bb5 := bb4.trans (hb5.mono bb4.size)
  obtain ⟨Af, cf, rfl, _, df⟩ := hown.open_
  have r0 := r0.below hb5
  have dl := dl.below hb5
  have dc := dc.below hb5
  have dw := dw.below hb5
  have HFL : Hid ((fixL L C Wd vis).length = n0) := Lib.hid (by rw [fixL_len, H0.out])
  rw [HFL.out]
  clear hown hb5 bb4
  go_wp2_with fail
  refine (want_any _ n0 _ vis _ n1 _ L _ n2 _ C _ n3 _ Wd _ H0.out K1.out K2.out K3.out r0 dl dc dw (by omega) (by omega) hc0).mono ?_
  rintro e w6 ⟨A6, c6, rfl, d6, hb6⟩
  have df := df.below hb6
  have bb6 := bb5.trans (hb6.mono bb5.size)
  clear hb6 bb5
  go_wp2_with fail
  refine (same_any _ n0 _ (fixL L C Wd vis) _ n0 _ (fixL L C Wd vis) _ HFL.out HFL.out df d6 (by omega)).mono ?_
  rintro e w7 ⟨rfl, hb7⟩
  rw [sameB_self]
  have bb7 := bb6.trans (hb7.mono bb6.size)
  go_wp2_with fail
  go_ret
  exact ⟨rfl, bb7⟩
end Go.Proofs.Ytamfjmonpbojnaa
