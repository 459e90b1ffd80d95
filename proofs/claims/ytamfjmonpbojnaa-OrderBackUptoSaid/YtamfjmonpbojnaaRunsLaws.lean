/-
  The walks of boustrophedonlaw12.awake, RunsCount and RunsEven.
-/
import Derived.Test.YtamfjmonpbojnaaRunsPlain
import Derived.Deep.QuietTactic
import Derived.BigQuiet
import Derived.WalkSmall
namespace Go.Proofs.Ytamfjmonpbojnaa
open Go.RowKit

set_option maxHeartbeats 1000000 in
theorem awake12_any (w : World) :
    Calls Try.prog 23 #[] w fun e w' => e = .returned (.bool true) ∧ Below w.heap.size w w' := by
  have E1 : runsF [0, 0, -1, 0, 1] = [[0, 1, 3], [4]] := by decide +kernel
  have R1 := rd_lit .i64 w #[.int .i64 0, .int .i64 0, .int .i64 (-1), .int .i64 0, .int .i64 1] 3 [0, 0, -1, 0, 1] rfl
  go_enter Try.func23, Try.ntmps23
  go_wp2_with fail
  refine (runs_any _ 5 _ [0, 0, -1, 0, 1] _ rfl R1 (by omega)).mono ?_
  rintro e w1 ⟨v, rfl, h2, _, hb⟩
  rw [E1] at h2
  obtain ⟨A, c, rfl, hc, hrd⟩ := h2.open_
  obtain ⟨b, o, A', c', rfl, h3, _, h4⟩ := hrd.at_ (i := 0) rfl
  obtain ⟨b1, o1, A1, c1, e1, h5, _, h6⟩ := hrd.at_ (i := 1) rfl
  injection e1 with e1
  injection e1 with e1 e2
  subst e1
  subst e2
  obtain ⟨b2, o2, rfl, _, h7⟩ := h4.addr (by simp)
  obtain ⟨b3, o3, rfl, _, h8⟩ := h6.addr (by simp)
  have f1 : w1.cell? ⟨b2, o2 + 2, none⟩ = some (.int .i64 3) := h7 2 3 rfl
  have f2 : w1.cell? ⟨b3, o3, none⟩ = some (.int .i64 4) := h8 0 4 rfl
  have f3 : w1.cell? ⟨b, o, none⟩ = some (.slice (some ⟨b2, o2, none⟩) 3 c') := h3
  have f4 : w1.cell? ⟨b, o + 1, none⟩ = some (.slice (some ⟨b3, o3, none⟩) 1 c1) := h5
  clear h3 h5 h7 h8 h4 h6 hrd h2 E1 R1
  go_wp2_with fail
  go_ret
  exact ⟨rfl, ((Below.refl _ _).alloc (Nat.le_refl _) _).trans (hb.mono (by simp))⟩

set_option maxHeartbeats 1000000 in
theorem runsCount_walk (A : Option Addr) (n c : Nat) (zs : List Int) (w : World) (hn : zs.length = n) (hr : RdI .u8 w A zs) (hz : Bytes zs) (hsz : n ≤ 1048576) :
    Calls Try.prog 5 #[.slice A n c] w fun e w' => e = .returned (.bool true) ∧ Below w.heap.size w w' := by
  have HN := Lib.hid hn
  clear hn
  go_enter Try.func5, Try.ntmps5
  go_wp2_with fail
  refine (awake12_any _).mono ?_
  rintro e w1 ⟨rfl, hb1⟩
  go_wp2_with fail
  refine (levels_any _ n _ zs _ HN.out (hr.below hb1) hz (by omega)).mono ?_
  rintro e w2 ⟨v, rfl, hown, hb2⟩
  have hb12 := hb1.trans (hb2.mono hb1.size)
  have hr2 := hr.below hb12
  obtain ⟨A1, c1, rfl, _, hs2⟩ := hown.open_
  rw [len_levels, HN.out]
  have HL : Hid ((levelsF zs).length = n) := Lib.hid (by rw [len_levels, HN.out])
  have hbd := levels_bd zs hz
  have hcnt := cnt_runsF (levelsF zs) (fun x hx => (hbd x hx).1)
  have HC := Lib.hid hcnt
  have LZ : Hid (∀ (A : Option Addr) (c : Nat) (w : World), RdI .u8 w A zs → Calls Try.prog 24 #[.slice A n c] w fun e w' => ∃ v, e = .returned v ∧ Own w' w.heap.size v (levelsF zs) ∧ Below w.heap.size w w') :=
    Lib.hid (fun A c w hr => levels_any A n c zs w HN.out hr hz (by omega))
  clear hown hb1 hb2 hr hcnt
  generalize levelsF zs = L at *
  go_wp2_with fail
  go_loop [12, 3, 4] (fun i l m => ∃ k : Nat, k ≤ n ∧ i = .int .i64 k ∧ ∃ last cnt : Int, l = .int .i64 last ∧ m = .int .i64 cnt ∧ Hid (cntTo (L.take k) = (cnt, last)) ∧ 0 ≤ cnt ∧ cnt ≤ k) (fun i _ _ => n - (intOf i).toNat)
  case atStart => exact ⟨0, Nat.zero_le _, rfl, -5, 0, rfl, rfl, Lib.hid rfl, by omega, by omega⟩
  case round =>
    obtain ⟨k, hk, rfl, last, cnt, rfl, rfl, hto, hc0, hc1⟩ := hrel
    by_cases hlt : k < n
    · obtain ⟨b, o, l, rfl, hx, hc⟩ := hs2.at_ (k := k) (by rw [HL.out]; exact hlt)
      have hstep : Hid (cntTo (L.take (k + 1)) = cntStep (cnt, last) l) := Lib.hid (by rw [take_snoc hx.out, cntTo_snoc, hto.out])
      by_cases h1 : l = -1
      · have hb1 : (l == -1) = true := by simp [h1]
        have Hs : Hid (cntTo (L.take (k + 1)) = (cnt, last)) := Lib.hid (by rw [hstep.out, cntStep, if_pos h1])
        clear h1
        go_wp2_with fail
        go_round
        case rel => exact ⟨k + 1, by omega, by go_num, last, cnt, rfl, rfl, Hs, by omega, by omega⟩
        case measure => simp [intOf]; omega
      · have hb1 : (l == -1) = false := by simp [h1]
        by_cases h2 : l = last
        · have hb2 : (l != last) = false := by simp [h2]
          have Hs : Hid (cntTo (L.take (k + 1)) = (cnt, l)) := Lib.hid (by rw [hstep.out, cntStep, if_neg h1, if_neg (by simp [h2])])
          clear h1 h2
          go_wp2_with fail
          go_round
          case rel => exact ⟨k + 1, by omega, by go_num, l, cnt, rfl, rfl, Hs, by omega, by omega⟩
          case measure => simp [intOf]; omega
        · have hb2 : (l != last) = true := by simp [h2]
          have Hs : Hid (cntTo (L.take (k + 1)) = (cnt + 1, l)) := Lib.hid (by rw [hstep.out, cntStep, if_neg h1, if_pos (by simp [h2])])
          clear h1 h2
          go_wp2_with fail
          go_round
          case rel => exact ⟨k + 1, by omega, by go_num, l, cnt + 1, rfl, rfl, Hs, by omega, by omega⟩
          case measure => simp [intOf]; omega
    · have e1 : L.take k = L := List.take_of_length_le (by rw [HL.out]; omega)
      have Hc : Hid (cnt = (runsF L).length) := Lib.hid (by have := HC.out; rw [← e1, hto.out, e1] at this; exact this)
      clear e1
      go_wp2_with fail
      refine (LZ.out _ _ _ hr2).mono ?_
      rintro e w3 ⟨v, rfl, hown, hb3⟩
      obtain ⟨A2, c2, rfl, _, hs3⟩ := hown.open_
      rw [HL.out]
      go_wp2_with fail
      refine (runs_any _ n _ L _ HL.out hs3 (by omega)).mono ?_
      rintro e w4 ⟨v, rfl, h2, hl, hb4⟩
      obtain ⟨A3, c3, rfl, _, _⟩ := h2.open_
      have hb34 := hb3.trans (hb4.mono hb3.size)
      have hbe : ((runsF L).length == cnt) = true := by rw [Hc.out]; simp
      go_wp2_with fail
      go_ret
      exact ⟨ret_bool (by simp), hb12.trans (hb34.mono hb12.size)⟩

theorem own_of_row_eq {w : World} {b n B : Nat} {f : Nat → Int} {zs : List Int} (h : w.rowIs b 3 n (fun j => .int .i64 (f j))) (hb : B ≤ b) (hn : n ≤ 4294967296) (hz : zs.length = n) (he : ∀ j, j < n → zs[j]? = some (f j)) :
    Own w B (.slice (some ⟨b, 0, none⟩) n n) zs := by
  have h2 := own_of_row h hb (by unfold maxLen; omega)
  unfold Own OwnT
  rw [hz]
  have e : zs.map (Value.int .i64) = (List.range n).map fun j => Value.int .i64 (f j) := by
    apply List.ext_getElem?
    intro j
    by_cases hj : j < n
    · simp [he j hj, hj]
    · rw [List.getElem?_eq_none (by simp; omega), List.getElem?_eq_none (by simp; omega)]
  rw [e]
  exact h2

set_option maxHeartbeats 4000000 in
set_option maxRecDepth 100000 in
theorem runsEven_walk (A : Option Addr) (n c : Nat) (zs : List Int) (d : Int) (w : World) (hn : zs.length = n) (hr : RdI .u8 w A zs) (hz : Bytes zs) (hsz : n ≤ 1048576) (hd : 0 ≤ d ∧ d ≤ 255) :
    Calls Try.prog 4 #[.slice A n c, .int .u8 d] w fun e w' => e = .returned (.bool true) ∧ Below w.heap.size w w' := by
  have HN := Lib.hid hn
  clear hn
  have hmk := run_make_row' (P := Try.prog) 24 3 (.int .i64 0) 8 Try.underlying24 info3 rfl .i64 .i64 n (by omega) (by omega)
  go_enter Try.func4, Try.ntmps4
  go_wp2_with fail
  refine (awake12_any _).mono ?_
  rintro e w1 ⟨rfl, hb1⟩
  go_wp2_with fail
  refine (levels_any _ n _ zs _ HN.out (hr.below hb1) hz (by omega)).mono ?_
  rintro e w2 ⟨v, rfl, hown, hb2⟩
  have hb12 := hb1.trans (hb2.mono hb1.size)
  obtain ⟨A1, c1, rfl, _, hs2⟩ := hown.open_
  rw [len_levels, HN.out]
  have HL : Hid ((levelsF zs).length = n) := Lib.hid (by rw [len_levels, HN.out])
  have hbd := levels_bd zs hz
  clear hown hb1 hb2 hr
  generalize levelsF zs = L at *
  go_wp2_with fail
  clear hmk
  have hrB := (World.rowIs_made w2 (.int .i64 0) n 3).alloc (.cells (madeCells #[.int .i64 0] n) 3)
  have hrC := World.rowIs_made (w2.alloc (.cells (madeCells #[.int .i64 0] n) 3)) (.int .i64 0) n 3
  have hb24 : Below w2.heap.size w2 ((w2.alloc (.cells (madeCells #[.int .i64 0] n) 3)).alloc (.cells (madeCells #[.int .i64 0] n) 3)) := ((Below.refl _ _).alloc (Nat.le_refl _) _).alloc (by simp) _
  rw [show (w2.alloc (.cells (madeCells #[.int .i64 0] n) 3)).heap.size = w2.heap.size + 1 by simp] at hrC
  go_loopg [8] (n + 1) (fun m i wr => ∃ k : Nat, k ≤ n ∧ m = n - k + 1 ∧ i = .int .i64 k ∧ wr.rowIs w2.heap.size 3 n (fun j => .int .i64 (if j < k then raise d (L.getD j 0) else 0)) ∧
      wr.rowIs (w2.heap.size + 1) 3 n (fun j => .int .i64 (if j < k then 3 else 0)) ∧ Below w2.heap.size w2 wr)
  case atStart => exact ⟨0, Nat.zero_le _, rfl, rfl, hrB.congr (fun i _ => rfl), hrC.congr (fun i _ => rfl), hb24⟩
  case round =>
    clear hrB hrC hb24
    obtain ⟨k, hk, hm, rfl, hB, hC, hb⟩ := hrel
    have Hm := Lib.hid hm
    clear hm
    by_cases hlt : k < n
    · obtain ⟨b, o, l, rfl, hx, hc⟩ := (hs2.below hb).at_ (k := k) (by rw [HL.out]; exact hlt)
      have hlb := hbd l (List.mem_of_getElem? hx.out)
      have hg : L.getD k 0 = l := by rw [List.getD_eq_getElem?_getD, hx.out]; rfl
      have hbs := hb.size
      have hblt : b < w2.heap.size := block_lt_of_cell (show w2.cell? ⟨b, o + k, none⟩ = some (.int .i64 l) from by
        obtain ⟨b', o', e', _, h'⟩ := hs2.addr (by rw [HL.out]; omega)
        injection e' with e'
        injection e' with e1 e2
        subst e1
        subst e2
        exact h' k l hx.out)
      have cB := hB.cell hlt
      have fB := hB.frozen k
      have cC := hC.cell hlt
      have fC := hC.frozen k
      have Hg := Lib.hid hg
      by_cases h1 : l = -1
      · have hb1 : (l != -1) = false := by simp [h1]
        have HB := Lib.hid ((hB.set k (.int .i64 l)).setOther (a := ⟨w2.heap.size + 1, k, none⟩) (by simp) (.int .i64 3))
        have HC := Lib.hid ((hC.setOther (a := ⟨w2.heap.size, k, none⟩) (by simp) (.int .i64 l)).set k (.int .i64 3))
        have H1 := Lib.hid h1
        clear hB hC hg h1
        go_wp2_with fail
        go_roundg (n - k)
        case measure => have := Hm.out; omega
        case rel =>
          refine ⟨k + 1, by omega, by omega, by go_num, HB.out.congr (fun i _ => ?_), HC.out.congr (fun i _ => ?_), (hb.setCell (by simp) _).setCell (by simp) _⟩
          · by_cases hik : i = k
            · subst hik; rw [if_pos rfl, if_pos (by omega), Hg.out, H1.out]; rfl
            · rw [if_neg hik]; by_cases h2 : i < k
              · rw [if_pos h2, if_pos (by omega)]
              · rw [if_neg h2, if_neg (by omega)]
          · by_cases hik : i = k
            · subst hik; rw [if_pos rfl, if_pos (by omega)]
            · rw [if_neg hik]; by_cases h2 : i < k
              · rw [if_pos h2, if_pos (by omega)]
              · rw [if_neg h2, if_neg (by omega)]
      · have hb1 : (l != -1) = true := by simp [h1]
        have HB := Lib.hid (((hB.set k (.int .i64 l)).set k (.int .i64 (l + d))).setOther (a := ⟨w2.heap.size + 1, k, none⟩) (by simp) (.int .i64 3))
        have HC := Lib.hid (((hC.setOther (a := ⟨w2.heap.size, k, none⟩) (by simp) (.int .i64 l)).setOther (a := ⟨w2.heap.size, k, none⟩) (by simp) (.int .i64 (l + d))).set k (.int .i64 3))
        have H1 := Lib.hid h1
        clear hB hC hg h1
        go_wp2_with fail
        go_roundg (n - k)
        case measure => have := Hm.out; omega
        case rel =>
          refine ⟨k + 1, by omega, by omega, by go_num, HB.out.congr (fun i _ => ?_), HC.out.congr (fun i _ => ?_), ((hb.setCell (by simp) _).setCell (by simp) _).setCell (by simp) _⟩
          · by_cases hik : i = k
            · subst hik; rw [if_pos rfl, if_pos (by omega), Hg.out, raise, if_neg H1.out]
            · rw [if_neg hik, if_neg hik]; by_cases h2 : i < k
              · rw [if_pos h2, if_pos (by omega)]
              · rw [if_neg h2, if_neg (by omega)]
          · by_cases hik : i = k
            · subst hik; rw [if_pos rfl, if_pos (by omega)]
            · rw [if_neg hik]; by_cases h2 : i < k
              · rw [if_pos h2, if_pos (by omega)]
              · rw [if_neg h2, if_neg (by omega)]
    · have hkn : k = n := by omega
      subst hkn
      have oB : Own wr w2.heap.size (.slice (some ⟨w2.heap.size, 0, none⟩) k k) (L.map (raise d)) :=
        own_of_row_eq hB (Nat.le_refl _) (by omega) (by rw [List.length_map, HL.out]) (fun j hj => by
          rw [if_pos hj, List.getElem?_map, List.getD_eq_getElem?_getD, List.getElem?_eq_getElem (by rw [HL.out]; exact hj)]; rfl)
      have oC : Own wr w2.heap.size (.slice (some ⟨w2.heap.size + 1, 0, none⟩) k k) (List.replicate k 3) :=
        own_of_row_eq hC (by omega) (by omega) (by simp) (fun j hj => by rw [if_pos hj, List.getElem?_replicate, if_pos hj])
      have rA := hs2.below hb
      have rB := oB.rd
      have rC := oC.rd
      have hX := raise_runsF L d hd.1 (fun x hx => (hbd x hx).1)
      have hne := Lib.hid (runsF_ne L (fun x hx => (hbd x hx).1))
      clear hB hC oB oC hs2
      obtain ⟨wo, rfl⟩ : ∃ wo : World, wo = wr := ⟨_, rfl⟩
      go_wp2_with fail
      refine (runs_any _ k _ L _ HL.out rA (by omega)).mono ?_
      rintro e w5 ⟨v5, rfl, h5, l5, b5⟩
      obtain ⟨A5, c5, rfl, _, d5⟩ := h5.open_
      go_wp2_with fail
      refine (runs_any _ k _ (L.map (raise d)) _ (by rw [List.length_map, HL.out]) (rB.below b5) (by omega)).mono ?_
      rintro e w6 ⟨v6, rfl, h6, _, b6⟩
      rw [hX] at h6
      obtain ⟨A6, c6, rfl, _, d6⟩ := h6.open_
      go_wp2_with fail
      refine (runs_any _ k _ (List.replicate k 3) _ (by simp) ((rC.below b5).below b6) (by omega)).mono ?_
      rintro e w7 ⟨v7, rfl, h7, _, b7⟩
      have d57 := (d5.below b6).below b7
      have d67 := d6.below b7
      have bb : Below w.heap.size w w7 := hb12.trans ((((hb.trans (b5.mono hb.size)).trans (b6.mono (by have := hb.size; have := b5.size; omega))).trans (b7.mono (by have := hb.size; have := b5.size; have := b6.size; omega))).mono hb12.size)
      clear d5 d6 rA rB rC hX h5 h6 b5 b6 b7 hb hb12
      generalize runsF L = X at *
      have hXn : ((X.length : Int) != X.length) = false := by simp
      rcases Nat.eq_zero_or_pos k with h0 | h0
      · subst h0
        obtain ⟨A7, c7, rfl, _, _⟩ := h7.open_
        go_wp2_with fail
        go_loopg [12] (X.length + 1) (fun m i wr => ∃ j : Nat, j ≤ X.length ∧ m = X.length - j + 1 ∧ i = .int .i64 j ∧ Below w7.heap.size w7 wr)
        case atStart => exact ⟨0, Nat.zero_le _, rfl, rfl, Below.refl _ _⟩
        case round =>
          obtain ⟨j, hj, hm, rfl, hbr⟩ := hrel
          have Hm := Lib.hid hm
          clear hm
          by_cases hlt : j < X.length
          · obtain ⟨r, hr⟩ : ∃ r, X[j]? = some r := ⟨_, List.getElem?_eq_getElem hlt⟩
            have hrn := hne.out r (List.mem_of_getElem? hr)
            obtain ⟨b1, o1, A1', c1', rfl, q1, _, q2⟩ := (d57.below hbr).at_ hr
            obtain ⟨b2, o2, A2', c2', rfl, q3, _, q4⟩ := (d67.below hbr).at_ hr
            obtain ⟨b3, o3, rfl, _, q5⟩ := q2.addr (List.length_pos_iff.2 hrn)
            obtain ⟨b4, o4, rfl, _, q6⟩ := q4.addr (List.length_pos_iff.2 hrn)
            have hrl := List.length_pos_iff.2 hrn
            have hr0 : r[0]? = some r[0] := List.getElem?_eq_getElem hrl
            have f1 : wr.cell? ⟨b3, o3, none⟩ = some (.int .i64 r[0]) := q5 0 _ hr0
            have f2 : wr.cell? ⟨b4, o4, none⟩ = some (.int .i64 r[0]) := q6 0 _ hr0
            have g1 : ((r.length : Int) != r.length) = false := by simp
            have g2 : (r[0] != r[0]) = false := by simp
            clear q2 q4 q5 q6 hr0 hr hrn
            generalize r[0] = p0 at *
            generalize r.length = rl at *
            go_wp2_with fail
            go_quiet (fail)
            go_wp2_with fail
            go_roundg (X.length - j)
            case measure => have := Hm.out; omega
            case rel => exact ⟨j + 1, by omega, by omega, by go_num, below_drewN hbr _⟩
          · go_wp2_with fail
            go_ret
            exact ⟨rfl, bb.trans (hbr.mono bb.size)⟩
      · rw [one_runsF k 3 (by omega) h0] at h7
        obtain ⟨A7, c7, rfl, _, d7⟩ := h7.open_
        obtain ⟨b, o, A', c', rfl, hcell, _, _⟩ := d7.at_ (i := 0) rfl
        rw [List.length_map, List.length_range] at hcell
        have hcell' : w7.cell? ⟨b, o, none⟩ = some (.slice A' k c') := hcell
        have hk1 : ((k : Int) != k) = false := by simp
        have hk2 : decide (0 < (k : Int)) = true := by simp; omega
        clear hcell
        go_wp2_with fail
        go_loopg [12] (X.length + 1) (fun m i wr => ∃ j : Nat, j ≤ X.length ∧ m = X.length - j + 1 ∧ i = .int .i64 j ∧ Below w7.heap.size w7 wr)
        case atStart => exact ⟨0, Nat.zero_le _, rfl, rfl, Below.refl _ _⟩
        case round =>
          obtain ⟨j, hj, hm, rfl, hbr⟩ := hrel
          have Hm := Lib.hid hm
          clear hm
          by_cases hlt : j < X.length
          · obtain ⟨r, hr⟩ : ∃ r, X[j]? = some r := ⟨_, List.getElem?_eq_getElem hlt⟩
            have hrn := hne.out r (List.mem_of_getElem? hr)
            obtain ⟨b1, o1, A1', c1', rfl, q1, _, q2⟩ := (d57.below hbr).at_ hr
            obtain ⟨b2, o2, A2', c2', rfl, q3, _, q4⟩ := (d67.below hbr).at_ hr
            obtain ⟨b3, o3, rfl, _, q5⟩ := q2.addr (List.length_pos_iff.2 hrn)
            obtain ⟨b4, o4, rfl, _, q6⟩ := q4.addr (List.length_pos_iff.2 hrn)
            have hrl := List.length_pos_iff.2 hrn
            have hr0 : r[0]? = some r[0] := List.getElem?_eq_getElem hrl
            have f1 : wr.cell? ⟨b3, o3, none⟩ = some (.int .i64 r[0]) := q5 0 _ hr0
            have f2 : wr.cell? ⟨b4, o4, none⟩ = some (.int .i64 r[0]) := q6 0 _ hr0
            have g1 : ((r.length : Int) != r.length) = false := by simp
            have g2 : (r[0] != r[0]) = false := by simp
            clear q2 q4 q5 q6 hr0 hr hrn
            generalize r[0] = p0 at *
            generalize r.length = rl at *
            go_wp2_with fail
            go_quiet (fail)
            go_wp2_with fail
            go_roundg (X.length - j)
            case measure => have := Hm.out; omega
            case rel => exact ⟨j + 1, by omega, by omega, by go_num, below_drewN hbr _⟩
          · go_wp2_with fail
            go_ret
            exact ⟨rfl, bb.trans (hbr.mono bb.size)⟩
end Go.Proofs.Ytamfjmonpbojnaa
