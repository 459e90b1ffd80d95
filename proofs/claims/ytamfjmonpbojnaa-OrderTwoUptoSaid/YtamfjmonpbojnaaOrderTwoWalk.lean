/-
  The walk of OrderTwo.
-/
import Derived.Test.YtamfjmonpbojnaaOrderLaws2
namespace Go.Proofs.Ytamfjmonpbojnaa
open Go.RowKit

theorem one_at (n : Nat) (D : Int) (h0 : 0 ≤ D) (h1 : D ≤ 126) : (visualF (List.replicate n D)).length = n ∧ ∀ k, k < n → (visualF (List.replicate n D))[k]? = some (if D % 2 = 1 then ((n - 1 - k : Nat) : Int) else (k : Int)) := by
  rw [visual_one n D h0 h1]
  by_cases h : D % 2 = 1
  · rw [if_pos h]
    refine ⟨by simp, fun k hk => ?_⟩
    rw [if_pos h, List.getElem?_reverse (by simpa using hk), List.length_map, List.length_range, List.getElem?_map, List.getElem?_range (by omega)]
    rfl
  · rw [if_neg h]
    refine ⟨by simp, fun k hk => ?_⟩
    rw [if_neg h]
    simp [hk]

set_option maxHeartbeats 4000000 in
set_option maxRecDepth 100000 in
theorem orderTwo_walk (A : Option Addr) (n c : Nat) (zs : List Int) (d : Int) (w : World) (hn : zs.length = n) (hr : RdI .u8 w A zs) (hz : Bytes zs) (hsz : n ≤ 1048576) (hd : 0 ≤ d ∧ d ≤ 255) :
    Calls Try.prog 17 #[.slice A n c, .int .u8 d] w fun e w' => e = .returned (.bool true) ∧ Below w.heap.size w w' := by
  have HN := Lib.hid hn
  clear hn
  have hmk := run_make_row' (P := Try.prog) 24 3 (.int .i64 0) 8 Try.underlying24 info3 rfl .i64 .i64 n (by omega) (by omega)
  go_enter Try.func17, Try.ntmps17
  go_wp2_with fail
  refine (awake25_any _).mono ?_
  rintro e w1 ⟨rfl, hb1⟩
  go_wp2_with fail
  refine (levels_any _ n _ zs _ HN.out (hr.below hb1) hz (by omega)).mono ?_
  rintro e w2 ⟨v, rfl, hown, hb2⟩
  have hb12 := hb1.trans (hb2.mono hb1.size)
  obtain ⟨A1, c1, rfl, _, hs2⟩ := hown.open_
  rw [len_levels, HN.out]
  have HL : Hid ((levelsF zs).length = n) := Lib.hid (by rw [len_levels, HN.out])
  have hbd := levels_bd zs hz
  clear hown hb1 hb2 hr
  generalize levelsF zs = L at *
  have hD0 : 0 ≤ d % 127 := by omega
  have hD1 : d % 127 ≤ 126 := by omega
  go_wp2_with fail
  clear hmk
  have hrB := (World.rowIs_made w2 (.int .i64 0) n 3).alloc (.cells (madeCells #[.int .i64 0] n) 3)
  have hrC := World.rowIs_made (w2.alloc (.cells (madeCells #[.int .i64 0] n) 3)) (.int .i64 0) n 3
  have hb24 : Below w2.heap.size w2 ((w2.alloc (.cells (madeCells #[.int .i64 0] n) 3)).alloc (.cells (madeCells #[.int .i64 0] n) 3)) := ((Below.refl _ _).alloc (Nat.le_refl _) _).alloc (by simp) _
  rw [show (w2.alloc (.cells (madeCells #[.int .i64 0] n) 3)).heap.size = w2.heap.size + 1 by simp] at hrC
  go_loopg [24] (n + 1) (fun m i wr => ∃ k : Nat, k ≤ n ∧ m = n - k + 1 ∧ i = .int .i64 k ∧ wr.rowIs w2.heap.size 3 n (fun j => .int .i64 (if j < k then raise 2 (L.getD j 0) else 0)) ∧
      wr.rowIs (w2.heap.size + 1) 3 n (fun j => .int .i64 (if j < k then d % 127 else 0)) ∧ Below w2.heap.size w2 wr)
  case atStart => exact ⟨0, Nat.zero_le _, rfl, rfl, hrB.congr (fun i _ => rfl), hrC.congr (fun i _ => rfl), hb24⟩
  case round =>
    clear hrB hrC hb24
    obtain ⟨k, hk, hm, rfl, hB, hC, hb⟩ := hrel
    have Hm := Lib.hid hm
    clear hm
    by_cases hlt : k < n
    · obtain ⟨b, o, l, rfl, hx, hc⟩ := (hs2.below hb).at_ (k := k) (by rw [HL.out]; exact hlt)
      have hlb := hbd l (List.mem_of_getElem? hx.out)
      have hg : L.getD k 0 = l := by rw [List.getD_eq_getElem?_getD, hx.out]; rfl
      have hbs := hb.size
      have hblt : b < w2.heap.size := by
        obtain ⟨b', o', e', h', _⟩ := hs2.addr (by rw [HL.out]; omega)
        injection e' with e'
        injection e' with e1 e2
        subst e1
        exact h'
      have cB := hB.cell hlt
      have fB := hB.frozen k
      have cC := hC.cell hlt
      have fC := hC.frozen k
      have Hg := Lib.hid hg
      by_cases h1 : l = -1
      · have hb1 : (l != -1) = false := by simp [h1]
        have HB := Lib.hid ((hB.set k (.int .i64 l)).setOther (a := ⟨w2.heap.size + 1, k, none⟩) (by simp) (.int .i64 (d % 127)))
        have HC := Lib.hid ((hC.setOther (a := ⟨w2.heap.size, k, none⟩) (by simp) (.int .i64 l)).set k (.int .i64 (d % 127)))
        have H1 := Lib.hid h1
        clear hB hC hg h1
        go_wp2_with fail
        go_roundg (n - k)
        case measure => have := Hm.out; omega
        case rel =>
          refine ⟨k + 1, by omega, by omega, by go_num, HB.out.congr (fun i _ => ?_), HC.out.congr (fun i _ => ?_), (hb.setCell (by simp) _).setCell (by simp) _⟩
          · by_cases hik : i = k
            · subst hik; rw [if_pos rfl, if_pos (by omega), Hg.out, H1.out]; rfl
            · rw [if_neg hik]; by_cases h2 : i < k
              · rw [if_pos h2, if_pos (by omega)]
              · rw [if_neg h2, if_neg (by omega)]
          · by_cases hik : i = k
            · subst hik; rw [if_pos rfl, if_pos (by omega)]
            · rw [if_neg hik]; by_cases h2 : i < k
              · rw [if_pos h2, if_pos (by omega)]
              · rw [if_neg h2, if_neg (by omega)]
      · have hb1 : (l != -1) = true := by simp [h1]
        have HB := Lib.hid (((hB.set k (.int .i64 l)).set k (.int .i64 (l + 2))).setOther (a := ⟨w2.heap.size + 1, k, none⟩) (by simp) (.int .i64 (d % 127)))
        have HC := Lib.hid (((hC.setOther (a := ⟨w2.heap.size, k, none⟩) (by simp) (.int .i64 l)).setOther (a := ⟨w2.heap.size, k, none⟩) (by simp) (.int .i64 (l + 2))).set k (.int .i64 (d % 127)))
        have H1 := Lib.hid h1
        clear hB hC hg h1
        go_wp2_with fail
        go_roundg (n - k)
        case measure => have := Hm.out; omega
        case rel =>
          refine ⟨k + 1, by omega, by omega, by go_num, HB.out.congr (fun i _ => ?_), HC.out.congr (fun i _ => ?_), ((hb.setCell (by simp) _).setCell (by simp) _).setCell (by simp) _⟩
          · by_cases hik : i = k
            · subst hik; rw [if_pos rfl, if_pos (by omega), Hg.out, raise, if_neg H1.out]
            · rw [if_neg hik, if_neg hik]; by_cases h2 : i < k
              · rw [if_pos h2, if_pos (by omega)]
              · rw [if_neg h2, if_neg (by omega)]
          · by_cases hik : i = k
            · subst hik; rw [if_pos rfl, if_pos (by omega)]
            · rw [if_neg hik]; by_cases h2 : i < k
              · rw [if_pos h2, if_pos (by omega)]
              · rw [if_neg h2, if_neg (by omega)]
    · have hkn : k = n := by omega
      subst hkn
      have oB : Own wr w2.heap.size (.slice (some ⟨w2.heap.size, 0, none⟩) k k) (L.map (raise 2)) :=
        own_of_row_eq hB (Nat.le_refl _) (by omega) (by rw [List.length_map, HL.out]) (fun j hj => by
          rw [if_pos hj, List.getElem?_map, List.getD_eq_getElem?_getD, List.getElem?_eq_getElem (by rw [HL.out]; exact hj)]; rfl)
      have oC : Own wr w2.heap.size (.slice (some ⟨w2.heap.size + 1, 0, none⟩) k k) (List.replicate k (d % 127)) :=
        own_of_row_eq hC (by omega) (by omega) (by simp) (fun j hj => by rw [if_pos hj, List.getElem?_replicate, if_pos hj])
      have rA := hs2.below hb
      have rB := oB.rd
      have rC := oC.rd
      have hX := visual_two L hbd
      obtain ⟨hl1, hat⟩ := one_at k (d % 127) hD0 hD1
      clear hB hC oB oC hs2
      obtain ⟨wo, rfl⟩ : ∃ wo : World, wo = wr := ⟨_, rfl⟩
      go_wp2_with fail
      refine (visual_any _ k _ (List.replicate k (d % 127)) _ (by simp) rC (by omega)).mono ?_
      rintro e w5 ⟨v5, rfl, hown5, b5⟩
      obtain ⟨A5, c5, rfl, _, d5⟩ := hown5.open_
      have HV : Hid ((visualF (List.replicate k (d % 127))).length = k) := Lib.hid hl1
      rw [hl1]
      have HAT := Lib.hid hat
      have HX := Lib.hid hX
      have rA5 := rA.below b5
      have rB5 := rB.below b5
      have bb5 := hb.trans (b5.mono hb.size)
      clear rA rB rC hown5 hat hl1 hX b5 hb
      generalize visualF (List.replicate k (d % 127)) = V at *
      go_wp2_with fail
      go_loop [58] (fun i => ∃ j : Nat, j ≤ k ∧ i = .int .i64 j) (fun i => k - (intOf i).toNat)
      case atStart => exact ⟨0, Nat.zero_le _, rfl⟩
      case round =>
        obtain ⟨j, hj, rfl⟩ := hrel
        by_cases hlt2 : j < k
        · obtain ⟨b, o, rfl, _, hc⟩ := d5.addr (by rw [HV.out]; omega)
          by_cases hodd : d % 127 % 2 = 1
          · have f1 := hc j _ (by have := HAT.out j hlt2; rwa [if_pos hodd] at this)
            have g1 : (d % 127 % 2 == 0) = false := by simp; omega
            have g2 : (d % 127 % 2 == 1) = true := by simp [hodd]
            have g3 : (((k - 1 - j : Nat) : Int) != (k : Int) - 1 - j) = false := by simp; omega
            clear hc hodd
            go_wp2_with fail
            go_round
            case rel => exact ⟨j + 1, by omega, by go_num⟩
            case measure => simp [intOf]; omega
          · have f1 := hc j _ (by have := HAT.out j hlt2; rwa [if_neg hodd] at this)
            have g1 : (d % 127 % 2 == 0) = true := by simp; omega
            have g2 : (d % 127 % 2 == 1) = false := by simp [hodd]
            have g3 : ((j : Int) != j) = false := by simp
            clear hc hodd
            go_wp2_with fail
            go_round
            case rel => exact ⟨j + 1, by omega, by go_num⟩
            case measure => simp [intOf]; omega
        · have g0 : ((k : Int) == k) = true := by simp
          go_wp2_with fail
          refine (visual_any _ k _ L _ HL.out rA5 (by omega)).mono ?_
          rintro e w6 ⟨v6, rfl, hown6, b6⟩
          obtain ⟨A6, c6, rfl, _, d6⟩ := hown6.open_
          have rB6 := rB5.below b6
          go_wp2_with fail
          refine (visual_any _ k _ (L.map (raise 2)) _ (by rw [List.length_map, HL.out]) rB6 (by omega)).mono ?_
          rintro e w7 ⟨v7, rfl, hown7, b7⟩
          rw [HX.out] at hown7
          obtain ⟨A7, c7, rfl, _, d7⟩ := hown7.open_
          have hvl := visual_len L
          rw [HL.out] at hvl
          go_wp2_with fail
          refine (same_any _ _ _ (visualF L) _ _ _ (visualF L) _ rfl rfl (d6.below b7) d7 (by omega)).mono ?_
          rintro e w8 ⟨rfl, b8⟩
          rw [sameB_self]
          have bb8 := ((bb5.trans (b6.mono bb5.size)).trans (b7.mono (by have := bb5.size; have := b6.size; omega))).trans (b8.mono (by have := bb5.size; have := b6.size; have := b7.size; omega))
          go_wp2_with fail
          go_ret
          exact ⟨rfl, hb12.trans (bb8.mono hb12.size)⟩
end Go.Proofs.Ytamfjmonpbojnaa
