/-
  The walk of SelectsBack.
-/
import Derived.Test.YtamfjmonpbojnaaSelBandsWalk
namespace Go.Proofs.Ytamfjmonpbojnaa
open Go.RowKit

theorem grown_trans {w a b : World} {row : Option Nat} (h : w.grownBy a row) (k : a.grownBy b row) : w.grownBy b row :=
  ⟨k.os.trans h.os, k.tape.trans h.tape, k.output.trans h.output, Nat.le_trans h.size k.size, fun i hi hne => (k.block i (Nat.lt_of_lt_of_le hi h.size) hne).trans (h.block i hi hne)⟩
theorem grown_refl (w : World) (row : Option Nat) : w.grownBy w row := ⟨rfl, rfl, rfl, Nat.le_refl _, fun _ _ _ => rfl⟩
theorem grown_below {w a : World} {row : Option Nat} (h : Below w.heap.size w a) : w.grownBy a row := ⟨h.os, h.tape, h.output, h.size, fun k hk _ => h.block k hk⟩
theorem grown_store {w a : World} {s j : Nat} (h : w.grownBy a (some s)) (u : Value) : w.grownBy (a.setCell ⟨s, j, none⟩ u) (some s) :=
  grown_trans h ⟨rfl, rfl, rfl, by simp, fun k _ hk => heap_setCell_other a ⟨s, j, none⟩ k u (fun e => hk (by simp [e]))⟩
theorem ledF_take {V : List Int} {W : List Nat} {bs : List Bnd} {k a b : Nat} (h : bs[k]? = some (a, b)) : ledF V W (bs.take (k + 1)) = ledF V W (bs.take k) ++ placesF a b V W V.length := by
  rw [take_snoc h]
  unfold ledF
  rw [List.flatMap_append]
  simp
theorem led_new {V : List Int} {W : List Nat} {bs : List Bnd} {k a b j : Nat} {p : Int} (hn : (ledF V W bs).Nodup) (h : bs[k]? = some (a, b)) (hj : (placesF a b V W V.length)[j]? = some p) :
    p ∉ ledF V W (bs.take k) ++ (placesF a b V W V.length).take j ∧ p ∈ ledF V W bs := by
  have e : ledF V W bs = (ledF V W (bs.take k) ++ (placesF a b V W V.length).take j) ++ (p :: ((placesF a b V W V.length).drop (j + 1) ++ ledF V W (bs.drop (k + 1)))) := by
    conv => lhs; rw [← List.take_append_drop (k + 1) bs]
    have h1 : ledF V W (bs.take (k + 1) ++ bs.drop (k + 1)) = ledF V W (bs.take (k + 1)) ++ ledF V W (bs.drop (k + 1)) := by unfold ledF; rw [List.flatMap_append]
    rw [h1, ledF_take h]
    conv => lhs; rw [← List.take_append_drop j (placesF a b V W V.length), drop_cons_of hj]
    simp
  rw [e] at hn
  refine ⟨fun hm => ?_, by rw [e]; simp⟩
  exact (List.nodup_append.1 hn).2.2 p hm p (by simp) rfl

set_option maxRecDepth 100000 in
set_option maxHeartbeats 8000000 in
theorem selectsBack_walk (A0 : Option Addr) (n0 c0 : Nat) (ls : List Int) (A1 : Option Addr) (n1 c1 : Nat) (ws : List Int) (f t : Int) (w : World)
    (h0 : ls.length = n0) (h1 : ws.length = n1) (r0 : RdI .u8 w A0 ls) (r1 : RdI .u8 w A1 ws) (z0 : Bytes ls) (z1 : Bytes ws) (b0 : n0 ≤ 1048576) (b1 : n1 ≤ 1048576) :
    Calls Try.prog 22 #[.slice A0 n0 c0, .slice A1 n1 c1, .int .i64 f, .int .i64 t] w fun e w' => e = .returned (.bool true) ∧ Below w.heap.size w w' := by
  obtain ⟨N, hN⟩ : ∃ N, N = min n0 n1 := ⟨_, rfl⟩
  have hN0 : N ≤ n0 := by omega
  have hN1 : N ≤ n1 := by omega
  have H0 := Lib.hid h0
  have H1 := Lib.hid h1
  have HNN := Lib.hid hN
  have HV : Hid ((lineV (posF (levelsF ls)) N).length = N) := Lib.hid (line_len (posF_ne _) (by rw [posF_len, len_levels]; omega))
  have HND : Hid ((lineV (posF (levelsF ls)) N).Nodup) := Lib.hid (line_nodup _ _)
  have HM : Hid (∀ p ∈ lineV (posF (levelsF ls)) N, ∃ q : Nat, p = q ∧ q < N) := Lib.hid (fun p hp => line_mem hp)
  have HWl : Hid (((widthsN ws).take N).length = N) := Lib.hid (by rw [List.length_take, len_widthsN]; omega)
  have HW2 : Hid (∀ x ∈ (widthsN ws).take N, x ≤ 2) := Lib.hid (fun x hx => widthsN_le ws x (List.mem_of_mem_take hx))
  have hmk := run_make_row' (P := Try.prog) 32 4 (.bool false) 1 Try.underlying32 info4 rfl .i64 .i64 N (by omega) (by omega)
  clear h0 h1 hN
  go_enter Try.func22, Try.ntmps22
  go_wp2_with fail
  refine (awake35_any _).mono ?_
  rintro e w1 ⟨rfl, hb1⟩
  go_wp2_with fail
  refine (line_any _ n0 _ ls _ n1 _ ws N _ H0.out H1.out (r0.below hb1) (r1.below hb1) z0 z1 b0 b1 HNN.out).mono ?_
  rintro e w2 ⟨Av, cv, Aw, cw, rfl, dv, dw, hcw, hb2⟩
  have bb2 := hb1.trans (hb2.mono hb1.size)
  clear hb1 hb2 r0 r1
  generalize lineV (posF (levelsF ls)) N = V at *
  generalize (widthsN ws).take N = W at *
  have HCH := Lib.hid (chain_bands f t (V.zip W))
  have HT : Hid ((coverF f t (V.zip W)).length ≤ 2 * N) := Lib.hid (by
    have := totF_take_le HW2.out (HV.out.trans HWl.out.symm) N
    rw [coverF_len]
    rwa [List.take_of_length_le (by rw [List.length_zip, HV.out, HWl.out]; omega), HWl.out] at this)
  have HVW : Hid (V.length = W.length) := Lib.hid (HV.out.trans HWl.out.symm)
  have HM2 : Hid (∀ p ∈ V, ∃ q : Nat, p = q ∧ q < V.length) := Lib.hid (fun p hp => by rw [HV.out]; exact HM.out p hp)
  have hrow0 := (World.rowIs_made w2 (.bool false) N 4)
  have ha : Below w2.heap.size w2 (w2.alloc (.cells (madeCells #[.bool false] N) 4)) := (Below.refl _ _).alloc (Nat.le_refl _) _
  have dv3 := dv.below ha
  have dw3 := dw.below ha
  go_wp2_with fail
  clear hmk
  refine (bands_any _ N _ V _ _ W f t _ HV.out HWl.out dv3 dw3 HW2.out (by omega) hcw).mono ?_
  rintro e w4 ⟨v4, rfl, hown4, hb4⟩
  have hrow4 : w4.rowIs w2.heap.size 4 N (fun _ => .bool false) := hrow0.of_block (hb4.block _ (by simp))
  have hb24 := ha.trans (hb4.mono (by simp))
  have hge4 := hown4.ge
  simp only [World.size_alloc] at hge4
  obtain ⟨A4, c4, rfl, _, d4⟩ := hown4.open_
  have HGE4 : Hid (∀ ad, A4 = some ad → w2.heap.size + 1 ≤ ad.block) := Lib.hid (fun ad e => hge4 ad.block (by rw [e]; rfl))
  have HLN := Lib.hid (led_nodup (f := f) (t := t) HVW.out HND.out _ _ HCH.out)
  have HML : Hid (∀ p : Int, p ∈ ledF V W (bandsG f t none 0 (V.zip W)) ↔ inB f t p = true ∧ ∃ (k wd : Nat), V[k]? = some p ∧ W[k]? = some wd ∧ 0 < wd) := Lib.hid (fun p => mem_led HVW.out HM2.out HCH.out)
  have HCT := Lib.hid (led_count HVW.out HND.out HM2.out HCH.out)
  have hnb0 : (bandsG f t none 0 (V.zip W)).length ≤ 2097153 := by
    have h1 := chain_len (by omega) HCH.out
    have h2 := HT.out
    omega
  generalize bandsG f t none 0 (V.zip W) = bs at *
  obtain ⟨nb, hnb⟩ : ∃ nb, nb = bs.length := ⟨_, rfl⟩
  rw [← hnb] at hnb0 ⊢
  have HNB := Lib.hid hnb.symm
  have hs4 : w2.heap.size + 1 ≤ w4.heap.size := by have := hb4.size; simp at this; omega
  obtain ⟨s, hs⟩ : ∃ s, s = w2.heap.size := ⟨_, rfl⟩
  rw [← hs] at hrow4 hs4 HGE4 ⊢
  have HS := Lib.hid hs
  clear hown4 hb4 hge4 hnb hrow0 ha dv3 dw3 hs HT
  go_wp2_with fail
  go_loopg [39] (nb + 1) (fun m i wr => ∃ k : Nat, k ≤ nb ∧ m = nb - k + 1 ∧ i = .int .i64 k ∧ wr.rowIs s 4 N (fun q => .bool (decide ((q : Int) ∈ ledF V W (bs.take k)))) ∧ w4.grownBy wr (some s))
  case atStart => exact ⟨0, Nat.zero_le _, rfl, rfl, hrow4.congr (fun i _ => by simp [ledF]), grown_refl _ _⟩
  case round =>
    clear hrow4
    obtain ⟨k, hk, hm, rfl, hrow, hg⟩ := hrel
    have Hm := Lib.hid hm
    clear hm
    have hgs := hg.size
    have hbw : Below w2.heap.size w2 wr := hb24.grown hg (by have := HS.out; omega) (by rintro g e; have := Option.some.inj e; have := HS.out; omega)
    by_cases hlt : k < nb
    · obtain ⟨q, hq⟩ : ∃ q, bs[k]? = some q := ⟨_, List.getElem?_eq_getElem (by rw [HNB.out]; exact hlt)⟩
      obtain ⟨a, b⟩ := q
      obtain ⟨gb, rfl, hgl, x0, x1⟩ := d4 k _ hq
      have hgb := HGE4.out _ rfl
      simp only at x0 x1 hgb
      have x0 := hg.cell x0 (by simp; omega)
      have x1 := hg.cell x1 (by simp; omega)
      have HQ := Lib.hid hq
      have dv5 := (dv.below hbw).alloc (.cells #[.int .i64 (a : Int), .int .i64 (b : Int)] 37)
      have dw5 := (dw.below hbw).alloc (.cells #[.int .i64 (a : Int), .int .i64 (b : Int)] 37)
      have hrowA := hrow.alloc (.cells #[.int .i64 (a : Int), .int .i64 (b : Int)] 37)
      have hgA : w4.grownBy (wr.alloc (.cells #[.int .i64 (a : Int), .int .i64 (b : Int)] 37)) (some s) := grown_trans hg (World.grownBy_alloc _ _ _)
      clear hq
      go_wp2_with fail
      refine (places_any _ N _ V _ N _ W (a : Int) (b : Int) N _ HV.out HWl.out dv5 dw5 HW2.out (by omega) hcw (by omega)).mono ?_
      rintro e w5 ⟨v5, rfl, hown5, hb5⟩
      have hrow5 := hrowA.of_block (hb5.block _ (by have := hrow.lt; simp; omega))
      have hg5 := grown_trans hgA (grown_below hb5)
      have hge5 := hown5.ge
      simp only [World.size_alloc] at hge5
      have hlt5 := hown5.lt
      obtain ⟨A5, c5, rfl, _, d5⟩ := hown5.open_
      have HGE5 : Hid (∀ ad, A5 = some ad → s + 1 ≤ ad.block) := Lib.hid (fun ad e => by have := hge5 ad.block (by rw [e]; rfl); omega)
      have HPV : Hid (placesF (a : Int) (b : Int) V W N = placesF (a : Int) (b : Int) V W V.length) := Lib.hid (by rw [HV.out])
      have hpl : (placesF (a : Int) (b : Int) V W N).length ≤ N := pickF_len _ _
      have HNX : Hid (ledF V W (bs.take (k + 1)) = ledF V W (bs.take k) ++ placesF (a : Int) (b : Int) V W N) := Lib.hid (by rw [HPV.out]; exact ledF_take HQ.out)
      have HNEW : Hid (∀ (j : Nat) (p : Int), (placesF (a : Int) (b : Int) V W N)[j]? = some p → p ∉ ledF V W (bs.take k) ++ (placesF (a : Int) (b : Int) V W N).take j ∧ p ∈ ledF V W bs) := Lib.hid (by rw [HPV.out]; exact fun j p hj => led_new HLN.out HQ.out hj)
      generalize placesF (a : Int) (b : Int) V W N = P at *
      generalize ledF V W (bs.take k) = D at *
      obtain ⟨np, hnp⟩ : ∃ np, np = P.length := ⟨_, rfl⟩
      rw [← hnp] at hpl ⊢
      have HNP := Lib.hid hnp.symm
      clear hown5 hge5 hnp hlt5 hb5 dv5 dw5 hrowA hgA hrow hg x0 x1
      go_wp2_with fail
      go_loopg [51] (np + 1) (fun m i wr => ∃ j : Nat, j ≤ np ∧ m = np - j + 1 ∧ i = .int .i64 j ∧ wr.rowIs s 4 N (fun q => .bool (decide ((q : Int) ∈ D ++ P.take j))) ∧ w5.grownBy wr (some s))
      case atStart => exact ⟨0, Nat.zero_le _, rfl, rfl, hrow5.congr (fun i _ => by simp), grown_refl _ _⟩
      case round =>
        clear hrow5
        obtain ⟨j, hj, hm2, rfl, hrow, hg⟩ := hrel
        have Hm2 := Lib.hid hm2
        clear hm2
        by_cases hjl : j < np
        · obtain ⟨p, hp⟩ : ∃ p, P[j]? = some p := ⟨_, List.getElem?_eq_getElem (by rw [HNP.out]; exact hjl)⟩
          obtain ⟨hnot, hmem⟩ := HNEW.out j p hp
          obtain ⟨hin, kk, wd, gV, _, _⟩ := (HML.out p).1 hmem
          obtain ⟨q, rfl, hqN⟩ := HM.out p (List.mem_of_getElem? gV)
          obtain ⟨b5, o5, rfl, _, hA5⟩ := d5.addr (by rw [HNP.out]; omega)
          have hgb5 := HGE5.out _ rfl
          simp only at hgb5
          have f0 := hg.cell (hA5 j _ hp) (by simp; omega)
          have hcell := hrow.cell hqN
          rw [decide_eq_false hnot] at hcell
          have hfr := hrow.frozen q
          have Hst := Lib.hid (hrow.set q (.bool true))
          unfold inB at hin
          rw [Bool.and_eq_true, decide_eq_true_eq, decide_eq_true_eq] at hin
          obtain ⟨hin1, hin2⟩ := hin
          have t1 : decide ((q : Int) < 0) = false := by simp
          have t2 : decide (N ≤ q) = false := decide_eq_false (by omega)
          have t3 : decide ((q : Int) < f) = false := decide_eq_false (by omega)
          have t4 : decide (t ≤ (q : Int)) = false := decide_eq_false (by omega)
          have HP := Lib.hid hp
          clear hp hnot hmem gV hA5 hrow hin1 hin2
          go_wp2_with fail
          go_roundg (np - j)
          case measure => have := Hm2.out; omega
          case rel => exact ⟨j + 1, by omega, by omega, by go_num, Hst.out.congr (fun i _ => by
            rw [take_snoc HP.out, ← List.append_assoc]
            by_cases hiq : i = q
            · subst hiq; rw [if_pos rfl]; simp
            · rw [if_neg hiq]
              congr 1
              rw [decide_eq_decide, List.mem_append (t := [(q : Int)]), List.mem_singleton]
              constructor
              · intro h; exact .inl h
              · rintro (h | h)
                · exact h
                · omega), grown_store hg _⟩
        · have hE : Hid (D ++ P.take j = ledF V W (bs.take (k + 1))) := Lib.hid (by rw [HNX.out, List.take_of_length_le (by rw [HNP.out]; omega)])
          have hg6 := grown_trans hg5 hg
          go_wp2_with fail
          go_roundg (nb - k)
          case measure => have := Hm.out; omega
          case rel => exact ⟨k + 1, by omega, by omega, by go_num, hrow.congr (fun i _ => by rw [hE.out]), hg6⟩
    · obtain rfl : nb = k := by omega
      have HE : Hid (bs.take nb = bs) := Lib.hid (List.take_of_length_le (by rw [HNB.out]; exact Nat.le_refl _))
      obtain ⟨h, hh⟩ : ∃ h : Nat → Bool, h = fun q : Nat => decide ((q : Int) ∈ ledF V W bs) := ⟨_, rfl⟩
      have hrow1 : wr.rowIs s 4 N (fun q => .bool (h q)) := hrow.congr (fun i _ => by rw [HE.out, hh])
      have hCT : Hid ((pickF h N).length = (wantS f t V W N).length) := Lib.hid (by rw [hh]; have := HCT.out; rwa [HV.out] at this)
      have hHM : Hid (∀ (k q wd : Nat), V[k]? = some (q : Int) → W[k]? = some wd → 0 < wd → inB f t (q : Int) = true → h q = true) := Lib.hid (fun k q wd g1 g2 g3 g4 => by
        rw [hh]
        exact decide_eq_true ((HML.out _).2 ⟨g4, k, wd, g1, g2, g3⟩))
      have hlt1 := hrow1.lt
      obtain ⟨wo, rfl⟩ : ∃ wo : World, wo = wr := ⟨_, rfl⟩
      have bbo := bb2.trans (hbw.mono bb2.size)
      have dvo := dv.below hbw
      have dwo := dw.below hbw
      clear hrow hg hh hbw HE d4 hgs hb24 dv dw bb2
      go_wp2_with fail
      clear hlt
      go_loopg [86, 11] (N + 1) (fun m i v wr => ∃ k : Nat, k ≤ N ∧ m = N - k + 1 ∧ i = .int .i64 k ∧ Own wr wo.heap.size v (wantS f t V W k) ∧ Below wo.heap.size wo wr)
      case atStart => exact ⟨0, Nat.zero_le _, rfl, rfl, OwnT.nil _ _ _ _, Below.refl _ _⟩
      case round =>
        obtain ⟨k, hk, hm, rfl, hown, hb⟩ := hrel
        have Hm := Lib.hid hm
        clear hm
        have hbs := hb.size
        by_cases hkN : k < N
        · obtain ⟨b, o, p, rfl, hx, f0⟩ := (dvo.below hb).at_ (k := k) (by rw [HV.out]; exact hkN)
          obtain ⟨q, rfl, hqN⟩ := HM.out p (List.mem_of_getElem? hx.out)
          obtain ⟨wd, hwd⟩ : ∃ wd, W[k]? = some wd := ⟨_, List.getElem?_eq_getElem (by rw [HWl.out]; omega)⟩
          obtain ⟨b1', o1, rfl, _, hA1⟩ := (dwo.below hb).addr (by rw [upI_len, HWl.out]; omega)
          have f1 := hA1 k _ (upI_get hwd)
          have hwl := wantS_len f t V W k
          have hws : Hid (wantS f t V W (k + 1) = wantS f t V W k ++ (if (inB f t (q : Int) && decide (0 < wd)) = true then [(q : Int)] else [])) := Lib.hid (by
            rw [wantS_succ]
            rw [show V.getD k 0 = (q : Int) by rw [List.getD_eq_getElem?_getD, hx.out]; rfl, show W.getD k 0 = wd by rw [List.getD_eq_getElem?_getD, hwd]; rfl])
          have HWD := Lib.hid hwd
          clear hA1 hwd
          by_cases g1 : 0 < wd
          · have d1 : decide (0 < wd) = true := decide_eq_true g1
            have d1' : decide ((0 : Int) < (wd : Int)) = true := decide_eq_true (by omega)
            by_cases g2 : f ≤ (q : Int)
            · have d2 : decide (f ≤ (q : Int)) = true := decide_eq_true g2
              by_cases g3 : (q : Int) < t
              · have d3 : decide ((q : Int) < t) = true := decide_eq_true g3
                have hin : Hid (inB f t (q : Int) = true) := Lib.hid (by unfold inB; rw [d2, d3]; rfl)
                have hwx : Hid (wantS f t V W (k + 1) = wantS f t V W k ++ [(q : Int)]) := Lib.hid (by rw [hws.out, hin.out, d1]; rfl)
                have hhq := hHM.out k q wd hx.out HWD.out g1 hin.out
                have hcell := (hrow1.of_block (hb.block _ hlt1)).cell hqN
                rw [hhq] at hcell
                clear hhq hcell
                go_wp2_with (first
                  | (at_builtin; refine wpList_pushI _ rfl (.tmp 106) (.tmp 108) rfl wo.heap.size _ _ rfl (hown.alloc _) wr.heap.size q rfl (by simp) (by omega) (by simp; omega) ?_))
                intro v5 w5 hown5 hgrow5
                have hb5 := below_push hb hbs hown hgrow5
                have hcell := (hrow1.of_block (hb5.block _ hlt1)).cell hqN
                rw [hHM.out k q wd hx.out HWD.out g1 hin.out] at hcell
                clear hgrow5
                go_wp2_with fail
                go_roundg (N - k)
                case measure => have := Hm.out; omega
                case rel => exact ⟨k + 1, by omega, by omega, by go_num, hown5.of_eq hwx.out.symm, hb5⟩
              · have d3 : decide ((q : Int) < t) = false := decide_eq_false g3
                have hwx : Hid (wantS f t V W (k + 1) = wantS f t V W k) := Lib.hid (by
                  rw [hws.out, show inB f t (q : Int) = false by unfold inB; rw [d2, d3]; rfl]; simp)
                go_wp2_with fail
                go_roundg (N - k)
                case measure => have := Hm.out; omega
                case rel => exact ⟨k + 1, by omega, by omega, by go_num, hown.of_eq hwx.out.symm, hb⟩
            · have d2 : decide (f ≤ (q : Int)) = false := decide_eq_false g2
              have hwx : Hid (wantS f t V W (k + 1) = wantS f t V W k) := Lib.hid (by
                rw [hws.out, show inB f t (q : Int) = false by unfold inB; rw [d2]; rfl]; simp)
              go_wp2_with fail
              go_roundg (N - k)
              case measure => have := Hm.out; omega
              case rel => exact ⟨k + 1, by omega, by omega, by go_num, hown.of_eq hwx.out.symm, hb⟩
          · obtain rfl : wd = 0 := by omega
            have hwx : Hid (wantS f t V W (k + 1) = wantS f t V W k) := Lib.hid (by rw [hws.out]; simp)
            go_wp2_with fail
            go_roundg (N - k)
            case measure => have := Hm.out; omega
            case rel => exact ⟨k + 1, by omega, by omega, by go_num, hown.of_eq hwx.out.symm, hb⟩
        · obtain rfl : N = k := by omega
          obtain ⟨Ax, cx, rfl, _, _⟩ := hown.open_
          have hrow2 := hrow1.of_block (hb.block _ hlt1)
          have hwl := wantS_len f t V W N
          rw [← hCT.out] at hwl ⊢
          clear hown hrow1
          go_wp2_with fail
          clear hkN
          go_loop [118, 19] (fun i c => ∃ k : Nat, k ≤ N ∧ i = .int .i64 k ∧ c = .int .i64 ((pickF h k).length : Nat)) (fun i _ => N - (intOf i).toNat)
          case atStart => exact ⟨0, Nat.zero_le _, rfl, rfl⟩
          case round =>
            obtain ⟨k, hk, rfl, rfl⟩ := hrel
            by_cases hkN : k < N
            · have hcell := hrow2.cell hkN
              have hpl := pickF_len h k
              cases hhk : h k
              · rw [hhk] at hcell
                have hp : Hid (pickF h (k + 1) = pickF h k) := Lib.hid (by rw [pickF_succ, hhk]; simp)
                clear hhk
                go_wp2_with fail
                go_round
                case rel => exact ⟨k + 1, by omega, by go_num, by rw [hp.out]⟩
                case measure => simp [intOf]; omega
              · rw [hhk] at hcell
                have hp : Hid ((pickF h (k + 1)).length = (pickF h k).length + 1) := Lib.hid (by rw [pickF_succ, hhk]; simp)
                clear hhk
                generalize (pickF h k).length = pl at *
                go_wp2_with fail
                go_round
                case rel => exact ⟨k + 1, by omega, by go_num, by rw [hp.out]; go_num⟩
                case measure => simp [intOf]; omega
            · obtain rfl : N = k := by omega
              go_wp2_with fail
              go_ret
              exact ⟨by simp, bbo.trans (hb.mono bbo.size)⟩
end Go.Proofs.Ytamfjmonpbojnaa
