/-
  The walks of SelectsWhole and SelectsBands.
-/
import Derived.Test.YtamfjmonpbojnaaCoverWalk
namespace Go.Proofs.Ytamfjmonpbojnaa
open Go.RowKit

theorem chain_bd {c : List Bool} : ∀ {bs : List Bnd} {last : Int}, BChain c last bs → ∀ q ∈ bs, q.1 < q.2 ∧ q.2 ≤ c.length := by
  intro bs
  induction bs with
  | nil => intro b _ q hq; cases hq
  | cons x r ih =>
    intro b h q hq
    obtain ⟨a1, b1⟩ := x
    obtain ⟨h1, h2, h3, h4, h5, h6⟩ := h
    rcases List.mem_cons.1 hq with rfl | hq
    · exact ⟨h2, h3⟩
    · exact ih h6 q hq
theorem chain_len {c : List Bool} : ∀ {bs : List Bnd} {last : Int}, last ≤ c.length → BChain c last bs → (bs.length : Int) + last ≤ c.length := by
  intro bs
  induction bs with
  | nil => intro last h _; simp; exact h
  | cons x r ih =>
    intro last hl h
    obtain ⟨a1, b1⟩ := x
    obtain ⟨h1, h2, h3, h4, h5, h6⟩ := h
    have := ih (by omega) h6
    simp only [List.length_cons]
    omega
theorem chain_at {c : List Bool} {last : Int} {bs : List Bnd} {k : Nat} {a b : Nat} (h : BChain c last (bs.drop k)) (hk : bs[k]? = some (a, b)) :
    last < a ∧ a < b ∧ b ≤ c.length ∧ (∀ i : Nat, last ≤ i → i < a → c[i]? = some false) ∧ (∀ i : Nat, a ≤ i → i < b → c[i]? = some true) ∧ BChain c b (bs.drop (k + 1)) := by
  rw [drop_cons_of hk] at h
  exact h
theorem line_in {L : List Int} {N : Nat} {W : List Nat} : ∀ q ∈ (lineV L N).zip W, inB 0 (N : Int) q.1 = true := by
  intro q hq
  obtain ⟨p, wd⟩ := q
  obtain ⟨j, rfl, hj⟩ := line_mem (List.of_mem_zip hq).1
  unfold inB
  simp
  omega

set_option maxRecDepth 100000 in
set_option maxHeartbeats 4000000 in
theorem selectsWhole_walk (A0 : Option Addr) (n0 c0 : Nat) (ls : List Int) (A1 : Option Addr) (n1 c1 : Nat) (ws : List Int) (x : Int) (w : World)
    (h0 : ls.length = n0) (h1 : ws.length = n1) (r0 : RdI .u8 w A0 ls) (r1 : RdI .u8 w A1 ws) (z0 : Bytes ls) (z1 : Bytes ws) (b0 : n0 ≤ 1048576) (b1 : n1 ≤ 1048576) :
    Calls Try.prog 8 #[.slice A0 n0 c0, .slice A1 n1 c1, .int .i64 x] w fun e w' => e = .returned (.bool true) ∧ Below w.heap.size w w' := by
  obtain ⟨N, hN⟩ : ∃ N, N = min n0 n1 := ⟨_, rfl⟩
  have hN0 : N ≤ n0 := by omega
  have hN1 : N ≤ n1 := by omega
  have H0 := Lib.hid h0
  have H1 := Lib.hid h1
  have HNN := Lib.hid hN
  have HV : Hid ((lineV (posF (levelsF ls)) N).length = N) := Lib.hid (line_len (posF_ne _) (by rw [posF_len, len_levels]; omega))
  have HWl : Hid (((widthsN ws).take N).length = N) := Lib.hid (by rw [List.length_take, len_widthsN]; omega)
  have HW2 : Hid (∀ x ∈ (widthsN ws).take N, x ≤ 2) := Lib.hid (fun x hx => widthsN_le ws x (List.mem_of_mem_take hx))
  have HA : Hid (bandsG 0 (N : Int) none 0 ((lineV (posF (levelsF ls)) N).zip ((widthsN ws).take N)) = if totF ((lineV (posF (levelsF ls)) N).zip ((widthsN ws).take N)) = 0 then [] else [(0, totF ((lineV (posF (levelsF ls)) N).zip ((widthsN ws).take N)))]) := Lib.hid (by rw [bands_whole _ _ line_in, Nat.zero_add])
  have HE : Hid (bandsG x x none 0 ((lineV (posF (levelsF ls)) N).zip ((widthsN ws).take N)) = []) := Lib.hid (bands_empty x _ _)
  have HC : Hid ((coverF 0 0 ((lineV (posF (levelsF ls)) N).zip ((widthsN ws).take N))).length = totF ((lineV (posF (levelsF ls)) N).zip ((widthsN ws).take N))) := Lib.hid (coverF_len _)
  have HT : Hid (totF ((lineV (posF (levelsF ls)) N).zip ((widthsN ws).take N)) ≤ 2 * N) := Lib.hid (by
    have := totF_take_le HW2.out (HV.out.trans HWl.out.symm) N
    rwa [List.take_of_length_le (by rw [List.length_zip, HV.out, HWl.out]; omega), HWl.out] at this)
  clear h0 h1 hN
  go_enter Try.func8, Try.ntmps8
  go_wp2_with fail
  refine (awake35_any _).mono ?_
  rintro e w1 ⟨rfl, hb1⟩
  go_wp2_with fail
  refine (line_any _ n0 _ ls _ n1 _ ws N _ H0.out H1.out (r0.below hb1) (r1.below hb1) z0 z1 b0 b1 HNN.out).mono ?_
  rintro e w2 ⟨Av, cv, Aw, cw, rfl, dv, dw, hcw, hb2⟩
  have bb2 := hb1.trans (hb2.mono hb1.size)
  clear hb1 hb2 r0 r1
  generalize lineV (posF (levelsF ls)) N = V at *
  generalize (widthsN ws).take N = W at *
  obtain ⟨T, hT⟩ : ∃ T, T = totF (V.zip W) := ⟨_, rfl⟩
  rw [← hT] at HA HC HT
  have hT2 := HT.out
  clear hT
  go_wp2_with fail
  refine (cover_any _ N _ V _ _ W 0 0 _ HV.out HWl.out dv dw HW2.out (by omega)).mono ?_
  rintro e w3 ⟨v3, rfl, hown3, hb3⟩
  obtain ⟨A3, c3, rfl, _, _⟩ := hown3.open_
  rw [HC.out]
  have bb3 := bb2.trans (hb3.mono bb2.size)
  have dv := dv.below hb3
  have dw := dw.below hb3
  clear hown3 hb3 bb2
  go_wp2_with fail
  refine (bands_any _ N _ V _ _ W 0 (N : Int) _ HV.out HWl.out dv dw HW2.out (by omega) hcw).mono ?_
  rintro e w4 ⟨v4, rfl, hown4, hb4⟩
  have bb4 := bb3.trans (hb4.mono bb3.size)
  have dv := dv.below hb4
  have dw := dw.below hb4
  rw [HA.out] at hown4
  clear hb4 bb3
  have hTc : T = 0 ∨ 0 < T := by omega
  rcases hTc with rfl | hTp
  · rw [if_pos rfl] at hown4
    obtain ⟨A4, c4, rfl, _, d4⟩ := hown4.open_
    simp only [List.length_nil]
    clear hown4
    go_wp2_with fail
    refine (bands_any _ N _ V _ _ W x x _ HV.out HWl.out dv dw HW2.out (by omega) hcw).mono ?_
    rintro e w5 ⟨v5, rfl, hown5, hb5⟩
    rw [HE.out] at hown5
    obtain ⟨A5, c5, rfl, _, _⟩ := hown5.open_
    simp only [List.length_nil]
    have bb5 := bb4.trans (hb5.mono bb4.size)
    have d4 := d4.below hb5
    clear hown5 hb5 bb4
    go_wp2_with fail
    refine (cells_any _ 0 _ [] _ rfl d4 (by simp) (by omega)).mono ?_
    rintro e w6 ⟨rfl, hb6⟩
    rw [show cellsF [] = 0 from rfl]
    have bb6 := bb5.trans (hb6.mono bb5.size)
    go_wp2_with fail
    go_ret
    exact ⟨by simp, bb6⟩
  · rw [if_neg (by omega)] at hown4
    obtain ⟨A4, c4, rfl, _, d4⟩ := hown4.open_
    simp only [List.length_singleton]
    have g1 : ((T : Int) == 0) = false := beq_eq_false_iff_ne.2 (by omega)
    have g2 : decide ((0 : Int) < (T : Int)) = true := decide_eq_true (by omega)
    have g3 : decide (0 < T) = true := decide_eq_true hTp
    clear hown4
    go_wp2_with fail
    refine (bands_any _ N _ V _ _ W x x _ HV.out HWl.out dv dw HW2.out (by omega) hcw).mono ?_
    rintro e w5 ⟨v5, rfl, hown5, hb5⟩
    rw [HE.out] at hown5
    obtain ⟨A5, c5, rfl, _, _⟩ := hown5.open_
    simp only [List.length_nil]
    have bb5 := bb4.trans (hb5.mono bb4.size)
    have d4 := d4.below hb5
    clear hown5 hb5 bb4
    go_wp2_with fail
    refine (cells_any _ 1 _ [(0, T)] _ rfl d4 (by simp; omega) (by omega)).mono ?_
    rintro e w6 ⟨rfl, hb6⟩
    rw [show cellsF [(0, T)] = (T : Int) by simp [cellsF]]
    have bb6 := bb5.trans (hb6.mono bb5.size)
    obtain ⟨g, rfl, _, x0, x1⟩ := (d4.below hb6) 0 _ rfl
    simp only [Nat.zero_mul, Nat.zero_add] at x0 x1
    rw [show ((0 : Nat) : Int) = 0 from rfl] at x0
    clear d4
    go_wp2_with fail
    go_ret
    exact ⟨by simp, bb6⟩

set_option maxRecDepth 100000 in
set_option maxHeartbeats 4000000 in
theorem selectsBands_walk (A0 : Option Addr) (n0 c0 : Nat) (ls : List Int) (A1 : Option Addr) (n1 c1 : Nat) (ws : List Int) (f t : Int) (w : World)
    (h0 : ls.length = n0) (h1 : ws.length = n1) (r0 : RdI .u8 w A0 ls) (r1 : RdI .u8 w A1 ws) (z0 : Bytes ls) (z1 : Bytes ws) (b0 : n0 ≤ 1048576) (b1 : n1 ≤ 1048576) :
    Calls Try.prog 6 #[.slice A0 n0 c0, .slice A1 n1 c1, .int .i64 f, .int .i64 t] w fun e w' => e = .returned (.bool true) ∧ Below w.heap.size w w' := by
  obtain ⟨N, hN⟩ : ∃ N, N = min n0 n1 := ⟨_, rfl⟩
  have hN0 : N ≤ n0 := by omega
  have hN1 : N ≤ n1 := by omega
  have H0 := Lib.hid h0
  have H1 := Lib.hid h1
  have HNN := Lib.hid hN
  have HV : Hid ((lineV (posF (levelsF ls)) N).length = N) := Lib.hid (line_len (posF_ne _) (by rw [posF_len, len_levels]; omega))
  have HWl : Hid (((widthsN ws).take N).length = N) := Lib.hid (by rw [List.length_take, len_widthsN]; omega)
  have HW2 : Hid (∀ x ∈ (widthsN ws).take N, x ≤ 2) := Lib.hid (fun x hx => widthsN_le ws x (List.mem_of_mem_take hx))
  clear h0 h1 hN
  go_enter Try.func6, Try.ntmps6
  go_wp2_with fail
  refine (awake35_any _).mono ?_
  rintro e w1 ⟨rfl, hb1⟩
  go_wp2_with fail
  refine (line_any _ n0 _ ls _ n1 _ ws N _ H0.out H1.out (r0.below hb1) (r1.below hb1) z0 z1 b0 b1 HNN.out).mono ?_
  rintro e w2 ⟨Av, cv, Aw, cw, rfl, dv, dw, hcw, hb2⟩
  have bb2 := hb1.trans (hb2.mono hb1.size)
  clear hb1 hb2 r0 r1
  generalize lineV (posF (levelsF ls)) N = V at *
  generalize (widthsN ws).take N = W at *
  have HT : Hid ((coverF f t (V.zip W)).length ≤ 2 * N) := Lib.hid (by
    have := totF_take_le HW2.out (HV.out.trans HWl.out.symm) N
    rw [coverF_len]
    rwa [List.take_of_length_le (by rw [List.length_zip, HV.out, HWl.out]; omega), HWl.out] at this)
  go_wp2_with fail
  refine (cover_any _ N _ V _ _ W f t _ HV.out HWl.out dv dw HW2.out (by omega)).mono ?_
  rintro e w3 ⟨v3, rfl, hown3, hb3⟩
  obtain ⟨A3, c3, rfl, _, d3⟩ := hown3.open_
  have bb3 := bb2.trans (hb3.mono bb2.size)
  have dv := dv.below hb3
  have dw := dw.below hb3
  have HCH := Lib.hid (chain_bands f t (V.zip W))
  obtain ⟨T, hT⟩ : ∃ T, T = (coverF f t (V.zip W)).length := ⟨_, rfl⟩
  rw [← hT] at HT ⊢
  have HTL := Lib.hid hT.symm
  have hT2 := HT.out
  clear hown3 hb3 bb2 hT
  go_wp2_with fail
  refine (bands_any _ N _ V _ _ W f t _ HV.out HWl.out dv dw HW2.out (by omega) hcw).mono ?_
  rintro e w4 ⟨v4, rfl, hown4, hb4⟩
  have bb4 := bb3.trans (hb4.mono bb3.size)
  have d3 := d3.below hb4
  obtain ⟨A4, c4, rfl, _, d4⟩ := hown4.open_
  generalize bandsG f t none 0 (V.zip W) = bs at *
  generalize coverF f t (V.zip W) = C at *
  obtain ⟨nb, hnb⟩ : ∃ nb, nb = bs.length := ⟨_, rfl⟩
  rw [← hnb]
  have HNB := Lib.hid hnb.symm
  have hnbl : nb ≤ T + 1 := by
    have := chain_len (by omega) HCH.out
    have := HTL.out
    omega
  clear hown4 hb4 bb3 dv dw hnb
  go_wp2_with fail
  go_loopg [39, 12, 13] (nb + 1) (fun m i l s wr => ∃ (k : Nat) (last S : Int), k ≤ nb ∧ m = nb - k + 1 ∧ i = .int .i64 k ∧ l = .int .i64 last ∧ s = .int .i64 S ∧ -1 ≤ last ∧ last ≤ T ∧ 0 ≤ S ∧ S ≤ 4194304 * k ∧ Hid (S = cellsF (bs.take k)) ∧ Hid (BChain C last (bs.drop k)) ∧ Below w4.heap.size w4 wr)
  case atStart => exact ⟨0, -1, 0, Nat.zero_le _, rfl, rfl, rfl, rfl, by omega, by omega, by omega, by omega, Lib.hid rfl, HCH, Below.refl _ _⟩
  case round =>
    obtain ⟨k, last, S, hk, hm, rfl, rfl, rfl, hl0, hlT, hS0, hS1, hS, hch, hb⟩ := hrel
    have Hm := Lib.hid hm
    clear hm
    have hbs := hb.size
    obtain ⟨m0, hm0⟩ : ∃ m0 : Nat, (m0 : Int) = max 0 last := ⟨(max 0 last).toNat, by omega⟩
    have hmx := max_run (x := 0) (y := last) hm0
    have hm0T : m0 ≤ T := by omega
    have hm0l : last ≤ m0 := by omega
    have HM0 := Lib.hid hm0
    clear hm0
    by_cases hlt : k < nb
    · obtain ⟨q, hq⟩ : ∃ q, bs[k]? = some q := ⟨_, List.getElem?_eq_getElem (by rw [HNB.out]; exact hlt)⟩
      obtain ⟨a, b⟩ := q
      obtain ⟨h1, h2, h3, h4, h5, h6⟩ := chain_at hch.out hq
      rw [HTL.out] at h3
      obtain ⟨gb, rfl, _, x0, x1⟩ := (d4.below hb) k _ hq
      simp only at x0 x1
      have hnx : Hid (cellsF (bs.take (k + 1)) = S + ((b : Int) - (a : Int))) := Lib.hid (by rw [take_snoc hq, cellsF_snoc, hS.out])
      have d1 : decide ((a : Int) ≤ last) = false := decide_eq_false (by omega)
      have d2 : decide (b ≤ a) = false := decide_eq_false (by omega)
      have d3' : decide (T < b) = false := decide_eq_false (by omega)
      have hval : Hid (∀ i : Nat, m0 ≤ i → i < b → C[i]? = some (decide (a ≤ i))) := Lib.hid (fun i hi hib => by
        by_cases hai : a ≤ i
        · rw [decide_eq_true hai]; exact h5 i hai hib
        · rw [decide_eq_false hai]; exact h4 i (by omega) (by omega))
      have H6 := Lib.hid h6
      have hmb : m0 ≤ b := by have := HM0.out; omega
      clear hq h4 h5 h6
      obtain ⟨b3, o3, rfl, hb3l, hA3⟩ := d3.addr (by rw [HTL.out]; omega)
      have HA3 : Hid (∀ (wq : World) (i : Nat), Below w4.heap.size w4 wq → m0 ≤ i → i < b → wq.cell? ⟨b3, o3 + i, none⟩ = some (.bool (decide (a ≤ i)))) := Lib.hid (fun wq i hq h1 h2 => (hq.cell (p := ⟨b3, o3 + i, none⟩) hb3l).trans (hA3 i _ (hval.out i h1 h2)))
      clear hA3 hval hb3l
      have hb' := hb.alloc hbs (.cells #[.int .i64 (a : Int), .int .i64 (b : Int)] 37)
      go_wp2_with fail
      obtain ⟨wo, hwo⟩ : ∃ wo : World, wo = wr.alloc (.cells #[.int .i64 (a : Int), .int .i64 (b : Int)] 37) := ⟨_, rfl⟩
      have y0 : wo.cell? ⟨wr.heap.size, 0, none⟩ = some (.int .i64 (a : Int)) := by rw [hwo, cell_of_row _ _ _ _ _ _ (heap_alloc_new wr _)]; rfl
      have y1 : wo.cell? ⟨wr.heap.size, 1, none⟩ = some (.int .i64 (b : Int)) := by rw [hwo, cell_of_row _ _ _ _ _ _ (heap_alloc_new wr _)]; rfl
      have hwr : wr.heap.size < wo.heap.size := by rw [hwo]; simp
      rw [← hwo]
      rw [← hwo] at hb'
      clear hwo hb x0 x1 hbs
      generalize wr.heap.size = gv at *
      go_loopg [17] (b - m0 + 1) (fun m i wq => ∃ i0 : Nat, m0 ≤ i0 ∧ i0 ≤ b ∧ m = b - i0 + 1 ∧ i = .int .i64 i0 ∧ Below wo.heap.size wo wq)
      case atStart => exact ⟨m0, Nat.le_refl _, hmb, rfl, rfl, Below.refl _ _⟩
      case round =>
        obtain ⟨i0, hi1, hi2, hm2, rfl, hb2⟩ := hrel
        have Hm2 := Lib.hid hm2
        clear hm2
        have e0 := (hb2.cell (p := ⟨gv, 0, none⟩) hwr).trans y0
        have e1 := (hb2.cell (p := ⟨gv, 1, none⟩) hwr).trans y1
        have hb4 := hb'.trans (hb2.mono hb'.size)
        clear y0 y1 hb'
        by_cases hib : i0 < b
        · have f0 := HA3.out _ i0 hb4 hi1 hib
          have hiT : i0 < T := by omega
          by_cases hai : a ≤ i0
          · have d4' : decide (a ≤ i0) = true := decide_eq_true hai
            rw [d4'] at f0
            clear hai hb4
            go_wp2_with fail
            go_quiet (fail)
            go_wp2_with fail
            go_roundg (b - i0)
            case measure => have := Hm2.out; omega
            case rel => exact ⟨i0 + 1, by omega, by omega, by omega, by go_num, below_drewN hb2 _⟩
          · have d4' : decide (a ≤ i0) = false := decide_eq_false hai
            rw [d4'] at f0
            clear hai hb4
            go_wp2_with fail
            go_quiet (fail)
            go_wp2_with fail
            go_roundg (b - i0)
            case measure => have := Hm2.out; omega
            case rel => exact ⟨i0 + 1, by omega, by omega, by omega, by go_num, below_drewN hb2 _⟩
        · obtain rfl : b = i0 := by omega
          go_wp2_with fail
          go_roundg (nb - k)
          case measure => have := Hm.out; omega
          case rel => exact ⟨k + 1, (b : Int), S + ((b : Int) - (a : Int)), by omega, by omega, by go_num, rfl, rfl, by omega, by omega, by omega, by omega, Lib.hid hnx.out.symm, H6, hb4⟩
    · obtain rfl : nb = k := by omega
      have hE : Hid (cellsF bs = S) := Lib.hid (by rw [hS.out, List.take_of_length_le (by rw [HNB.out]; exact Nat.le_refl _)])
      have hval : Hid (∀ i : Nat, m0 ≤ i → i < T → C[i]? = some false) := Lib.hid (fun i hi hiT => by
        have h := hch.out
        rw [List.drop_of_length_le (by rw [HNB.out]; exact Nat.le_refl _)] at h
        exact h i (by omega) (by rw [HTL.out]; exact hiT))
      have hbd : ∀ q ∈ bs, q.1 ≤ q.2 ∧ q.2 ≤ 4194304 := fun q hq => by
        obtain ⟨h1, h2⟩ := chain_bd HCH.out q hq
        rw [HTL.out] at h2
        exact ⟨by omega, by omega⟩
      have HBD := Lib.hid hbd
      have d3 := d3.below hb
      have d4 := d4.below hb
      clear hbd
      go_wp2_with fail
      clear hlt
      go_loop [18] (fun i => ∃ i0 : Nat, m0 ≤ i0 ∧ i0 ≤ T ∧ i = .int .i64 i0) (fun i => T - (intOf i).toNat)
      case atStart => exact ⟨m0, Nat.le_refl _, hm0T, rfl⟩
      case round =>
        obtain ⟨i0, hi1, hi2, rfl⟩ := hrel
        by_cases hiT : i0 < T
        · obtain ⟨b3, o3, rfl, _, hA3⟩ := d3.addr (by rw [HTL.out]; omega)
          have f0 := hA3 i0 _ (hval.out i0 hi1 hiT)
          clear hA3
          go_wp2_with fail
          go_round
          case rel => exact ⟨i0 + 1, by omega, by omega, by go_num⟩
          case measure => simp [intOf]; omega
        · go_wp2_with fail
          refine (cells_any _ nb _ bs _ HNB.out d4 HBD.out (by omega)).mono ?_
          rintro e w6 ⟨rfl, hb6⟩
          rw [hE.out]
          have bb6 := bb4.trans ((hb.trans (hb6.mono hbs)).mono bb4.size)
          go_wp2_with fail
          go_ret
          exact ⟨by simp, bb6⟩
end Go.Proofs.Ytamfjmonpbojnaa
