/-
  The contract of selects.Places.
-/
import Derived.Test.YtamfjmonpbojnaaBandRow
import Derived.Test.YtamfjmonpbojnaaFixWalk
namespace Go.Proofs.Ytamfjmonpbojnaa
open Go.RowKit

theorem min2_run (n1 n2 N : Nat) (h : N = min n1 n2) : ∀ (w : World) (ts : Array TypeId) (t : TypeId), (Builtin.min_ ts t #[.int .i64 (n1 : Int), .int .i64 (n2 : Int)]).run Try.prog w = .ok (.int .i64 (N : Int)) w := by
  intro w ts t
  simp [Builtin.min_, Builtin.min2]
  split <;> omega
theorem info4 : (Try.prog.info? 4).map (fun i => (i.zero, i.size, i.bytes)) = some (some (.bool false), 1, 1) := by kernel_rfl
theorem RdI.take' {K : IntKind} {w : World} {A : Option Addr} {zs : List Int} (h : RdI K w A zs) (k : Nat) : RdI K w A (zs.take k) := by
  intro j u hu
  refine h j u ?_
  rw [List.map_take, List.getElem?_take] at hu
  split at hu
  · exact hu
  · cases hu
theorem sF_take {W : List Nat} {N k : Nat} (hk : k ≤ N) : sF (W.take N) k = sF W k := by
  unfold sF
  rw [List.take_take, Nat.min_eq_left hk]

set_option maxRecDepth 100000 in
set_option maxHeartbeats 4000000 in
theorem places_any (A0 : Option Addr) (n0 c0 : Nat) (V : List Int) (A1 : Option Addr) (n1 c1 : Nat) (W : List Nat) (f t : Int) (N : Nat) (w : World)
    (h0 : V.length = n0) (h1 : W.length = n1) (r0 : RdI .i64 w A0 V) (r1 : RdI .i64 w A1 (upI W)) (hW : ∀ x ∈ W, x ≤ 2) (b1 : n1 ≤ 2097152) (hc1 : n1 ≤ c1) (hN : N = min n0 n1) :
    Calls Try.prog 40 #[.slice A0 n0 c0, .slice A1 n1 c1, .int .i64 f, .int .i64 t] w fun e w' => ∃ v, e = .returned v ∧ Own w' w.heap.size v (placesF f t V W N) ∧ Below w.heap.size w w' := by
  have hmin := min2_run n0 n1 N hN
  have hN0 : N ≤ n0 := by omega
  have hN1 : N ≤ n1 := by omega
  have H0 := Lib.hid h0
  have H1 := Lib.hid h1
  have rt := r1.take' N
  rw [upI_take] at rt
  have K1 : Hid ((upI (W.take N)).length = N) := Lib.hid (by rw [upI_len]; simp; omega)
  have K2 : Hid ((W.take N).length = N) := Lib.hid (by simp; omega)
  have hWt : ∀ x ∈ W.take N, x ≤ 2 := fun x hx => hW x (List.mem_of_mem_take hx)
  have hS : Hid (∀ k, k < N → (startsF (upI (W.take N)))[k]? = some (sF W k : Int)) := Lib.hid (fun k hk => by
    rw [starts_up hWt (by rw [K2.out]; omega), starts_get (by rw [K2.out]; exact hk), sF_take (by omega)])
  have hSl : Hid ((startsF (upI (W.take N))).length = N) := Lib.hid (by unfold startsF; rw [List.length_map, List.length_range, K1.out])
  have HW := Lib.hid hW
  have hmk := run_make_row' (P := Try.prog) 32 4 (.bool false) 1 Try.underlying32 info4 rfl .i64 .i64 N (by omega) (by omega)
  have hNc : N ≤ c1 := by omega
  clear hN h0 h1 hWt hW
  go_enter Try.func40, Try.ntmps40
  go_wp2_with fail
  refine (starts_any _ N _ (upI (W.take N)) _ K1.out rt (by omega)).mono ?_
  rintro e w2 ⟨v, rfl, hown, hb⟩
  obtain ⟨As, cs, rfl, _, ds⟩ := hown.open_
  rw [hSl.out]
  clear hown rt
  generalize startsF (upI (W.take N)) = ST at *
  have r0 := r0.below hb
  have r1 := r1.below hb
  go_wp2_with fail
  clear hmk hmin
  go_loopg [33] (N + 1) (fun m i wr => ∃ k : Nat, k ≤ N ∧ m = N - k + 1 ∧ i = .int .i64 k ∧ wr.rowIs w2.heap.size 4 N (fun q => .bool (hasB f t V W (q : Int) k)) ∧ Below w2.heap.size w2 wr)
  case atStart => exact ⟨0, Nat.zero_le _, rfl, rfl, (World.rowIs_made _ _ _ _).congr (fun i _ => rfl), (Below.refl _ _).alloc (Nat.le_refl _) _⟩
  case round =>
    obtain ⟨k, hk, hm, rfl, hrow, hbw⟩ := hrel
    have Hm := Lib.hid hm
    clear hm
    have hbs := hbw.size
    by_cases hlt : k < N
    · obtain ⟨b, o, p, rfl, hx, f0⟩ := (r0.below hbw).at_ (k := k) (by rw [H0.out]; omega)
      obtain ⟨wd, hwd⟩ : ∃ wd, W[k]? = some wd := ⟨_, List.getElem?_eq_getElem (by rw [H1.out]; omega)⟩
      obtain ⟨b1', o1, rfl, _, hA1⟩ := (r1.below hbw).addr (by rw [upI_len, H1.out]; omega)
      have f1 := hA1 k _ (upI_get hwd)
      obtain ⟨b2, o2, rfl, _, hA2⟩ := (ds.below hbw).addr (by rw [hSl.out]; omega)
      have f2 := hA2 k _ (hS.out k hlt)
      have hsl := sF_le HW.out k
      rw [H1.out] at hsl
      have hwd2 := HW.out wd (List.mem_of_getElem? hwd)
      have hcond : Hid (∀ q : Nat, condB f t V W (q : Int) k = (decide (p = (q : Int)) && (decide (0 < wd) && (decide (f < t) && (decide ((sF W k : Int) < t) && decide (f < ((sF W k + wd : Nat) : Int))))))) := Lib.hid (fun q => by
        unfold condB
        rw [List.getD_eq_getElem?_getD, hx.out, List.getD_eq_getElem?_getD, hwd]
        simp [Bool.and_assoc])
      obtain ⟨S1, hS1⟩ : ∃ S1, S1 = sF W k + wd := ⟨_, rfl⟩
      rw [← hS1] at hcond
      have hw : IntKind.i64.wrap ((sF W k : Int) + (wd : Int)) = (S1 : Int) := by
        rw [hS1, IntWalk.i64_in _ (by omega)]; omega
      have HWD := Lib.hid hwd
      clear hA1 hA2 hwd hS1
      generalize sF W k = s at *
      go_upto_region 8 with (fail)
      go_cut [79] (fun sl wx => ∃ (tb : Bool) (a : Nat), sl = .bool tb ∧ wx = wr.drewN a ∧ Hid (tb = (decide (0 ≤ p) && (decide (p < (N : Int)) && (decide (0 < wd) && (decide (f < t) && (decide ((s : Int) < t) && decide (f < (S1 : Int)))))))))
      case first =>
        by_cases g0 : 0 ≤ p
        rotate_left
        · have d0 : decide (0 ≤ p) = false := decide_eq_false g0
          go_quiet (fail)
          go_wp2_with fail
          go_meet
          exact ⟨false, _, rfl, rfl, Lib.hid (by rw [d0]; rfl)⟩
        have d0 : decide (0 ≤ p) = true := decide_eq_true g0
        by_cases g1 : p < (N : Int)
        rotate_left
        · have d1 : decide (p < (N : Int)) = false := decide_eq_false g1
          go_quiet (fail)
          go_wp2_with fail
          go_meet
          exact ⟨false, _, rfl, rfl, Lib.hid (by rw [d0, d1]; rfl)⟩
        have d1 : decide (p < (N : Int)) = true := decide_eq_true g1
        by_cases g2 : 0 < wd
        rotate_left
        · have d2 : decide (0 < wd) = false := decide_eq_false g2
          have d2' : decide ((0 : Int) < (wd : Int)) = false := decide_eq_false (by omega)
          go_quiet (fail)
          go_wp2_with fail
          go_meet
          exact ⟨false, _, rfl, rfl, Lib.hid (by rw [d0, d1, d2]; rfl)⟩
        have d2 : decide (0 < wd) = true := decide_eq_true g2
        have d2' : decide ((0 : Int) < (wd : Int)) = true := decide_eq_true (by omega)
        by_cases g3 : f < t
        rotate_left
        · have d3 : decide (f < t) = false := decide_eq_false g3
          go_quiet (fail)
          go_wp2_with fail
          go_meet
          exact ⟨false, _, rfl, rfl, Lib.hid (by rw [d0, d1, d2, d3]; rfl)⟩
        have d3 : decide (f < t) = true := decide_eq_true g3
        by_cases g4 : (s : Int) < t
        rotate_left
        · have d4 : decide ((s : Int) < t) = false := decide_eq_false g4
          go_quiet (fail)
          go_wp2_with fail
          go_meet
          exact ⟨false, _, rfl, rfl, Lib.hid (by rw [d0, d1, d2, d3, d4]; rfl)⟩
        have d4 : decide ((s : Int) < t) = true := decide_eq_true g4
        by_cases g5 : f < (S1 : Int)
        rotate_left
        · have d5 : decide (f < (S1 : Int)) = false := decide_eq_false g5
          go_quiet (fail)
          go_wp2_with fail
          go_meet
          exact ⟨false, _, rfl, rfl, Lib.hid (by rw [d0, d1, d2, d3, d4, d5]; rfl)⟩
        have d5 : decide (f < (S1 : Int)) = true := decide_eq_true g5
        go_quiet (fail)
        go_wp2_with fail
        go_meet
        exact ⟨true, _, rfl, rfl, Lib.hid (by rw [d0, d1, d2, d3, d4, d5]; rfl)⟩
      case rest =>
        obtain ⟨tb, a, rfl, rfl, htb⟩ := hcut
        have hrow2 : (wr.drewN a).rowIs w2.heap.size 4 N (fun q => .bool (hasB f t V W (q : Int) k)) := hrow.of_block (by have := (below_drewN (Below.refl (w2.heap.size + 1) wr) a).block w2.heap.size (by omega); exact this)
        have hbw2 : Below w2.heap.size w2 (wr.drewN a) := below_drewN hbw a
        clear hrow hbw
        generalize wr.drewN a = wu at *
        cases tb
        · have hno : Hid (∀ q : Nat, q < N → hasB f t V W (q : Int) (k + 1) = hasB f t V W (q : Int) k) := Lib.hid (fun q hq => by
            rw [hasB_succ, hcond.out q]
            have h := htb.out
            by_cases hp : p = (q : Int)
            · rw [decide_eq_true (show 0 ≤ p by omega), decide_eq_true (show p < (N : Int) by omega), Bool.true_and, Bool.true_and] at h
              rw [decide_eq_true hp, Bool.true_and, ← h, Bool.or_false]
            · rw [decide_eq_false hp, Bool.false_and, Bool.or_false])
          go_wp2_with fail
          go_roundg (N - k)
          case measure => have := Hm.out; omega
          case rel => exact ⟨k + 1, by omega, by omega, by go_num, hrow2.congr (fun q hq => by rw [hno.out q hq]), hbw2⟩
        · have h := htb.out.symm
          rw [Bool.and_eq_true, Bool.and_eq_true, decide_eq_true_eq, decide_eq_true_eq] at h
          obtain ⟨hp0, hpN, hrest⟩ := h
          obtain ⟨q, rfl⟩ : ∃ q : Nat, p = q := ⟨p.toNat, by omega⟩
          have hqN : q < N := by omega
          have hyes : Hid (∀ j : Nat, hasB f t V W (j : Int) (k + 1) = if j = q then true else hasB f t V W (j : Int) k) := Lib.hid (fun j => by
            rw [hasB_succ, hcond.out j, hrest, Bool.and_true]
            by_cases hj : j = q
            · subst hj; rw [if_pos rfl, decide_eq_true rfl, Bool.or_true]
            · rw [if_neg hj, decide_eq_false (by omega), Bool.or_false])
          have hcell := hrow2.cell hqN
          have hfr := hrow2.frozen q
          have Hst := Lib.hid (hrow2.set q (.bool true))
          clear hrow2 htb hp0 hpN hrest
          go_wp2_with fail
          go_roundg (N - k)
          case measure => have := Hm.out; omega
          case rel => exact ⟨k + 1, by omega, by omega, by go_num, Hst.out.congr (fun j hj => by
            rw [hyes.out j]
            by_cases hjq : j = q
            · rw [if_pos hjq, if_pos hjq]
            · rw [if_neg hjq, if_neg hjq]), hbw2.setCell (by simp) _⟩
    · obtain rfl : N = k := by omega
      obtain ⟨wo, rfl⟩ : ∃ wo : World, wo = wr := ⟨_, rfl⟩
      have hblt := hrow.lt
      obtain ⟨h, hh⟩ : ∃ h : Nat → Bool, h = fun p : Nat => hasB f t V W (p : Int) N := ⟨_, rfl⟩
      have hP : Hid (placesF f t V W N = pickF h N) := Lib.hid (by rw [hh]; rfl)
      have hrow1 : wo.rowIs w2.heap.size 4 N (fun q => .bool (h q)) := by rw [hh]; exact hrow
      have hbo := hb.trans (hbw.mono hb.size)
      have hso := hbo.size
      clear hk hrow hh hb r0 r1 ds
      go_wp2_with fail
      clear hlt
      go_loopg [86, 15] (N + 1) (fun m i v wr => ∃ k : Nat, k ≤ N ∧ m = N - k + 1 ∧ i = .int .i64 k ∧ Own wr wo.heap.size v (pickF h k) ∧ Below wo.heap.size wo wr)
      case atStart => exact ⟨0, Nat.zero_le _, rfl, rfl, OwnT.nil _ _ _ _, Below.refl _ _⟩
      case round =>
        clear hbw
        obtain ⟨k, hk, hm, rfl, hown, hbw⟩ := hrel
        have Hm := Lib.hid hm
        clear hm
        have hbs := hbw.size
        by_cases hlt : k < N
        · have hcell := (hrow1.of_block (hbw.block _ hblt)).cell hlt
          have hpl := pickF_len h k
          cases hhk : h k
          · rw [hhk] at hcell
            have hp : Hid (pickF h (k + 1) = pickF h k) := Lib.hid (by rw [pickF_succ, hhk]; simp)
            clear hhk
            go_wp2_with fail
            go_roundg (N - k)
            case measure => have := Hm.out; omega
            case rel => exact ⟨k + 1, by omega, by omega, by go_num, hown.of_eq hp.out.symm, hbw⟩
          · rw [hhk] at hcell
            have hp : Hid (pickF h (k + 1) = pickF h k ++ [(k : Int)]) := Lib.hid (by rw [pickF_succ, hhk]; simp)
            clear hhk
            go_wp2_with (first
              | (at_builtin; refine wpList_pushI _ rfl (.tmp 92) (.tmp 94) rfl wo.heap.size _ _ rfl (hown.alloc _) wr.heap.size k rfl (by simp) (by omega) (by simp; omega) ?_))
            intro v2 w3 hown2 hgrow2
            have hb2 := below_push hbw hbs hown hgrow2
            clear hgrow2
            go_wp2_with fail
            go_roundg (N - k)
            case measure => have := Hm.out; omega
            case rel => exact ⟨k + 1, by omega, by omega, by go_num, hown2.of_eq hp.out.symm, hb2⟩
        · obtain rfl : N = k := by omega
          go_wp2_with fail
          go_ret
          exact ⟨_, rfl, (hown.of_eq hP.out.symm).mono hso, hbo.trans (hbw.mono hso)⟩
end Go.Proofs.Ytamfjmonpbojnaa
