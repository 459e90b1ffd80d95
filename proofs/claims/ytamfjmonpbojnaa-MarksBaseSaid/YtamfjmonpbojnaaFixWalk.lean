/-
  The contracts of marks.mark and marks.Fix.
-/
import Derived.Test.YtamfjmonpbojnaaMarkPlain
import Derived.Test.YtamfjmonpbojnaaRefWalk
import Derived.RegionTactic
import Derived.Deep.DeepCutAuto
namespace Go.Proofs.Ytamfjmonpbojnaa
open Go.RowKit

def markB (c d : Int) : Bool := c == 8 && d == 0
theorem mark_any (c d : Int) (w : World) : Calls Try.prog 45 #[.int .u8 c, .int .i64 d] w fun e w' => e = .returned (.bool (markB c d)) ∧ w' = w := by
  by_cases hc : c = 8
  · have h1 : (c == 8) = true := by simp [hc]
    by_cases hd : d = 0
    · have h2 : (d == 0) = true := by simp [hd]
      have hm : Hid (markB c d = true) := Lib.hid (by simp [markB, hc, hd])
      clear hc hd
      go_enter Try.func45, Try.ntmps45
      go_wp2_with fail
      go_ret
      exact ⟨ret_bool hm.out.symm, rfl⟩
    · have h2 : (d == 0) = false := by simp [hd]
      have hm : Hid (markB c d = false) := Lib.hid (by simp [markB, hd])
      clear hc hd
      go_enter Try.func45, Try.ntmps45
      go_wp2_with fail
      go_ret
      exact ⟨ret_bool hm.out.symm, rfl⟩
  · have h1 : (c == 8) = false := by simp [hc]
    have hm : Hid (markB c d = false) := Lib.hid (by simp [markB, hc])
    clear hc
    go_enter Try.func45, Try.ntmps45
    go_wp2_with fail
    go_ret
    exact ⟨ret_bool hm.out.symm, rfl⟩

theorem min3_run (n1 n2 n3 N : Nat) (h : N = min (min n1 n2) n3) : ∀ (w : World) (ts : Array TypeId) (t : TypeId), (Builtin.min_ ts t #[.int .i64 (n1 : Int), .int .i64 (n2 : Int), .int .i64 (n3 : Int)]).run Try.prog w = .ok (.int .i64 (N : Int)) w := by
  intro w ts t
  simp [Builtin.min_, Builtin.min2]
  by_cases h1 : n2 < n1
  · simp only [if_pos h1]
    split <;> omega
  · simp only [if_neg h1]
    split <;> omega
theorem max_run {x y z : Int} (h : z = max x y) : ∀ (w : World) (ts : Array TypeId) (t : TypeId), (Builtin.max_ ts t #[.int .i64 x, .int .i64 y]).run Try.prog w = .ok (.int .i64 z) w := by
  intro w ts t
  have e : (if y > x then y else x) = z := by
    split <;> omega
  simp [Builtin.max_, Builtin.max2, e]
theorem own_drewN {w : World} {B a : Nat} {v : Value} {zs : List Int} (h : Own w B v zs) : Own (w.drewN a) B v zs := own_below h (below_drewN (Below.refl w.heap.size w) a) (own_lt h)
theorem own_drew {w : World} {B : Nat} {v : Value} {zs : List Int} (h : Own w B v zs) : Own w.drew B v zs := own_below h (below_drew (Below.refl w.heap.size w)) (own_lt h)
theorem mkF_at {L C Wd : List Int} {q : Nat} {l cc d : Int} (h1 : L[q]? = some l) (h2 : C[q]? = some cc) (h3 : Wd[q]? = some d) : mkF L C Wd (q : Int) = (l.tmod 2 == 1 && markB cc d) := by
  unfold mkF markB
  rw [lvF_at h1, Int.toNat_natCast, List.getD_eq_getElem?_getD, List.getD_eq_getElem?_getD, h2, h3]
  simp [Bool.and_assoc]

set_option maxRecDepth 100000 in
set_option maxHeartbeats 4000000 in
theorem fix_any (A : Option Addr) (n c : Nat) (vis : List Int) (A1 : Option Addr) (n1 c1 : Nat) (L : List Int) (A2 : Option Addr) (n2 c2 : Nat) (C : List Int) (A3 : Option Addr) (n3 c3 : Nat) (Wd : List Int) (w : World)
    (hn : vis.length = n) (hn1 : L.length = n1) (hn2 : C.length = n2) (hn3 : Wd.length = n3) (hr : RdI .i64 w A vis) (hr1 : RdI .i64 w A1 L) (hr2 : RdI .u8 w A2 C) (hr3 : RdI .i64 w A3 Wd)
    (hsz : n ≤ 4194304) (hsz1 : n1 ≤ 4194304) (hsz2 : n2 ≤ 4194304) (hsz3 : n3 ≤ 4194304) :
    Calls Try.prog 38 #[.slice A n c, .slice A1 n1 c1, .slice A2 n2 c2, .slice A3 n3 c3] w fun e w' => ∃ v, e = .returned v ∧ Own w' w.heap.size v (fixL L C Wd vis) ∧ Below w.heap.size w w' := by
  have HN := Lib.hid hn
  have HN1 := Lib.hid hn1
  have HN2 := Lib.hid hn2
  have HN3 := Lib.hid hn3
  obtain ⟨N, hN⟩ : ∃ N, N = min (min n1 n2) n3 := ⟨_, rfl⟩
  have hmin := min3_run n1 n2 n3 N hN
  have HF : Hid (fixL L C Wd vis = fixAll (mkF L C Wd) (lvF L) N vis) := Lib.hid (by unfold fixL; rw [hn1, hn2, hn3, hN])
  have hN1 : N ≤ n1 := by omega
  have hN2 : N ≤ n2 := by omega
  have hN3 : N ≤ n3 := by omega
  clear hn hn1 hn2 hn3 hN
  go_enter Try.func38, Try.ntmps38
  go_wp2_with (first
    | (at_builtin; refine wpList_catI _ rfl (.const (.slice none 0 0)) (.tmp 18) rfl w.heap.size _ [] rfl (OwnT.nil _ _ _ _) A n c vis rfl HN.out hr (by simp; omega) (Nat.le_refl _) ?_))
  intro v1 w1 hown hgrow
  have hb : Below w.heap.size w w1 := below_cat (Below.refl _ _) (Nat.le_refl _) (OwnT.nil 3 .i64 w w.heap.size) hgrow
  obtain ⟨Ao, co, rfl, hco, hrd⟩ := hown.open_
  rw [HN.out] at hown hco ⊢
  clear hgrow hr
  go_wp2_with fail
  clear hmin
  go_loop [29] (fun i => ∃ k : Nat, k ≤ n ∧ i = .int .i64 k ∧ Hid (∀ p ∈ vis.take k, ∃ q : Nat, p = q ∧ q < N)) (fun i => n - (intOf i).toNat)
  case atStart => exact ⟨0, Nat.zero_le _, rfl, Lib.hid (by simp)⟩
  case round =>
    obtain ⟨k, hk, rfl, hin⟩ := hrel
    by_cases hlt : k < n
    · obtain ⟨b, o, p, rfl, hx, hc⟩ := hrd.at_ (k := k) (by rw [HN.out]; exact hlt)
      have hbad : Hid (¬ (∃ q : Nat, p = q ∧ q < N) → fixL L C Wd vis = vis) := Lib.hid (fun h => by
        rw [HF.out, fixAll, if_neg]
        rw [insB_iff]
        exact fun h' => h (h' p (List.mem_of_getElem? hx.out)))
      by_cases h0 : p < 0
      · have d0 : decide (p < 0) = true := decide_eq_true h0
        have HB : Hid (fixL L C Wd vis = vis) := Lib.hid (hbad.out (by rintro ⟨q, rfl, _⟩; omega))
        go_wp2_with fail
        go_ret
        exact ⟨_, rfl, hown.of_eq HB.out.symm, hb⟩
      · have d0 : decide (p < 0) = false := decide_eq_false h0
        by_cases h1 : (N : Int) ≤ p
        · have d1 : decide ((N : Int) ≤ p) = true := decide_eq_true h1
          have HB : Hid (fixL L C Wd vis = vis) := Lib.hid (hbad.out (by rintro ⟨q, rfl, _⟩; omega))
          go_wp2_with fail
          go_ret
          exact ⟨_, rfl, hown.of_eq HB.out.symm, hb⟩
        · have d1 : decide ((N : Int) ≤ p) = false := decide_eq_false h1
          have Hin : Hid (∀ p ∈ vis.take (k + 1), ∃ q : Nat, p = q ∧ q < N) := Lib.hid (fun y hy => by
            rw [take_snoc hx.out] at hy
            rcases List.mem_append.1 hy with hy | hy
            · exact hin.out y hy
            · simp at hy; subst hy; exact ⟨y.toNat, by omega, by omega⟩)
          go_wp2_with fail
          go_round
          case rel => exact ⟨k + 1, by omega, by go_num, Hin⟩
          case measure => simp [intOf]; omega
    · have hall : Hid (∀ p ∈ vis, ∃ q : Nat, p = q ∧ q < N) := Lib.hid (fun p hp => hin.out p (by rw [List.take_of_length_le (by rw [HN.out]; omega)]; exact hp))
      have HF2 : Hid (fixL L C Wd vis = fixG (mkF L C Wd) (lvF L) [] vis) := Lib.hid (by rw [HF.out, fixAll, if_pos (insB_iff.2 hall.out)])
      clear hin hrd HF
      obtain ⟨wo, rfl⟩ : ∃ wo : World, wo = w1 := ⟨_, rfl⟩
      go_wp2_with fail
      go_loopg [13] (n + 1) (fun f i wr => ∃ (k : Nat) (pre : List Int), k ≤ n ∧ f = n - k + 1 ∧ i = .int .i64 k ∧ Hid (pre.length = k) ∧ Hid (fixL L C Wd vis = pre ++ fixG (mkF L C Wd) (lvF L) [] (vis.drop k)) ∧ Own wr w.heap.size (.slice Ao n co) (pre ++ vis.drop k) ∧ Below w.heap.size w wr)
      case atStart => exact ⟨0, [], Nat.zero_le _, rfl, rfl, Lib.hid rfl, Lib.hid HF2.out, hown, hb⟩
      case round =>
        clear hown
        obtain ⟨k, pre, hkn, hf, rfl, hpre, hfix, hown, hbw⟩ := hrel
        have Hf := Lib.hid hf
        clear hf
        have hlen : Hid ((pre ++ vis.drop k).length = n) := Lib.hid (by have := hpre.out; have := HN.out; simp; omega)
        have hat : Hid (∀ e, k ≤ e → e < n → ∃ (q : Nat) (l cc d : Int), vis[e]? = some (q : Int) ∧ q < N ∧ L[q]? = some l ∧ C[q]? = some cc ∧ Wd[q]? = some d ∧ (pre ++ vis.drop k).getD e 0 = (q : Int)) := Lib.hid (fun e h1 h2 => by
          obtain ⟨p, hp⟩ : ∃ p, vis[e]? = some p := ⟨_, List.getElem?_eq_getElem (by rw [HN.out]; exact h2)⟩
          obtain ⟨q, rfl, hq⟩ := hall.out p (List.mem_of_getElem? hp)
          refine ⟨q, _, _, _, hp, hq, List.getElem?_eq_getElem (by rw [HN1.out]; omega), List.getElem?_eq_getElem (by rw [HN2.out]; omega), List.getElem?_eq_getElem (by rw [HN3.out]; omega), ?_⟩
          rw [List.getD_eq_getElem?_getD, List.getElem?_append_right (by rw [hpre.out]; omega), hpre.out, List.getElem?_drop, show k + (e - k) = e by omega, hp]
          rfl)
        obtain ⟨lst, hlst⟩ : ∃ lst, lst = pre ++ vis.drop k := ⟨_, rfl⟩
        rw [← hlst] at hlen hat hown
        have HLST := Lib.hid hlst
        clear hlst
        by_cases hlt : k < n
        · obtain ⟨g, rfl, hgB, hgl⟩ := own_block hown (by omega) hlen.out
          obtain ⟨q0, l0, cc0, d0, _, hq0, _⟩ := hat.out k (Nat.le_refl _) hlt
          obtain ⟨b1, o1, rfl, hbl1, hA1⟩ := hr1.addr (by rw [HN1.out]; omega)
          obtain ⟨b2, o2, rfl, hbl2, hA2⟩ := hr2.addr (by rw [HN2.out]; omega)
          obtain ⟨b3, o3, rfl, hbl3, hA3⟩ := hr3.addr (by rw [HN3.out]; omega)
          have HA : Hid (∀ (wq : World) (q : Nat) (l cc d : Int), Below w.heap.size w wq → L[q]? = some l → C[q]? = some cc → Wd[q]? = some d → wq.cell? ⟨b1, o1 + q, none⟩ = some (.int .i64 l) ∧ wq.cell? ⟨b2, o2 + q, none⟩ = some (.int .u8 cc) ∧ wq.cell? ⟨b3, o3 + q, none⟩ = some (.int .i64 d)) := Lib.hid (fun wq q l cc d hb h1 h2 h3 =>
            ⟨(hb.cell (p := ⟨b1, o1 + q, none⟩) hbl1).trans (hA1 q l h1), (hb.cell (p := ⟨b2, o2 + q, none⟩) hbl2).trans (hA2 q cc h2), (hb.cell (p := ⟨b3, o3 + q, none⟩) hbl3).trans (hA3 q d h3)⟩)
          clear hA1 hA2 hA3 hq0 hbl1 hbl2 hbl3
          obtain ⟨wv, rfl⟩ : ∃ wv : World, wv = wr := ⟨_, rfl⟩
          go_wp2_with fail
          go_loopg [14] (n - k + 1) (fun f i wr => ∃ e : Nat, k ≤ e ∧ e ≤ n ∧ f = n - e + 1 ∧ i = .int .i64 e ∧ Hid (∀ z ∈ (vis.drop k).take (e - k), mkF L C Wd z = true) ∧ Own wr w.heap.size (.slice (some ⟨g, 0, none⟩) n co) lst ∧ Below w.heap.size w wr)
          case atStart => exact ⟨k, Nat.le_refl _, hkn, rfl, rfl, Lib.hid (by simp), hown, hbw⟩
          case round =>
            clear hown hbw
            obtain ⟨e, hke, hen, hf, rfl, hmk, hown, hbw⟩ := hrel
            have Hf3 := Lib.hid hf
            clear hf
            go_upto_region 13 with (fail)
            go_cut [80] (fun s wx => ∃ (tb : Bool) (a : Nat), s = .bool tb ∧ wx = wr.drewN a ∧ Hid ((tb = true ∧ e < n ∧ ∀ y, vis[e]? = some y → mkF L C Wd y = true) ∨ (tb = false ∧ ∀ y, vis[e]? = some y → mkF L C Wd y = false)))
            case first =>
              by_cases hlt2 : e < n
              · obtain ⟨q, l, cc, d, hv, hq, h1, h2, h3, hg⟩ := hat.out e hke hlt2
                obtain ⟨f1, f2, f3⟩ := HA.out wr q l cc d hbw h1 h2 h3
                have f0 := own_cell hown hlen.out hlt2
                rw [hg] at f0
                have hqn1 : q < n1 := by omega
                have hqn2 : q < n2 := by omega
                have hqn3 : q < n3 := by omega
                have hM := Lib.hid (mkF_at h1 h2 h3)
                have HV := Lib.hid hv
                clear hv h1 h2 h3 hg
                cases ht : l.tmod 2 == 1
                · have HT := Lib.hid ht
                  go_quiet (fail)
                  go_wp2_with fail
                  go_meet
                  exact ⟨false, _, rfl, rfl, Lib.hid (.inr ⟨rfl, fun y hy => by rw [HV.out] at hy; obtain rfl := Option.some.inj hy; rw [hM.out, HT.out]; rfl⟩)⟩
                · cases hm : markB cc d
                  all_goals
                    have HT := Lib.hid ht
                    have HM := Lib.hid hm
                    go_quiet ((go_at_call 45; exact Calls.quiet_of_same (mark_any _ _ _)))
                    go_wp2_with fail
                    go_meet
                  · exact ⟨false, _, rfl, rfl, Lib.hid (.inr ⟨rfl, fun y hy => by rw [HV.out] at hy; obtain rfl := Option.some.inj hy; rw [hM.out, HT.out, HM.out]; rfl⟩)⟩
                  · exact ⟨true, _, rfl, rfl, Lib.hid (.inl ⟨rfl, hlt2, fun y hy => by rw [HV.out] at hy; obtain rfl := Option.some.inj hy; rw [hM.out, HT.out, HM.out]; rfl⟩)⟩
              · have hd : decide (e < n) = false := decide_eq_false hlt2
                go_quiet (fail)
                go_wp2_with fail
                go_meet
                exact ⟨false, _, rfl, rfl, Lib.hid (.inr ⟨rfl, fun y hy => by
                  have := (List.getElem?_eq_some_iff.1 hy).1
                  rw [HN.out] at this
                  omega⟩)⟩
            case rest =>
              obtain ⟨tb, a, rfl, rfl, htb⟩ := hcut
              have hown2 : Own (wr.drewN a) w.heap.size (.slice (some ⟨g, 0, none⟩) n co) lst := own_drewN hown
              have hbw2 : Below w.heap.size w (wr.drewN a) := below_drewN hbw a
              clear hown hbw
              generalize wr.drewN a = wr2 at *
              cases tb
              · have hnm : Hid (∀ y, vis[e]? = some y → mkF L C Wd y = false) := Lib.hid (by rcases htb.out with ⟨h, _⟩ | ⟨_, h⟩; cases h; exact h)
                clear htb
                go_wp2_with fail
                go_upto_region 15 with (fail)
                go_cut [108] (fun s wx => ∃ (tb : Bool) (a : Nat), s = .bool tb ∧ wx = wr2.drewN a ∧ Hid ((tb = true ∧ ∃ e', e' = max (k + 1) e ∧ e' ≤ n ∧ fixG (mkF L C Wd) (lvF L) [] (vis.drop k) = (vis.drop k).take (e' - k) ++ fixG (mkF L C Wd) (lvF L) [] (vis.drop e')) ∨
                  (tb = false ∧ k < e ∧ e < n ∧ fixG (mkF L C Wd) (lvF L) [] (vis.drop k) = ((vis.drop k).take (e + 1 - k)).reverse ++ fixG (mkF L C Wd) (lvF L) [] (vis.drop (e + 1)))))
                case first =>
                  by_cases hek : e = k
                  · obtain rfl : k = e := hek.symm
                    have hg : Hid (∃ e', e' = max (k + 1) k ∧ e' ≤ n ∧ fixG (mkF L C Wd) (lvF L) [] (vis.drop k) = (vis.drop k).take (e' - k) ++ fixG (mkF L C Wd) (lvF L) [] (vis.drop e')) := Lib.hid ⟨k + 1, by omega, by omega, by
                      obtain ⟨y, hy⟩ : ∃ y, vis[k]? = some y := ⟨_, List.getElem?_eq_getElem (by rw [HN.out]; exact hlt)⟩
                      rw [fix_one hy (hnm.out y hy), show k + 1 - k = 1 by omega, drop_cons_of hy]; rfl⟩
                    have dk : ((k : Int) == (k : Int)) = true := by simp
                    go_quiet (fail)
                    go_wp2_with fail
                    go_meet
                    exact ⟨true, _, rfl, rfl, Lib.hid (.inl ⟨rfl, hg.out⟩)⟩
                  · have hke2 : k < e := by omega
                    have dk : ((e : Int) == (k : Int)) = false := beq_eq_false_iff_ne.2 (by omega)
                    by_cases hen2 : e = n
                    · obtain rfl : n = e := hen2.symm
                      have dn : ((n : Int) == (n : Int)) = true := by simp
                      have hg : Hid (∃ e', e' = max (k + 1) n ∧ e' ≤ n ∧ fixG (mkF L C Wd) (lvF L) [] (vis.drop k) = (vis.drop k).take (e' - k) ++ fixG (mkF L C Wd) (lvF L) [] (vis.drop e')) := Lib.hid ⟨n, by omega, by omega, fix_end hmk.out hke (by rw [HN.out]; exact Nat.le_refl _)⟩
                      clear hek
                      go_quiet (fail)
                      go_wp2_with fail
                      go_meet
                      exact ⟨true, _, rfl, rfl, Lib.hid (.inl ⟨rfl, hg.out⟩)⟩
                    · have hlt2 : e < n := by omega
                      have dn : ((e : Int) == (n : Int)) = false := beq_eq_false_iff_ne.2 (by omega)
                      obtain ⟨q, l, cc, d, hv, hq, h1, h2, h3, hg⟩ := hat.out e hke hlt2
                      obtain ⟨q', l', cc', d', hv', hq', h1', h2', h3', hg'⟩ := hat.out k (Nat.le_refl _) hlt
                      obtain ⟨f1, _, _⟩ := HA.out wr2 q l cc d hbw2 h1 h2 h3
                      obtain ⟨f1', _, _⟩ := HA.out wr2 q' l' cc' d' hbw2 h1' h2' h3'
                      have f0 := own_cell hown2 hlen.out hlt2
                      have f0' := own_cell hown2 hlen.out hlt
                      rw [hg] at f0
                      rw [hg'] at f0'
                      have hqn1 : q < n1 := by omega
                      have hqn1' : q' < n1 := by omega
                      have hl : Hid (lvF L (q : Int) = l ∧ lvF L (q' : Int) = l') := Lib.hid ⟨lvF_at h1, lvF_at h1'⟩
                      have HV := Lib.hid hv
                      have HV' := Lib.hid hv'
                      have HNM := Lib.hid (hnm.out _ hv)
                      clear hv hv' h1 h2 h3 hg h1' h2' h3' hg' hek hen2
                      by_cases hll : l = l'
                      · have hx : Hid (fixG (mkF L C Wd) (lvF L) [] (vis.drop k) = ((vis.drop k).take (e + 1 - k)).reverse ++ fixG (mkF L C Wd) (lvF L) [] (vis.drop (e + 1))) := Lib.hid (fix_turn hke2 hmk.out HV'.out HV.out HNM.out (by rw [hl.out.1, hl.out.2, hll]))
                        have dl : (l != l') = false := by simp [hll]
                        clear hll
                        go_quiet (fail)
                        go_wp2_with fail
                        go_meet
                        exact ⟨false, _, rfl, rfl, Lib.hid (.inr ⟨rfl, hke2, hlt2, hx.out⟩)⟩
                      · have hx : Hid (∃ e', e' = max (k + 1) e ∧ e' ≤ n ∧ fixG (mkF L C Wd) (lvF L) [] (vis.drop k) = (vis.drop k).take (e' - k) ++ fixG (mkF L C Wd) (lvF L) [] (vis.drop e')) := Lib.hid ⟨e, by omega, by omega, fix_stay hke2 hmk.out HV'.out HV.out HNM.out (by rw [hl.out.1, hl.out.2]; exact hll)⟩
                        have dl : (l != l') = true := by simp [hll]
                        clear hll
                        go_quiet (fail)
                        go_wp2_with fail
                        go_meet
                        exact ⟨true, _, rfl, rfl, Lib.hid (.inl ⟨rfl, hx.out⟩)⟩
                case rest =>
                  obtain ⟨tb, a2, rfl, rfl, htb⟩ := hcut
                  have hown3 : Own (wr2.drewN a2) w.heap.size (.slice (some ⟨g, 0, none⟩) n co) lst := own_drewN hown2
                  have hbw3 : Below w.heap.size w (wr2.drewN a2) := below_drewN hbw2 a2
                  clear hown2 hbw2 hnm hmk
                  generalize wr2.drewN a2 = wr3 at *
                  cases tb
                  · obtain ⟨_, hke2, hlt2, hx⟩ := htb.out.resolve_left (by rintro ⟨h, _⟩; cases h)
                    have HX := Lib.hid hx
                    clear hx htb
                    go_wp2_with fail
                    obtain ⟨wz, rfl⟩ : ∃ wz : World, wz = wr3 := ⟨_, rfl⟩
                    go_loopg [16, 17] (n + 1) (fun f i t wr => ∃ (j : Nat) (kk : Int), k + j ≤ e + 1 ∧ f = n + 1 - j ∧ i = .int .i64 j ∧ t = .int .i64 kk ∧ Hid (kk = (e : Int) - k - j) ∧ Own wr w.heap.size (.slice (some ⟨g, 0, none⟩) n co) (swF lst k (e + 1) j) ∧ Below w.heap.size w wr)
                    case atStart => exact ⟨0, _, by omega, rfl, rfl, rfl, Lib.hid (by omega), hown3.of_eq swF_zero.symm, hbw3⟩
                    case round =>
                      clear hown3 hbw3
                      obtain ⟨p, kk, hp, hf, rfl, rfl, hkk, hown, hbw⟩ := hrel
                      have Hf4 := Lib.hid hf
                      clear hf
                      have hkb : kk ≤ 4294967296 := by have := hkk.out; omega
                      have hkl : -4294967296 ≤ kk := by have := hkk.out; omega
                      by_cases hpk : (p : Int) < kk
                      · obtain ⟨q, rfl⟩ : ∃ q : Nat, kk = q := ⟨kk.toNat, by omega⟩
                        have hpq : p < q := by omega
                        have hq : q < e + 1 - k := by have := hkk.out; omega
                        have hp' : p < e + 1 - k := by omega
                        have hsl : (swF lst k (e + 1) p).length = n := by rw [swF_len, hlen.out]
                        have f1 := own_cell (k := k + p) hown hsl (by omega)
                        have f2 := own_cell (k := k + q) hown hsl (by omega)
                        have hkq : k + q = e + 1 - 1 - p := by have := hkk.out; omega
                        have e1 : (swF lst k (e + 1) p).getD (k + p) 0 = lst.getD (k + p) 0 := by
                          rw [List.getD_eq_getElem?_getD, swF_get (by rw [hlen.out]; omega)]
                          simp only [Option.getD_some]
                          unfold swV
                          rw [if_neg (by omega)]
                        have e2 : (swF lst k (e + 1) p).getD (k + q) 0 = lst.getD (k + q) 0 := by
                          rw [List.getD_eq_getElem?_getD, swF_get (by rw [hlen.out]; omega)]
                          simp only [Option.getD_some]
                          unfold swV
                          rw [if_neg (by omega)]
                        rw [e1] at f1
                        rw [e2] at f2
                        have g1 := own_frozen (k := k + p) hown hsl
                        have g2 := own_frozen (k := k + q) hown hsl
                        have e3 : ((swF lst k (e + 1) p).set (k + p) (lst.getD (k + q) 0)).set (k + q) (lst.getD (k + p) 0) = swF lst k (e + 1) (p + 1) := by
                          rw [hkq]
                          exact swF_step (by omega)
                        have st := own_store (k := k + q) (own_store (k := k + p) hown hsl (lst.getD (k + q) 0)) (by rw [List.length_set, hsl]) (lst.getD (k + p) 0)
                        rw [e3] at st
                        have hne : q ≠ p := by omega
                        have hne' : p ≠ q := by omega
                        clear e1 e2 e3 hsl hpk hkb hkl hkq
                        generalize lst.getD (k + p) 0 = X at *
                        generalize lst.getD (k + q) 0 = Y at *
                        have Hst := Lib.hid st
                        clear st
                        go_wp2_with fail
                        go_region
                        all_goals go_wp2_with fail
                        go_roundg (n - p)
                        case measure => have := Hf4.out; omega
                        case rel => exact ⟨p + 1, (q : Int) - 1, by omega, by omega, by go_num, rfl, Lib.hid (by have := hkk.out; omega), own_drew Hst.out, below_drew ((hbw.setCell hgB _).setCell hgB _)⟩
                      · have HR : Hid (swF lst k (e + 1) p = pre ++ ((vis.drop k).take (e + 1 - k)).reverse ++ vis.drop (e + 1)) := Lib.hid (by
                          rw [swF_done (by omega) (by rw [hlen.out]; omega) (by have := hkk.out; omega), HLST.out, revAt_mid hpre.out (by omega)])
                        go_wp2_with fail
                        go_roundg (n - (e + 1) + 1)
                        case measure => have := Hf.out; omega
                        case rel => exact ⟨e + 1, pre ++ ((vis.drop k).take (e + 1 - k)).reverse, by omega, rfl, by go_num, Lib.hid (by have := hpre.out; have := HN.out; simp; omega), Lib.hid (by rw [hfix.out, HX.out, List.append_assoc]), hown.of_eq HR.out, hbw⟩
                  · obtain ⟨_, e', he', hen', hx⟩ := htb.out.resolve_right (by rintro ⟨h, _⟩; cases h)
                    have hmax := max_run (x := (k : Int)) (y := (e : Int) - 1) (z := (e' : Int) - 1) (by omega)
                    have HX := Lib.hid hx
                    have hee : k < e' := by omega
                    have HE' : Hid (pre ++ (vis.drop k).take (e' - k) ++ vis.drop e' = lst) := Lib.hid (by rw [HLST.out, List.append_assoc, ← drop_split vis (Nat.le_of_lt hee)])
                    clear hx htb he'
                    go_wp2_with fail
                    go_roundg (n - e' + 1)
                    case measure => have := Hf.out; omega
                    case rel => exact ⟨e', pre ++ (vis.drop k).take (e' - k), by omega, rfl, by go_num, Lib.hid (by have := hpre.out; have := HN.out; simp; omega), Lib.hid (by rw [hfix.out, HX.out, List.append_assoc]), hown3.of_eq HE'.out.symm, hbw3⟩
              · obtain ⟨_, hlt2, hmk2⟩ := (htb.out.resolve_right (by rintro ⟨h, _⟩; cases h))
                have Hmk : Hid (∀ z ∈ (vis.drop k).take (e + 1 - k), mkF L C Wd z = true) := Lib.hid (by
                  obtain ⟨y, hy⟩ : ∃ y, vis[e]? = some y := ⟨_, List.getElem?_eq_getElem (by rw [HN.out]; exact hlt2)⟩
                  rw [show e + 1 - k = (e - k) + 1 by omega, take_snoc (show (vis.drop k)[e - k]? = some y by rw [List.getElem?_drop, show k + (e - k) = e by omega]; exact hy)]
                  intro z hz
                  rcases List.mem_append.1 hz with hz | hz
                  · exact hmk.out z hz
                  · simp at hz; subst hz; exact hmk2 _ hy)
                clear hmk2 htb hmk
                go_wp2_with fail
                go_roundg (n - e)
                case measure => have := Hf3.out; omega
                case rel => exact ⟨e + 1, by omega, by omega, by omega, by go_num, Hmk, hown2, hbw2⟩
        · have hkn' : n ≤ k := by omega
          have HE : Hid (lst = fixL L C Wd vis) := Lib.hid (by rw [HLST.out, hfix.out, List.drop_of_length_le (by rw [HN.out]; exact hkn'), fixG_nil]; rfl)
          go_wp2_with fail
          go_ret
          exact ⟨_, rfl, hown.of_eq HE.out, hbw⟩
end Go.Proofs.Ytamfjmonpbojnaa
