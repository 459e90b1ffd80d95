/-
  The contracts of boustrophedonlaw26.mark and boustrophedonlaw26.want.
-/
import Derived.Test.YtamfjmonpbojnaaFixWalk
namespace Go.Proofs.Ytamfjmonpbojnaa
open Go.RowKit

theorem mark26_any (A1 : Option Addr) (n1 c1 : Nat) (L : List Int) (A2 : Option Addr) (n2 c2 : Nat) (C : List Int) (A3 : Option Addr) (n3 c3 : Nat) (Wd : List Int) (q : Nat) (w : World)
    (hn1 : L.length = n1) (hn2 : C.length = n2) (hn3 : Wd.length = n3) (hr1 : RdI .i64 w A1 L) (hr2 : RdI .u8 w A2 C) (hr3 : RdI .i64 w A3 Wd) (hq1 : q < n1) (hq2 : q < n2) (hq3 : q < n3) :
    Calls Try.prog 46 #[.slice A1 n1 c1, .slice A2 n2 c2, .slice A3 n3 c3, .int .i64 q] w fun e w' => e = .returned (.bool (mkF L C Wd (q : Int))) ∧ w' = w := by
  obtain ⟨b1, o1, l, rfl, h1, f1⟩ := hr1.at_ (k := q) (by omega)
  obtain ⟨b2, o2, cc, rfl, h2, f2⟩ := hr2.at_ (k := q) (by omega)
  obtain ⟨b3, o3, d, rfl, h3, f3⟩ := hr3.at_ (k := q) (by omega)
  have hM := mkF_at h1.out h2.out h3.out
  unfold markB at hM
  clear hr1 hr2 hr3 hn1 hn2 hn3 h1 h2 h3
  cases ht : l.tmod 2 == 1
  · have hm : Hid (mkF L C Wd (q : Int) = false) := Lib.hid (by rw [hM, ht]; rfl)
    clear hM
    go_enter Try.func46, Try.ntmps46
    go_wp2_with fail
    go_ret
    exact ⟨ret_bool hm.out.symm, rfl⟩
  · cases hc : cc == 8
    · have hm : Hid (mkF L C Wd (q : Int) = false) := Lib.hid (by rw [hM, ht, hc]; rfl)
      clear hM
      go_enter Try.func46, Try.ntmps46
      go_wp2_with fail
      go_ret
      exact ⟨ret_bool hm.out.symm, rfl⟩
    · cases hd : d == 0
      · have hm : Hid (mkF L C Wd (q : Int) = false) := Lib.hid (by rw [hM, ht, hc, hd]; rfl)
        clear hM
        go_enter Try.func46, Try.ntmps46
        go_wp2_with fail
        go_ret
        exact ⟨ret_bool hm.out.symm, rfl⟩
      · have hm : Hid (mkF L C Wd (q : Int) = true) := Lib.hid (by rw [hM, ht, hc, hd]; rfl)
        clear hM
        go_enter Try.func46, Try.ntmps46
        go_wp2_with fail
        go_ret
        exact ⟨ret_bool hm.out.symm, rfl⟩

/-- what want comes to -/
def WantPost (w : World) (n : Nat) (out : List Int) (e : Ending) (w' : World) : Prop := ∃ A c, e = .returned (.slice A n c) ∧ RdI .i64 w' A out ∧ Below w.heap.size w w'

set_option maxRecDepth 100000 in
set_option maxHeartbeats 4000000 in
theorem want_any (A : Option Addr) (n c : Nat) (vis : List Int) (A1 : Option Addr) (n1 c1 : Nat) (L : List Int) (A2 : Option Addr) (n2 c2 : Nat) (C : List Int) (A3 : Option Addr) (n3 c3 : Nat) (Wd : List Int) (w : World)
    (hn : vis.length = n) (hn1 : L.length = n1) (hn2 : C.length = n2) (hn3 : Wd.length = n3) (hr : RdI .i64 w A vis) (hr1 : RdI .i64 w A1 L) (hr2 : RdI .u8 w A2 C) (hr3 : RdI .i64 w A3 Wd)
    (hsz : n ≤ 4194304) (hsz1 : n1 ≤ 4194304) (hnc : n ≤ c) :
    Calls Try.prog 39 #[.slice A n c, .slice A1 n1 c1, .slice A2 n2 c2, .slice A3 n3 c3] w (WantPost w n (fixL L C Wd vis)) := by
  have HN := Lib.hid hn
  have HN1 := Lib.hid hn1
  have HN2 := Lib.hid hn2
  have HN3 := Lib.hid hn3
  obtain ⟨N, hN⟩ : ∃ N, N = min (min n1 n2) n3 := ⟨_, rfl⟩
  have hmin := min3_run n1 n2 n3 N hN
  have HF : Hid (fixL L C Wd vis = fixAll (mkF L C Wd) (lvF L) N vis) := Lib.hid (by unfold fixL; rw [hn1, hn2, hn3, hN])
  have hN1 : N ≤ n1 := by omega
  have hN2 : N ≤ n2 := by omega
  have hN3 : N ≤ n3 := by omega
  clear hn hn1 hn2 hn3 hN
  go_enter Try.func39, Try.ntmps39
  go_wp2_with fail
  clear hmin
  go_loop [11] (fun i => ∃ k : Nat, k ≤ n ∧ i = .int .i64 k ∧ Hid (∀ p ∈ vis.take k, ∃ q : Nat, p = q ∧ q < N)) (fun i => n - (intOf i).toNat)
  case atStart => exact ⟨0, Nat.zero_le _, rfl, Lib.hid (by simp)⟩
  case round =>
    obtain ⟨k, hk, rfl, hin⟩ := hrel
    by_cases hlt : k < n
    · obtain ⟨b, o, p, rfl, hx, hc⟩ := hr.at_ (k := k) (by rw [HN.out]; exact hlt)
      have hbad : Hid (¬ (∃ q : Nat, p = q ∧ q < N) → fixL L C Wd vis = vis) := Lib.hid (fun h => by
        rw [HF.out, fixAll, if_neg]
        rw [insB_iff]
        exact fun h' => h (h' p (List.mem_of_getElem? hx.out)))
      by_cases h0 : p < 0
      · have d0 : decide (p < 0) = true := decide_eq_true h0
        have HB : Hid (fixL L C Wd vis = vis) := Lib.hid (hbad.out (by rintro ⟨q, rfl, _⟩; omega))
        go_wp2_with fail
        go_ret
        exact ⟨_, _, rfl, by rw [HB.out]; exact hr, Below.refl _ _⟩
      · have d0 : decide (p < 0) = false := decide_eq_false h0
        by_cases h1 : (N : Int) ≤ p
        · have d1 : decide ((N : Int) ≤ p) = true := decide_eq_true h1
          have HB : Hid (fixL L C Wd vis = vis) := Lib.hid (hbad.out (by rintro ⟨q, rfl, _⟩; omega))
          go_wp2_with fail
          go_ret
          exact ⟨_, _, rfl, by rw [HB.out]; exact hr, Below.refl _ _⟩
        · have d1 : decide ((N : Int) ≤ p) = false := decide_eq_false h1
          have Hin : Hid (∀ p ∈ vis.take (k + 1), ∃ q : Nat, p = q ∧ q < N) := Lib.hid (fun y hy => by
            rw [take_snoc hx.out] at hy
            rcases List.mem_append.1 hy with hy | hy
            · exact hin.out y hy
            · simp at hy; subst hy; exact ⟨y.toNat, by omega, by omega⟩)
          go_wp2_with fail
          go_round
          case rel => exact ⟨k + 1, by omega, by go_num, Hin⟩
          case measure => simp [intOf]; omega
    · have hall : Hid (∀ p ∈ vis, ∃ q : Nat, p = q ∧ q < N) := Lib.hid (fun p hp => hin.out p (by rw [List.take_of_length_le (by rw [HN.out]; omega)]; exact hp))
      have HF2 : Hid (fixL L C Wd vis = fixG (mkF L C Wd) (lvF L) [] vis) := Lib.hid (by rw [HF.out, fixAll, if_pos (insB_iff.2 hall.out)])
      clear hin HF
      go_wp2_with fail
      clear hlt hk
      go_loopg [12, 10] (n + 1) (fun f i v wr => ∃ (k : Nat) (pre : List Int), k ≤ n ∧ f = n - k + 1 ∧ i = .int .i64 k ∧ Hid (pre.length = k) ∧ Hid (fixL L C Wd vis = pre ++ fixG (mkF L C Wd) (lvF L) [] (vis.drop k)) ∧ Own wr w.heap.size v pre ∧ Below w.heap.size w wr)
      case atStart => exact ⟨0, [], Nat.zero_le _, rfl, rfl, Lib.hid rfl, Lib.hid HF2.out, OwnT.nil _ _ _ _, Below.refl _ _⟩
      case round =>
        obtain ⟨k, pre, hkn, hf, rfl, hpre, hfix, hown, hb⟩ := hrel
        have Hf := Lib.hid hf
        clear hf
        have hbs := hb.size
        have hat : Hid (∀ e, e < n → ∃ q : Nat, vis[e]? = some (q : Int) ∧ q < N) := Lib.hid (fun e h2 => by
          obtain ⟨p, hp⟩ : ∃ p, vis[e]? = some p := ⟨_, List.getElem?_eq_getElem (by rw [HN.out]; exact h2)⟩
          obtain ⟨q, rfl, hq⟩ := hall.out p (List.mem_of_getElem? hp)
          exact ⟨q, hp, hq⟩)
        by_cases hlt : k < n
        · obtain ⟨b, o, rfl, hbl, hA⟩ := hr.addr (by rw [HN.out]; omega)
          have HA : Hid (∀ (wq : World) (e : Nat) (x : Int), Below w.heap.size w wq → vis[e]? = some x → wq.cell? ⟨b, o + e, none⟩ = some (.int .i64 x)) := Lib.hid (fun wq e x hb hx => (hb.cell (p := ⟨b, o + e, none⟩) hbl).trans (hA e x hx))
          clear hA hbl
          have hs1 := hr1.below hb
          have hs2 := hr2.below hb
          have hs3 := hr3.below hb
          obtain ⟨wv, rfl⟩ : ∃ wv : World, wv = wr := ⟨_, rfl⟩
          go_wp2_with fail
          go_loop [13] (fun i => ∃ e : Nat, k ≤ e ∧ e ≤ n ∧ i = .int .i64 e ∧ Hid (∀ z ∈ (vis.drop k).take (e - k), mkF L C Wd z = true)) (fun i => n - (intOf i).toNat)
          case atStart => exact ⟨k, Nat.le_refl _, hkn, rfl, Lib.hid (by simp)⟩
          case round =>
            obtain ⟨e, hke, hen, rfl, hmk⟩ := hrel
            go_upto_region 11 with (fail)
            go_cut [60] (fun s wx => ∃ (tb : Bool), s = .bool tb ∧ wx = wv ∧ Hid ((tb = true ∧ e < n ∧ ∀ y, vis[e]? = some y → mkF L C Wd y = true) ∨ (tb = false ∧ ∀ y, vis[e]? = some y → mkF L C Wd y = false)))
            case first =>
              by_cases hlt2 : e < n
              · obtain ⟨q, hv, hq⟩ := hat.out e hlt2
                have f0 := HA.out wv e _ hb hv
                have HV := Lib.hid hv
                clear hv
                go_wp2_with (go_at_call 46; refine (mark26_any _ n1 _ L _ n2 _ C _ n3 _ Wd q _ HN1.out HN2.out HN3.out hs1 hs2 hs3 (by omega) (by omega) (by omega)).mono ?_; rintro e' w' ⟨rfl, rfl⟩)
                go_meet
                refine ⟨_, rfl, rfl, Lib.hid ?_⟩
                cases hm : mkF L C Wd (q : Int)
                · exact .inr ⟨rfl, fun y hy => by rw [HV.out] at hy; obtain rfl := Option.some.inj hy; exact hm⟩
                · exact .inl ⟨rfl, hlt2, fun y hy => by rw [HV.out] at hy; obtain rfl := Option.some.inj hy; exact hm⟩
              · have hd : decide (e < n) = false := decide_eq_false hlt2
                go_wp2_with fail
                go_meet
                exact ⟨false, rfl, rfl, Lib.hid (.inr ⟨rfl, fun y hy => by
                  have := (List.getElem?_eq_some_iff.1 hy).1
                  rw [HN.out] at this
                  omega⟩)⟩
            case rest =>
              obtain ⟨tb, rfl, hwx, htb⟩ := hcut
              obtain rfl : wv = _ := hwx.symm
              clear hwx
              cases tb
              · have hnm : Hid (∀ y, vis[e]? = some y → mkF L C Wd y = false) := Lib.hid (by rcases htb.out with ⟨h, _⟩ | ⟨_, h⟩; cases h; exact h)
                clear htb
                by_cases hek : e = k
                · obtain rfl : k = e := hek.symm
                  obtain ⟨q, hv, hq⟩ := hat.out k hlt
                  have f0 := HA.out wv k _ hb hv
                  have hx : Hid (fixL L C Wd vis = (pre ++ [(q : Int)]) ++ fixG (mkF L C Wd) (lvF L) [] (vis.drop (k + 1))) := Lib.hid (by rw [hfix.out, fix_one hv (hnm.out _ hv)]; simp)
                  have dk : ((k : Int) == (k : Int)) = true := by simp
                  have hpl : pre.length ≤ 4294967296 := by have := hpre.out; omega
                  clear hv hek
                  go_wp2_with (first
                    | (at_builtin; refine wpList_pushI _ rfl (.tmp 66) (.tmp 71) rfl w.heap.size _ _ rfl (hown.alloc _) wv.heap.size q rfl (by simp) hpl (by simp; omega) ?_))
                  intro v2 w2 hown2 hgrow2
                  have hb2 := below_push hb hbs hown hgrow2
                  clear hgrow2
                  go_wp2_with fail
                  go_roundg (n - k)
                  case measure => have := Hf.out; omega
                  case rel => exact ⟨k + 1, _, by omega, by omega, by go_num, Lib.hid (by rw [List.length_append, hpre.out]; rfl), hx, hown2, hb2⟩
                · have hke2 : k < e := by omega
                  have dk : ((e : Int) == (k : Int)) = false := beq_eq_false_iff_ne.2 (by omega)
                  clear hek
                  go_wp2_with fail
                  go_upto_region 16 with (fail)
                  go_cut [95] (fun s wx => ∃ (tb : Bool) (a : Nat), s = .bool tb ∧ wx = wv.drewN a ∧ Hid ((tb = false ∧ fixG (mkF L C Wd) (lvF L) [] (vis.drop k) = (vis.drop k).take (e - k) ++ fixG (mkF L C Wd) (lvF L) [] (vis.drop e)) ∨
                    (tb = true ∧ e < n ∧ fixG (mkF L C Wd) (lvF L) [] (vis.drop k) = ((vis.drop k).take (e + 1 - k)).reverse ++ fixG (mkF L C Wd) (lvF L) [] (vis.drop (e + 1)))))
                  case first =>
                    by_cases hlt2 : e < n
                    · obtain ⟨q, hv, hq⟩ := hat.out e hlt2
                      obtain ⟨q', hv', hq'⟩ := hat.out k hlt
                      have f0 := HA.out wv e _ hb hv
                      have f0' := HA.out wv k _ hb hv'
                      obtain ⟨b1, o1, rfl, _, hA1⟩ := hs1.addr (by rw [HN1.out]; omega)
                      have hl1 : L[q]? = some (L.getD q 0) := get_getD (by rw [HN1.out]; omega)
                      have hl2 : L[q']? = some (L.getD q' 0) := get_getD (by rw [HN1.out]; omega)
                      have f1 := hA1 q _ hl1
                      have f1' := hA1 q' _ hl2
                      have hl : Hid (lvF L (q : Int) = L.getD q 0 ∧ lvF L (q' : Int) = L.getD q' 0) := Lib.hid ⟨lvF_at hl1, lvF_at hl2⟩
                      have HV := Lib.hid hv
                      have HV' := Lib.hid hv'
                      have HNM := Lib.hid (hnm.out _ hv)
                      have hqn1 : q < n1 := by omega
                      have hqn1' : q' < n1 := by omega
                      clear hA1 hl1 hl2 hv hv'
                      generalize L.getD q 0 = l at *
                      generalize L.getD q' 0 = l' at *
                      by_cases hll : l = l'
                      · have hx : Hid (fixG (mkF L C Wd) (lvF L) [] (vis.drop k) = ((vis.drop k).take (e + 1 - k)).reverse ++ fixG (mkF L C Wd) (lvF L) [] (vis.drop (e + 1))) := Lib.hid (fix_turn hke2 hmk.out HV'.out HV.out HNM.out (by rw [hl.out.1, hl.out.2, hll]))
                        have dl : (l == l') = true := by simp [hll]
                        clear hll
                        go_quiet (fail)
                        go_wp2_with fail
                        go_meet
                        exact ⟨true, _, rfl, rfl, Lib.hid (.inr ⟨rfl, hlt2, hx.out⟩)⟩
                      · have hx : Hid (fixG (mkF L C Wd) (lvF L) [] (vis.drop k) = (vis.drop k).take (e - k) ++ fixG (mkF L C Wd) (lvF L) [] (vis.drop e)) := Lib.hid (fix_stay hke2 hmk.out HV'.out HV.out HNM.out (by rw [hl.out.1, hl.out.2]; exact hll))
                        have dl : (l == l') = false := by simp [hll]
                        clear hll
                        go_quiet (fail)
                        go_wp2_with fail
                        go_meet
                        exact ⟨false, _, rfl, rfl, Lib.hid (.inl ⟨rfl, hx.out⟩)⟩
                    · have hd : decide (e < n) = false := decide_eq_false hlt2
                      have hx : Hid (fixG (mkF L C Wd) (lvF L) [] (vis.drop k) = (vis.drop k).take (e - k) ++ fixG (mkF L C Wd) (lvF L) [] (vis.drop e)) := Lib.hid (fix_end hmk.out hke (by rw [HN.out]; omega))
                      go_quiet (fail)
                      go_wp2_with fail
                      go_meet
                      exact ⟨false, _, rfl, rfl, Lib.hid (.inl ⟨rfl, hx.out⟩)⟩
                  case rest =>
                    obtain ⟨tb, a, rfl, rfl, htb⟩ := hcut
                    have hown2 : Own (wv.drewN a) w.heap.size _ pre := own_drewN hown
                    have hb2 : Below w.heap.size w (wv.drewN a) := below_drewN hb a
                    have hbs2 := hb2.size
                    clear hown hb hnm hmk hs1 hs2 hs3 hbs
                    generalize wv.drewN a = wu at *
                    have hpl : pre.length ≤ k := by have := hpre.out; omega
                    cases tb
                    · have hx := (htb.out.resolve_right (by rintro ⟨h, _⟩; cases h)).2
                      have HX := Lib.hid hx
                      have hsub : Hid (((vis.drop k).take (e - k)).length = e - k) := Lib.hid (by simp; rw [HN.out]; omega)
                      have hrs : RdI .i64 wu (some ⟨b, o + k, none⟩) ((vis.drop k).take (e - k)) := by
                        intro j u hu
                        rw [List.getElem?_map, List.getElem?_take] at hu
                        refine ⟨_, rfl, ?_⟩
                        by_cases hj : j < e - k
                        · rw [if_pos hj, List.getElem?_drop] at hu
                          obtain ⟨x, hx, rfl⟩ := Option.map_eq_some_iff.1 hu
                          rw [Addr.add_lit, Nat.add_assoc]
                          exact HA.out _ _ _ hb2 hx
                        · rw [if_neg hj] at hu; simp at hu
                      clear hx htb
                      go_wp2_with (first
                        | (at_builtin; refine wpList_catI _ rfl (.tmp 111) (.tmp 115) rfl w.heap.size _ _ rfl hown2 (some ⟨b, o + k, none⟩) (e - k) (c - k) ((vis.drop k).take (e - k)) rfl hsub.out hrs (by omega) hbs2 ?_))
                      intro v3 w3 hown3 hgrow3
                      have hb3 := below_cat hb2 hbs2 hown2 hgrow3
                      clear hgrow3
                      go_wp2_with fail
                      go_roundg (n - e + 1)
                      case measure => have := Hf.out; omega
                      case rel => exact ⟨e, _, by omega, by omega, rfl, Lib.hid (by rw [List.length_append, hpre.out, hsub.out]; omega), Lib.hid (by rw [hfix.out, HX.out, List.append_assoc]), hown3, hb3⟩
                    · obtain ⟨_, hlt2, hx⟩ := htb.out.resolve_left (by rintro ⟨h, _⟩; cases h)
                      have HX := Lib.hid hx
                      clear hx htb
                      have hpt : Hid (((vis.drop k).take (e + 1 - k)).reverse.length = e + 1 - k) := Lib.hid (by simp; rw [HN.out]; omega)
                      have hpat : Hid (∀ j q : Nat, j ≤ e - k → q = e - j → ((vis.drop k).take (e + 1 - k)).reverse[j]? = vis[q]?) := Lib.hid (fun j q h1 h2 => by
                        have h3 := hpt.out
                        rw [List.length_reverse] at h3
                        rw [List.getElem?_reverse (by omega), h3, List.getElem?_take, if_pos (by omega), List.getElem?_drop]
                        congr 1
                        omega)
                      generalize ((vis.drop k).take (e + 1 - k)).reverse = rev at *
                      go_wp2_with fail
                      obtain ⟨wz, rfl⟩ : ∃ wz : World, wz = wu := ⟨_, rfl⟩
                      go_loopg [14, 10] (n + 2) (fun f i v wr => ∃ (j : Nat) (ii : Int), j ≤ e + 1 - k ∧ f = n + 2 - j ∧ i = .int .i64 ii ∧ Hid (ii = (e : Int) - j) ∧ Own wr w.heap.size v (pre ++ rev.take j) ∧ Below w.heap.size w wr)
                      case atStart => exact ⟨0, _, by omega, rfl, rfl, Lib.hid (by omega), hown2.of_eq (by simp), hb2⟩
                      case round =>
                        clear hown2 hb2 hbs2
                        obtain ⟨j, ii, hj, hf, rfl, hii, hown, hb⟩ := hrel
                        have Hf4 := Lib.hid hf
                        clear hf
                        have hbs := hb.size
                        have hi1 : ii ≤ 4294967296 := by have := hii.out; omega
                        have hi2 : -4294967296 ≤ ii := by have := hii.out; omega
                        by_cases hjk : (k : Int) ≤ ii
                        · obtain ⟨q, rfl⟩ : ∃ q : Nat, ii = q := ⟨ii.toNat, by omega⟩
                          have hqe : q = e - j := by have := hii.out; omega
                          have hje : j ≤ e - k := by have := hii.out; omega
                          have hqn : q < n := by omega
                          obtain ⟨x, hv, _⟩ := hat.out q hqn
                          have f0 := HA.out wr q _ hb hv
                          have Hrj : Hid (rev[j]? = some (x : Int)) := Lib.hid (by rw [hpat.out j q hje hqe, hv])
                          have hpl4 : (pre ++ rev.take j).length ≤ 4294967296 := by have := hpt.out; simp; omega
                          have d4 : decide ((k : Int) ≤ (q : Int)) = true := decide_eq_true hjk
                          have hkq : k ≤ q := by omega
                          clear hv hqe
                          go_wp2_with (first
                            | (at_builtin; refine wpList_pushI _ rfl (.tmp 102) (.tmp 107) rfl w.heap.size _ _ rfl (hown.alloc _) wr.heap.size x rfl (by simp) hpl4 (by simp; omega) ?_))
                          intro v5 w5 hown5 hgrow5
                          have hb5 := below_push hb hbs hown hgrow5
                          clear hgrow5
                          go_wp2_with fail
                          go_roundg (n + 1 - j)
                          case measure => have := Hf4.out; omega
                          case rel => exact ⟨j + 1, (q : Int) - 1, by omega, by omega, rfl, Lib.hid (by have := hii.out; omega), hown5.of_eq (by rw [take_snoc Hrj.out]), hb5⟩
                        · have HJ : Hid (rev.take j = rev) := Lib.hid (List.take_of_length_le (by rw [hpt.out]; have := hii.out; omega))
                          have d4 : decide ((k : Int) ≤ ii) = false := decide_eq_false hjk
                          go_wp2_with fail
                          go_roundg (n - (e + 1) + 1)
                          case measure => have := Hf.out; omega
                          case rel => exact ⟨e + 1, pre ++ rev, by omega, rfl, by go_num, Lib.hid (by rw [List.length_append, hpre.out, hpt.out]; omega), Lib.hid (by rw [hfix.out, HX.out, List.append_assoc]), hown.of_eq (by rw [HJ.out]), hb⟩
              · obtain ⟨_, hlt2, hmk2⟩ := (htb.out.resolve_right (by rintro ⟨h, _⟩; cases h))
                have Hmk : Hid (∀ z ∈ (vis.drop k).take (e + 1 - k), mkF L C Wd z = true) := Lib.hid (by
                  obtain ⟨y, hy⟩ : ∃ y, vis[e]? = some y := ⟨_, List.getElem?_eq_getElem (by rw [HN.out]; exact hlt2)⟩
                  rw [show e + 1 - k = (e - k) + 1 by omega, take_snoc (show (vis.drop k)[e - k]? = some y by rw [List.getElem?_drop, show k + (e - k) = e by omega]; exact hy)]
                  intro z hz
                  rcases List.mem_append.1 hz with hz | hz
                  · exact hmk.out z hz
                  · simp at hz; subst hz; exact hmk2 _ hy)
                clear hmk2 htb hmk
                go_wp2_with fail
                go_round
                case rel => exact ⟨e + 1, by omega, by omega, by go_num, Hmk⟩
                case measure => simp [intOf]; omega
        · have hkn' : n ≤ k := by omega
          have HE : Hid (pre = fixL L C Wd vis) := Lib.hid (by rw [hfix.out, List.drop_of_length_le (by rw [HN.out]; exact hkn'), fixG_nil]; simp)
          obtain rfl : n = k := by omega
          obtain ⟨Ao, co, rfl, _, hrd⟩ := hown.open_
          rw [hpre.out]
          go_wp2_with fail
          go_ret
          exact ⟨_, _, rfl, by rw [← HE.out]; exact hrd, hb⟩
end Go.Proofs.Ytamfjmonpbojnaa
