/-
  The contracts of boustrophedonref25.turn and boustrophedonref25.Visual.
-/
import Derived.Test.YtamfjmonpbojnaaRevPlain
namespace Go.Proofs.Ytamfjmonpbojnaa
open Go.RowKit

section
variable {w : World} {B g n c k : Nat} {O : List Int} {A : Option Addr}
theorem own_cell (h : Own w B (.slice (some ⟨g, 0, none⟩) n c) O) (hl : O.length = n) (hk : k < n) : w.cell? ⟨g, k, none⟩ = some (.int .i64 (O.getD k 0)) := by
  unfold Own OwnT at h
  rw [hl] at h
  rw [h.cellAt k (by omega), List.getElem?_map, get_getD (by omega)]
  rfl
theorem own_frozen (h : Own w B (.slice (some ⟨g, 0, none⟩) n c) O) (hl : O.length = n) : w.frozen? ⟨g, k, none⟩ = false := by
  unfold Own OwnT at h
  rw [hl] at h
  exact h.frozenAt k
theorem own_store (h : Own w B (.slice (some ⟨g, 0, none⟩) n c) O) (hl : O.length = n) (x : Int) : Own (w.setCell ⟨g, k, none⟩ (.int .i64 x)) B (.slice (some ⟨g, 0, none⟩) n c) (O.set k x) := by
  unfold Own OwnT at h ⊢
  rw [hl] at h
  rw [List.length_set, hl, List.map_set]
  exact (h.stored k (.int .i64 x)).1
theorem own_block (h : Own w B (.slice A n c) O) (hn : 0 < n) (hl : O.length = n) : ∃ g, A = some ⟨g, 0, none⟩ ∧ B ≤ g ∧ g < w.heap.size := by
  have h1 := h.lt
  have h2 := h.ge
  rcases h.2 with ⟨hv, h0⟩ | ⟨g, cap, cur, hv, _⟩
  · omega
  · injection hv with hv
    subst hv
    exact ⟨g, rfl, h2 g rfl, h1 g rfl⟩
end

set_option maxHeartbeats 1000000 in
theorem turn_any (g n c B a b : Nat) (O : List Int) (w : World) (hl : O.length = n) (hown : Own w B (.slice (some ⟨g, 0, none⟩) n c) O) (ha : a ≤ b) (hb : b ≤ n) (hn : n ≤ 4294967296) :
    Calls Try.prog 48 #[.slice (some ⟨g, 0, none⟩) n c, .int .i64 a, .int .i64 b] w fun e w' => e = .returned (.tuple #[]) ∧ Own w' B (.slice (some ⟨g, 0, none⟩) n c) (revAt O a b) ∧ Below B w w' := by
  have HL := Lib.hid hl
  have hgB : B ≤ g := hown.ge g rfl
  clear hl
  go_enter Try.func48, Try.ntmps48
  go_wp2_with fail
  go_loopg [6, 7] (b - a + 1) (fun m i k wr => ∃ (j p : Nat) (kk : Int), a + j ≤ b ∧ m = b - a - j + 1 ∧ i = .int .i64 p ∧ k = .int .i64 kk ∧ Hid (p = a + j) ∧ Hid (kk = (b : Int) - 1 - j) ∧ Own wr B (.slice (some ⟨g, 0, none⟩) n c) (swF O a b j) ∧ Below B w wr)
  case atStart => exact ⟨0, a, (b : Int) - 1, by omega, rfl, rfl, rfl, Lib.hid rfl, Lib.hid (by omega), hown.of_eq swF_zero.symm, Below.refl _ _⟩
  case round =>
    obtain ⟨j, p, kk, hj, hm, rfl, rfl, hp, hkk, hO, hbw⟩ := hrel
    have Hm := Lib.hid hm
    clear hm hown
    have hkb : kk ≤ 4294967296 := by have := hkk.out; omega
    have hkl : -4294967296 ≤ kk := by have := hkk.out; omega
    have hpb : p ≤ n := by have := hp.out; omega
    by_cases hlt : (p : Int) < kk
    · obtain ⟨q, rfl⟩ : ∃ q : Nat, kk = q := ⟨kk.toNat, by omega⟩
      have hq : q < n := by have := hkk.out; omega
      have hpq : p < q := by omega
      have hp' : p < n := by omega
      have hsl : (swF O a b j).length = n := by rw [swF_len, HL.out]
      have f1 := own_cell (k := p) hO hsl hp'
      have f2 := own_cell (k := q) hO hsl hq
      have e1 : (swF O a b j).getD p 0 = O.getD p 0 := by
        rw [List.getD_eq_getElem?_getD, swF_get (by rw [HL.out]; exact hp')]
        have := hp.out; have := hkk.out
        simp only [Option.getD_some]
        unfold swV
        rw [if_neg (by omega)]
      have e2 : (swF O a b j).getD q 0 = O.getD q 0 := by
        rw [List.getD_eq_getElem?_getD, swF_get (by rw [HL.out]; exact hq)]
        have := hp.out; have := hkk.out
        simp only [Option.getD_some]
        unfold swV
        rw [if_neg (by omega)]
      rw [e1] at f1
      rw [e2] at f2
      have g1 := own_frozen (k := p) hO hsl
      have g2 := own_frozen (k := q) hO hsl
      have st := own_store (k := q) (own_store (k := p) hO hsl (O.getD q 0)) (by rw [List.length_set, hsl]) (O.getD p 0)
      have e3 : ((swF O a b j).set p (O.getD q 0)).set q (O.getD p 0) = swF O a b (j + 1) := by
        have h1 := hp.out; have h2 := hkk.out
        have h3 : q = b - 1 - j := by omega
        rw [h1, h3]
        exact swF_step (by omega)
      rw [e3] at st
      have hne : q ≠ p := by omega
      have hne' : p ≠ q := by omega
      clear e1 e2 e3 hsl hlt hkb hkl
      generalize O.getD p 0 = X at *
      generalize O.getD q 0 = Y at *
      have Hst := Lib.hid st
      clear st
      go_wp2_with fail
      go_roundg (b - a - j)
      case measure => have := Hm.out; omega
      case rel => exact ⟨j + 1, p + 1, (q : Int) - 1, by have := hp.out; have := hkk.out; omega, by have := hp.out; have := hkk.out; omega, by go_num, rfl, Lib.hid (by have := hp.out; omega), Lib.hid (by have := hkk.out; omega), Hst.out, (hbw.setCell hgB _).setCell hgB _⟩
    · go_wp2_with fail
      go_end0
      exact ⟨rfl, hO.of_eq (swF_done hj (by rw [HL.out]; exact hb) (by have := hp.out; have := hkk.out; omega)), hbw⟩

theorem lvF_at {zs : List Int} {q : Nat} {x : Int} (h : zs[q]? = some x) : lvF zs (q : Int) = x := by
  unfold lvF; rw [Int.toNat_natCast, List.getD_eq_getElem?_getD, h]; rfl

set_option maxHeartbeats 4000000 in
theorem refVisual_any (A : Option Addr) (n c : Nat) (zs : List Int) (w : World) (hn : zs.length = n) (hr : RdI .i64 w A zs) (hsz : n ≤ 4194304) :
    Calls Try.prog 43 #[.slice A n c] w fun e w' => ∃ v, e = .returned v ∧ Own w' w.heap.size v (visualF zs) ∧ Below w.heap.size w w' := by
  have HN := Lib.hid hn
  clear hn
  go_enter Try.func43, Try.ntmps43
  go_wp2_with fail
  go_loopg [5, 3, 4] (n + 1) (fun m i v t wr => ∃ (k : Nat) (M : Int), k ≤ n ∧ m = n - k + 1 ∧ i = .int .i64 k ∧ t = .int .i64 M ∧ 0 ≤ M ∧ Hid (∀ (j : Nat) (x : Int), j < k → zs[j]? = some x → x ≠ -1 → x ≤ M) ∧ Own wr w.heap.size v (kf (zs.take k) 0) ∧ Below w.heap.size w wr)
  case atStart => exact ⟨0, 0, Nat.zero_le _, rfl, rfl, rfl, Int.le_refl _, Lib.hid (fun j x h => by omega), OwnT.nil _ _ _ _, Below.refl _ _⟩
  case round =>
    obtain ⟨k, M, hk, hm, rfl, rfl, hM0, hM, hown, hb⟩ := hrel
    have Hm := Lib.hid hm
    clear hm
    have hbs := hb.size
    by_cases hlt : k < n
    · obtain ⟨b, o, l, rfl, hx, hc⟩ := (hr.below hb).at_ (k := k) (by rw [HN.out]; exact hlt)
      have hlen : (kf (zs.take k) 0).length ≤ k := by have := kf_length (zs.take k) 0; simp at this; omega
      have hlk : Hid ((zs.take k).length = k) := Lib.hid (by simp; rw [HN.out]; omega)
      have hblt : b < w.heap.size := by
        obtain ⟨b', o', e', h', _⟩ := hr.addr (by rw [HN.out]; omega)
        injection e' with e'
        injection e' with e1 e2
        subst e1
        exact h'
      by_cases h1 : l = -1
      · have hb1 : (l == -1) = true := by simp [h1]
        have hK : Hid (kf (zs.take (k + 1)) 0 = kf (zs.take k) 0) := Lib.hid (by rw [take_snoc hx.out, kf_snoc, if_pos h1, List.append_nil])
        have hM' : Hid (∀ (j : Nat) (x : Int), j < k + 1 → zs[j]? = some x → x ≠ -1 → x ≤ M) := Lib.hid (fun j x hj hx' hne => by
          by_cases hjk : j = k
          · subst hjk; rw [hx.out] at hx'; exact absurd ((Option.some.inj hx').symm.trans h1) hne
          · exact hM.out j x (by omega) hx' hne)
        clear h1
        go_wp2_with fail
        go_roundg (n - k)
        case measure => have := Hm.out; omega
        case rel => exact ⟨k + 1, M, by omega, by omega, by go_num, rfl, hM0, hM', by rw [hK.out]; exact hown, hb⟩
      · have hb1 : (l == -1) = false := by simp [h1]
        have hK : Hid (kf (zs.take (k + 1)) 0 = kf (zs.take k) 0 ++ [(k : Int)]) := Lib.hid (by rw [take_snoc hx.out, kf_snoc, if_neg h1, hlk.out, Nat.zero_add])
        have hM' : Hid (∀ (j : Nat) (x : Int), j < k + 1 → zs[j]? = some x → x ≠ -1 → x ≤ max M l) := Lib.hid (fun j x hj hx' hne => by
          by_cases hjk : j = k
          · subst hjk; rw [hx.out] at hx'; obtain rfl := Option.some.inj hx'; omega
          · have := hM.out j x (by omega) hx' hne; omega)
        clear h1
        by_cases h2 : M < l
        all_goals
          go_wp2_with (first
            | (at_builtin; refine wpList_pushI _ rfl _ _ rfl w.heap.size _ _ rfl (hown.alloc _) wr.heap.size k rfl (by simp) (by omega) (by simp; omega) ?_))
          intro v1 w1 hown1 hgrow1
          have hb1w := below_push hb hbs hown hgrow1
          have hcell1 : w1.cell? ⟨b, o + k, none⟩ = some (.int .i64 l) := by
            rw [hb1w.cell (p := ⟨b, o + k, none⟩) hblt, ← hb.cell (p := ⟨b, o + k, none⟩) hblt]
            exact hc
          clear hgrow1
          go_wp2_with fail
        · go_roundg (n - k)
          case measure => have := Hm.out; omega
          case rel => exact ⟨k + 1, l, by omega, by omega, by go_num, rfl, by omega, Lib.hid (by rw [show l = max M l by omega]; exact hM'.out), by rw [hK.out]; exact hown1, hb1w⟩
        · go_roundg (n - k)
          case measure => have := Hm.out; omega
          case rel => exact ⟨k + 1, M, by omega, by omega, by go_num, rfl, by omega, Lib.hid (by rw [show M = max M l by omega]; exact hM'.out), by rw [hK.out]; exact hown1, hb1w⟩
    · obtain rfl : n = k := by omega
      have e1 : zs.take n = zs := List.take_of_length_le (by rw [HN.out]; exact Nat.le_refl _)
      rw [e1] at hown
      have hml := kf_length zs 0
      rw [HN.out] at hml
      have hM' : Hid (∀ (N : Nat), (N : Int) = min M 126 → downL zs N = kf zs 0) := Lib.hid (fun N hN => downL_top zs (fun j x hx hne => by
        have := hM.out j x (by rw [← HN.out]; exact (List.getElem?_eq_some_iff.1 hx).1) hx hne
        omega) (by omega))
      obtain ⟨m, hm0⟩ : ∃ m, (kf zs 0).length = m := ⟨_, rfl⟩
      obtain ⟨Ao, co, rfl, hco, _⟩ := hown.open_
      rw [hm0] at hown hco hml ⊢
      have HM0 := Lib.hid hm0
      clear hm0 e1 hM
      obtain ⟨wo, rfl⟩ : ∃ wo : World, wo = wr := ⟨_, rfl⟩
      obtain ⟨N, hN⟩ : ∃ N : Nat, (N : Int) = min M 126 := ⟨(min M 126).toNat, by omega⟩
      have hN126 : N ≤ 126 := by omega
      have hown0 : Own wo w.heap.size (.slice Ao m co) (downL zs N) := hown.of_eq (hM'.out N hN).symm
      have hcase : (126 < M ∧ N = 126) ∨ (M ≤ 126 ∧ M = N) := by omega
      clear hN hM' hown
      rcases hcase with ⟨hbig, rfl⟩ | ⟨hbig, rfl⟩
      · go_wp2_with fail
        clear hbig
        go_loopg [6] (126 + 1) (fun f i wr => ∃ l : Nat, l ≤ 126 ∧ f = l + 1 ∧ i = .int .i64 l ∧ Own wr w.heap.size (.slice Ao m co) (downL zs l) ∧ Below w.heap.size w wr)
        case atStart => exact ⟨126, hN126, rfl, rfl, hown0, hb⟩
        case round =>
          clear hown0 hb hbs
          obtain ⟨l, hl, hf, rfl, hown, hb⟩ := hrel
          have Hf := Lib.hid hf
          clear hf
          by_cases hl1 : 1 ≤ l
          · have hl1' : decide ((1 : Int) ≤ (l : Int)) = true := decide_eq_true (by omega)
            have hl1'' : decide ((l : Int) ≥ 1) = true := decide_eq_true (by omega)
            have hps : (downL zs l).length = m := by rw [downL_len, HM0.out]
            have hlast := downL_step zs hl1 hl
            have hpm : ∀ p ∈ downL zs l, ∃ (q : Nat) (x : Int), p = q ∧ zs[q]? = some x := fun p hp => downL_mem hp
            generalize downL zs l = ps at *
            have HPS := Lib.hid hps
            have HPM := Lib.hid hpm
            have HLAST := Lib.hid hlast
            clear hps hpm hlast
            obtain ⟨wq, rfl⟩ : ∃ wq : World, wq = wr := ⟨_, rfl⟩
            go_wp2_with fail
            go_loopg [7] (m + 1) (fun f i wr => ∃ (k : Nat) (pre : List Int), k ≤ m ∧ f = m - k + 1 ∧ i = .int .i64 k ∧ Hid (pre.length = k) ∧ Hid (turnAt (lvF zs) l ps = pre ++ turnAt (lvF zs) l (ps.drop k)) ∧ Own wr w.heap.size (.slice Ao m co) (pre ++ ps.drop k) ∧ Below w.heap.size w wr)
            case atStart => exact ⟨0, [], Nat.zero_le _, rfl, rfl, Lib.hid rfl, Lib.hid rfl, hown, hb⟩
            case round =>
              clear hown hb
              obtain ⟨k, pre, hkm, hf, rfl, hpre, hturn, hown, hb⟩ := hrel
              have Hf2 := Lib.hid hf
              clear hf
              have hbs := hb.size
              have hlen : Hid ((pre ++ ps.drop k).length = m) := Lib.hid (by have := hpre.out; have := HPS.out; simp; omega)
              by_cases hkl : k < m
              · obtain ⟨g, rfl, hgB, hgl⟩ := own_block hown (by omega) hlen.out
                have hat : ∀ e, k ≤ e → e < m → ∃ (q : Nat) (x : Int), ps[e]? = some (q : Int) ∧ zs[q]? = some x ∧ wr.cell? ⟨g, e, none⟩ = some (.int .i64 (q : Int)) := fun e h1 h2 => by
                  obtain ⟨p, hp⟩ : ∃ p, ps[e]? = some p := ⟨_, List.getElem?_eq_getElem (by rw [HPS.out]; exact h2)⟩
                  obtain ⟨q, x, rfl, hx⟩ := HPM.out p (List.mem_of_getElem? hp)
                  refine ⟨q, x, hp, hx, ?_⟩
                  rw [own_cell hown hlen.out h2, List.getD_eq_getElem?_getD, List.getElem?_append_right (by rw [hpre.out]; omega), hpre.out, List.getElem?_drop, show k + (e - k) = e by omega, hp]
                  rfl
                have HAT := Lib.hid hat
                have Hown := Lib.hid hown
                clear hat hown
                obtain ⟨q, x, hq, hx, hcell⟩ := HAT.out k (Nat.le_refl _) hkl
                obtain ⟨b, o, rfl, _, hA⟩ := (hr.below hb).addr (by have := (List.getElem?_eq_some_iff.1 hx).1; omega)
                have hcell2 := hA q x hx
                have hqn : q < n := by rw [← HN.out]; exact (List.getElem?_eq_some_iff.1 hx).1
                have HA := Lib.hid hA
                have HQ := Lib.hid hq
                have HX := Lib.hid hx
                clear hA hq hx
                by_cases hlo : x < (l : Int)
                · have hd : decide (x < (l : Int)) = true := decide_eq_true hlo
                  have Ht : Hid (turnAt (lvF zs) l ps = (pre ++ [(q : Int)]) ++ turnAt (lvF zs) l (ps.drop (k + 1))) := Lib.hid (by rw [hturn.out, turnAt_lo HQ.out (by rw [lvF_at HX.out]; exact hlo)]; simp)
                  clear hlo
                  go_wp2_with fail
                  go_roundg (m - k)
                  case measure => have := Hf2.out; omega
                  case rel => exact ⟨k + 1, pre ++ [(q : Int)], by omega, by omega, by go_num, Lib.hid (by rw [List.length_append, hpre.out]; rfl), Ht, Hown.out.of_eq (by rw [drop_cons_of HQ.out]; simp), hb⟩
                · have hd : decide (x < (l : Int)) = false := decide_eq_false hlo
                  go_wp2_with fail
                  go_loop [8] (fun t => ∃ e : Nat, k ≤ e ∧ e ≤ m ∧ t = .int .i64 e ∧ Hid (∀ y ∈ (ps.drop k).take (e - k), (l : Int) ≤ lvF zs y)) (fun t => m - (intOf t).toNat)
                  case atStart => exact ⟨k, Nat.le_refl _, by omega, rfl, Lib.hid (by simp)⟩
                  case round =>
                    obtain ⟨e, hke, hem, rfl, hhi⟩ := hrel
                    have hstop : Hid (e = k → e < m ∧ ∃ (q' : Nat) (x' : Int), ps[e]? = some (q' : Int) ∧ zs[q']? = some x' ∧ (l : Int) ≤ x') := Lib.hid (fun h => by
                      subst h
                      exact ⟨hkl, q, x, HQ.out, HX.out, by omega⟩)
                    clear hcell hcell2 hqn hd hlo
                    by_cases hgo : e < m ∧ ∃ (q' : Nat) (x' : Int), ps[e]? = some (q' : Int) ∧ zs[q']? = some x' ∧ (l : Int) ≤ x'
                    · obtain ⟨hem', q', x', h1, h2, h3⟩ := hgo
                      obtain ⟨q2, x2, g1, g2, f1⟩ := HAT.out e hke hem'
                      rw [h1] at g1
                      obtain rfl : q' = q2 := by have := Option.some.inj g1; omega
                      rw [h2] at g2
                      obtain rfl := Option.some.inj g2
                      have f2 := HA.out q' x' h2
                      have hqn : q' < n := by rw [← HN.out]; exact (List.getElem?_eq_some_iff.1 h2).1
                      have hd : decide ((l : Int) ≤ x') = true := decide_eq_true h3
                      have Hhi : Hid (∀ y ∈ (ps.drop k).take (e + 1 - k), (l : Int) ≤ lvF zs y) := Lib.hid (by
                        rw [show e + 1 - k = (e - k) + 1 by omega, take_snoc (show (ps.drop k)[e - k]? = some (q' : Int) by rw [List.getElem?_drop, show k + (e - k) = e by omega]; exact h1)]
                        intro y hy
                        rcases List.mem_append.1 hy with hy | hy
                        · exact hhi.out y hy
                        · simp at hy; subst hy; rw [lvF_at h2]; exact h3)
                      clear h1 h2 h3 g1 hhi
                      go_wp2_with fail
                      go_round
                      case rel => exact ⟨e + 1, by omega, by omega, by go_num, Hhi⟩
                      case measure => simp [intOf]; omega
                    · have hke' : k < e := by
                        rcases Nat.lt_or_ge k e with h | h
                        · exact h
                        · exact absurd (hstop.out (by omega)) hgo
                      have hend : Hid (∀ y, ps[e]? = some y → lvF zs y < (l : Int)) := Lib.hid (fun y hy => by
                        have hey : e < m := by rw [← HPS.out]; exact (List.getElem?_eq_some_iff.1 hy).1
                        obtain ⟨q', x', h1, h2, _⟩ := HAT.out e hke hey
                        rw [hy] at h1
                        obtain rfl := Option.some.inj h1
                        rw [lvF_at h2]
                        rcases Int.lt_or_le x' l with h | h
                        · exact h
                        · exact absurd ⟨hey, q', x', hy, h2, h⟩ hgo)
                      have Ht : Hid (turnAt (lvF zs) l ps = (pre ++ ((ps.drop k).take (e - k)).reverse) ++ turnAt (lvF zs) l (ps.drop e)) := Lib.hid (by
                        rw [hturn.out, turnAt_hi hke' (by rw [HPS.out]; exact hem) hhi.out hend.out, List.append_assoc])
                      have Hr : Hid (revAt (pre ++ ps.drop k) k e = (pre ++ ((ps.drop k).take (e - k)).reverse) ++ ps.drop e) := Lib.hid (revAt_mid hpre.out hke)
                      have Hpl : Hid ((pre ++ ((ps.drop k).take (e - k)).reverse).length = e) := Lib.hid (by have := hpre.out; have := HPS.out; simp; omega)
                      have hex : e = m ∨ (e < m ∧ ∃ (q' : Nat) (x' : Int), wr.cell? ⟨g, e, none⟩ = some (.int .i64 (q' : Int)) ∧ wr.cell? ⟨b, o + q', none⟩ = some (.int .i64 x') ∧ q' < n ∧ decide ((l : Int) ≤ x') = false) := by
                        rcases Nat.lt_or_ge e m with h | h
                        · obtain ⟨q', x', h1, h2, f1⟩ := HAT.out e hke h
                          refine .inr ⟨h, q', x', f1, HA.out q' x' h2, by rw [← HN.out]; exact (List.getElem?_eq_some_iff.1 h2).1, decide_eq_false ?_⟩
                          have := hend.out _ h1
                          rw [lvF_at h2] at this
                          omega
                        · exact .inl (by omega)
                      clear hgo hhi hend hstop
                      rcases hex with hex | ⟨hex, q', x', f1, f2, hqn, hd⟩
                      · have hd : decide (e < m) = false := decide_eq_false (by omega)
                        have hge : m ≤ e := by omega
                        clear hex
                        go_wp2_with fail
                        refine (turn_any g m co w.heap.size k e _ _ hlen.out Hown.out (by omega) hem (by omega)).mono ?_
                        rintro e' w4 ⟨rfl, hown4, hb4⟩
                        rw [Hr.out] at hown4
                        go_wp2_with fail
                        go_roundg (m - e + 1)
                        case measure => have := Hf2.out; omega
                        case rel => exact ⟨e, _, by omega, by omega, rfl, Hpl, Ht, hown4, hb.trans hb4⟩
                      · go_wp2_with fail
                        refine (turn_any g m co w.heap.size k e _ _ hlen.out Hown.out (by omega) hem (by omega)).mono ?_
                        rintro e' w4 ⟨rfl, hown4, hb4⟩
                        rw [Hr.out] at hown4
                        go_wp2_with fail
                        go_roundg (m - e + 1)
                        case measure => have := Hf2.out; omega
                        case rel => exact ⟨e, _, by omega, by omega, rfl, Hpl, Ht, hown4, hb.trans hb4⟩
              · have hend : Hid (turnAt (lvF zs) l ps = pre) := Lib.hid (by rw [hturn.out, turnAt_end (by rw [HPS.out]; omega), List.append_nil])
                have hpe : Hid (pre ++ ps.drop k = downL zs (l - 1)) := Lib.hid (by rw [HLAST.out, hend.out, List.drop_of_length_le (by rw [HPS.out]; omega), List.append_nil])
                go_wp2_with fail
                go_roundg l
                case measure => have := Hf.out; omega
                case rel => exact ⟨l - 1, by omega, by omega, by go_num, hown.of_eq hpe.out, hb⟩
          · have hl0 : l = 0 := by omega
            subst hl0
            rw [downL_zero] at hown
            go_wp2_with fail
            go_ret
            exact ⟨_, rfl, hown, hb⟩
      · go_wp2_with fail
        clear hbig
        go_loopg [6] (N + 1) (fun f i wr => ∃ l : Nat, l ≤ 126 ∧ f = l + 1 ∧ i = .int .i64 l ∧ Own wr w.heap.size (.slice Ao m co) (downL zs l) ∧ Below w.heap.size w wr)
        case atStart => exact ⟨N, hN126, rfl, rfl, hown0, hb⟩
        case round =>
          clear hown0 hb hbs
          obtain ⟨l, hl, hf, rfl, hown, hb⟩ := hrel
          have Hf := Lib.hid hf
          clear hf
          by_cases hl1 : 1 ≤ l
          · have hl1' : decide ((1 : Int) ≤ (l : Int)) = true := decide_eq_true (by omega)
            have hl1'' : decide ((l : Int) ≥ 1) = true := decide_eq_true (by omega)
            have hps : (downL zs l).length = m := by rw [downL_len, HM0.out]
            have hlast := downL_step zs hl1 hl
            have hpm : ∀ p ∈ downL zs l, ∃ (q : Nat) (x : Int), p = q ∧ zs[q]? = some x := fun p hp => downL_mem hp
            generalize downL zs l = ps at *
            have HPS := Lib.hid hps
            have HPM := Lib.hid hpm
            have HLAST := Lib.hid hlast
            clear hps hpm hlast
            obtain ⟨wq, rfl⟩ : ∃ wq : World, wq = wr := ⟨_, rfl⟩
            go_wp2_with fail
            go_loopg [7] (m + 1) (fun f i wr => ∃ (k : Nat) (pre : List Int), k ≤ m ∧ f = m - k + 1 ∧ i = .int .i64 k ∧ Hid (pre.length = k) ∧ Hid (turnAt (lvF zs) l ps = pre ++ turnAt (lvF zs) l (ps.drop k)) ∧ Own wr w.heap.size (.slice Ao m co) (pre ++ ps.drop k) ∧ Below w.heap.size w wr)
            case atStart => exact ⟨0, [], Nat.zero_le _, rfl, rfl, Lib.hid rfl, Lib.hid rfl, hown, hb⟩
            case round =>
              clear hown hb
              obtain ⟨k, pre, hkm, hf, rfl, hpre, hturn, hown, hb⟩ := hrel
              have Hf2 := Lib.hid hf
              clear hf
              have hbs := hb.size
              have hlen : Hid ((pre ++ ps.drop k).length = m) := Lib.hid (by have := hpre.out; have := HPS.out; simp; omega)
              by_cases hkl : k < m
              · obtain ⟨g, rfl, hgB, hgl⟩ := own_block hown (by omega) hlen.out
                have hat : ∀ e, k ≤ e → e < m → ∃ (q : Nat) (x : Int), ps[e]? = some (q : Int) ∧ zs[q]? = some x ∧ wr.cell? ⟨g, e, none⟩ = some (.int .i64 (q : Int)) := fun e h1 h2 => by
                  obtain ⟨p, hp⟩ : ∃ p, ps[e]? = some p := ⟨_, List.getElem?_eq_getElem (by rw [HPS.out]; exact h2)⟩
                  obtain ⟨q, x, rfl, hx⟩ := HPM.out p (List.mem_of_getElem? hp)
                  refine ⟨q, x, hp, hx, ?_⟩
                  rw [own_cell hown hlen.out h2, List.getD_eq_getElem?_getD, List.getElem?_append_right (by rw [hpre.out]; omega), hpre.out, List.getElem?_drop, show k + (e - k) = e by omega, hp]
                  rfl
                have HAT := Lib.hid hat
                have Hown := Lib.hid hown
                clear hat hown
                obtain ⟨q, x, hq, hx, hcell⟩ := HAT.out k (Nat.le_refl _) hkl
                obtain ⟨b, o, rfl, _, hA⟩ := (hr.below hb).addr (by have := (List.getElem?_eq_some_iff.1 hx).1; omega)
                have hcell2 := hA q x hx
                have hqn : q < n := by rw [← HN.out]; exact (List.getElem?_eq_some_iff.1 hx).1
                have HA := Lib.hid hA
                have HQ := Lib.hid hq
                have HX := Lib.hid hx
                clear hA hq hx
                by_cases hlo : x < (l : Int)
                · have hd : decide (x < (l : Int)) = true := decide_eq_true hlo
                  have Ht : Hid (turnAt (lvF zs) l ps = (pre ++ [(q : Int)]) ++ turnAt (lvF zs) l (ps.drop (k + 1))) := Lib.hid (by rw [hturn.out, turnAt_lo HQ.out (by rw [lvF_at HX.out]; exact hlo)]; simp)
                  clear hlo
                  go_wp2_with fail
                  go_roundg (m - k)
                  case measure => have := Hf2.out; omega
                  case rel => exact ⟨k + 1, pre ++ [(q : Int)], by omega, by omega, by go_num, Lib.hid (by rw [List.length_append, hpre.out]; rfl), Ht, Hown.out.of_eq (by rw [drop_cons_of HQ.out]; simp), hb⟩
                · have hd : decide (x < (l : Int)) = false := decide_eq_false hlo
                  go_wp2_with fail
                  go_loop [8] (fun t => ∃ e : Nat, k ≤ e ∧ e ≤ m ∧ t = .int .i64 e ∧ Hid (∀ y ∈ (ps.drop k).take (e - k), (l : Int) ≤ lvF zs y)) (fun t => m - (intOf t).toNat)
                  case atStart => exact ⟨k, Nat.le_refl _, by omega, rfl, Lib.hid (by simp)⟩
                  case round =>
                    obtain ⟨e, hke, hem, rfl, hhi⟩ := hrel
                    have hstop : Hid (e = k → e < m ∧ ∃ (q' : Nat) (x' : Int), ps[e]? = some (q' : Int) ∧ zs[q']? = some x' ∧ (l : Int) ≤ x') := Lib.hid (fun h => by
                      subst h
                      exact ⟨hkl, q, x, HQ.out, HX.out, by omega⟩)
                    clear hcell hcell2 hqn hd hlo
                    by_cases hgo : e < m ∧ ∃ (q' : Nat) (x' : Int), ps[e]? = some (q' : Int) ∧ zs[q']? = some x' ∧ (l : Int) ≤ x'
                    · obtain ⟨hem', q', x', h1, h2, h3⟩ := hgo
                      obtain ⟨q2, x2, g1, g2, f1⟩ := HAT.out e hke hem'
                      rw [h1] at g1
                      obtain rfl : q' = q2 := by have := Option.some.inj g1; omega
                      rw [h2] at g2
                      obtain rfl := Option.some.inj g2
                      have f2 := HA.out q' x' h2
                      have hqn : q' < n := by rw [← HN.out]; exact (List.getElem?_eq_some_iff.1 h2).1
                      have hd : decide ((l : Int) ≤ x') = true := decide_eq_true h3
                      have Hhi : Hid (∀ y ∈ (ps.drop k).take (e + 1 - k), (l : Int) ≤ lvF zs y) := Lib.hid (by
                        rw [show e + 1 - k = (e - k) + 1 by omega, take_snoc (show (ps.drop k)[e - k]? = some (q' : Int) by rw [List.getElem?_drop, show k + (e - k) = e by omega]; exact h1)]
                        intro y hy
                        rcases List.mem_append.1 hy with hy | hy
                        · exact hhi.out y hy
                        · simp at hy; subst hy; rw [lvF_at h2]; exact h3)
                      clear h1 h2 h3 g1 hhi
                      go_wp2_with fail
                      go_round
                      case rel => exact ⟨e + 1, by omega, by omega, by go_num, Hhi⟩
                      case measure => simp [intOf]; omega
                    · have hke' : k < e := by
                        rcases Nat.lt_or_ge k e with h | h
                        · exact h
                        · exact absurd (hstop.out (by omega)) hgo
                      have hend : Hid (∀ y, ps[e]? = some y → lvF zs y < (l : Int)) := Lib.hid (fun y hy => by
                        have hey : e < m := by rw [← HPS.out]; exact (List.getElem?_eq_some_iff.1 hy).1
                        obtain ⟨q', x', h1, h2, _⟩ := HAT.out e hke hey
                        rw [hy] at h1
                        obtain rfl := Option.some.inj h1
                        rw [lvF_at h2]
                        rcases Int.lt_or_le x' l with h | h
                        · exact h
                        · exact absurd ⟨hey, q', x', hy, h2, h⟩ hgo)
                      have Ht : Hid (turnAt (lvF zs) l ps = (pre ++ ((ps.drop k).take (e - k)).reverse) ++ turnAt (lvF zs) l (ps.drop e)) := Lib.hid (by
                        rw [hturn.out, turnAt_hi hke' (by rw [HPS.out]; exact hem) hhi.out hend.out, List.append_assoc])
                      have Hr : Hid (revAt (pre ++ ps.drop k) k e = (pre ++ ((ps.drop k).take (e - k)).reverse) ++ ps.drop e) := Lib.hid (revAt_mid hpre.out hke)
                      have Hpl : Hid ((pre ++ ((ps.drop k).take (e - k)).reverse).length = e) := Lib.hid (by have := hpre.out; have := HPS.out; simp; omega)
                      have hex : e = m ∨ (e < m ∧ ∃ (q' : Nat) (x' : Int), wr.cell? ⟨g, e, none⟩ = some (.int .i64 (q' : Int)) ∧ wr.cell? ⟨b, o + q', none⟩ = some (.int .i64 x') ∧ q' < n ∧ decide ((l : Int) ≤ x') = false) := by
                        rcases Nat.lt_or_ge e m with h | h
                        · obtain ⟨q', x', h1, h2, f1⟩ := HAT.out e hke h
                          refine .inr ⟨h, q', x', f1, HA.out q' x' h2, by rw [← HN.out]; exact (List.getElem?_eq_some_iff.1 h2).1, decide_eq_false ?_⟩
                          have := hend.out _ h1
                          rw [lvF_at h2] at this
                          omega
                        · exact .inl (by omega)
                      clear hgo hhi hend hstop
                      rcases hex with hex | ⟨hex, q', x', f1, f2, hqn, hd⟩
                      · have hd : decide (e < m) = false := decide_eq_false (by omega)
                        have hge : m ≤ e := by omega
                        clear hex
                        go_wp2_with fail
                        refine (turn_any g m co w.heap.size k e _ _ hlen.out Hown.out (by omega) hem (by omega)).mono ?_
                        rintro e' w4 ⟨rfl, hown4, hb4⟩
                        rw [Hr.out] at hown4
                        go_wp2_with fail
                        go_roundg (m - e + 1)
                        case measure => have := Hf2.out; omega
                        case rel => exact ⟨e, _, by omega, by omega, rfl, Hpl, Ht, hown4, hb.trans hb4⟩
                      · go_wp2_with fail
                        refine (turn_any g m co w.heap.size k e _ _ hlen.out Hown.out (by omega) hem (by omega)).mono ?_
                        rintro e' w4 ⟨rfl, hown4, hb4⟩
                        rw [Hr.out] at hown4
                        go_wp2_with fail
                        go_roundg (m - e + 1)
                        case measure => have := Hf2.out; omega
                        case rel => exact ⟨e, _, by omega, by omega, rfl, Hpl, Ht, hown4, hb.trans hb4⟩
              · have hend : Hid (turnAt (lvF zs) l ps = pre) := Lib.hid (by rw [hturn.out, turnAt_end (by rw [HPS.out]; omega), List.append_nil])
                have hpe : Hid (pre ++ ps.drop k = downL zs (l - 1)) := Lib.hid (by rw [HLAST.out, hend.out, List.drop_of_length_le (by rw [HPS.out]; omega), List.append_nil])
                go_wp2_with fail
                go_roundg l
                case measure => have := Hf.out; omega
                case rel => exact ⟨l - 1, by omega, by omega, by go_num, hown.of_eq hpe.out, hb⟩
          · have hl0 : l = 0 := by omega
            subst hl0
            rw [downL_zero] at hown
            go_wp2_with fail
            go_ret
            exact ⟨_, rfl, hown, hb⟩
end Go.Proofs.Ytamfjmonpbojnaa
