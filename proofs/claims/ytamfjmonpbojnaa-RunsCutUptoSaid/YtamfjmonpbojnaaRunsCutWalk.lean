/-
  The walk of RunsCut.
-/
import Derived.Test.YtamfjmonpbojnaaRunsLaws
namespace Go.Proofs.Ytamfjmonpbojnaa
open Go.RowKit

theorem kf_nil_taken {zs : List Int} {k : Nat} {l : Int} (h : kf (zs.drop k) k = []) (hx : zs[k]? = some l) : l = -1 := by
  by_cases hl : l = -1
  · exact hl
  · rw [kf_take hx hl] at h; cases h
theorem kf_cons {zs : List Int} {k : Nat} {l p : Int} {r : List Int} (h : p :: r = kf (zs.drop k) k) (hx : zs[k]? = some l) (hl : l ≠ -1) : p = k ∧ r = kf (zs.drop (k + 1)) (k + 1) := by
  rw [kf_take hx hl] at h
  injection h with h1 h2
  exact ⟨h1, h2⟩
theorem kf_lt {zs : List Int} {k : Nat} {p : Int} {r : List Int} (h : p :: r = kf (zs.drop k) k) : k < zs.length := by
  rcases Nat.lt_or_ge k zs.length with h1 | h1
  · exact h1
  · rw [kf_end h1] at h; cases h

theorem kf_len (zs : List Int) : ∀ k, (kf zs k).length ≤ zs.length := by
  induction zs with
  | nil => intro k; simp [kf]
  | cons x r ih =>
    intro k
    rw [kf]
    have := ih (k + 1)
    split
    · simp only [List.length_cons]; omega
    · simp only [List.length_cons]; omega
theorem kf_mem {zs : List Int} {p : Int} : ∀ {k : Nat}, p ∈ kf zs k → ∃ (j : Nat) (l : Int), p = ((k + j : Nat) : Int) ∧ zs[j]? = some l ∧ l ≠ -1 := by
  induction zs with
  | nil => intro k h; simp [kf] at h
  | cons x r ih =>
    intro k h
    rw [kf] at h
    by_cases hx : x = -1
    · rw [if_pos hx] at h
      obtain ⟨j, l, h1, h2, h3⟩ := ih h
      exact ⟨j + 1, l, by rw [h1]; congr 1; omega, h2, h3⟩
    · rw [if_neg hx] at h
      rcases List.mem_cons.1 h with h | h
      · exact ⟨0, x, by simpa using h, rfl, hx⟩
      · obtain ⟨j, l, h1, h2, h3⟩ := ih h
        exact ⟨j + 1, l, by rw [h1]; congr 1; omega, h2, h3⟩
theorem kf_mem_ne {zs : List Int} {p k : Nat} (h : (p : Int) ∈ kf (zs.drop k) k) : ¬ zs[p]? = some (-1) := by
  obtain ⟨j, l, h1, h2, h3⟩ := kf_mem h
  have e : p = k + j := by omega
  subst e
  rw [List.getElem?_drop] at h2
  rw [h2]
  intro h4
  exact h3 (Option.some.inj h4)

set_option maxHeartbeats 4000000 in
set_option maxRecDepth 100000 in
theorem runsCut_walk (A : Option Addr) (n c : Nat) (zs : List Int) (w : World) (hn : zs.length = n) (hr : RdI .u8 w A zs) (hz : Bytes zs) (hsz : n ≤ 1048576) :
    Calls Try.prog 3 #[.slice A n c] w fun e w' => e = .returned (.bool true) ∧ Below w.heap.size w w' := by
  have HN := Lib.hid hn
  clear hn
  go_enter Try.func3, Try.ntmps3
  go_wp2_with fail
  refine (awake12_any _).mono ?_
  rintro e w1 ⟨rfl, hb1⟩
  go_wp2_with fail
  refine (levels_any _ n _ zs _ HN.out (hr.below hb1) hz (by omega)).mono ?_
  rintro e w2 ⟨v, rfl, hown, hb2⟩
  have hb12 := hb1.trans (hb2.mono hb1.size)
  obtain ⟨A1, c1, rfl, _, hs2⟩ := hown.open_
  rw [len_levels, HN.out]
  have HL : Hid ((levelsF zs).length = n) := Lib.hid (by rw [len_levels, HN.out])
  have hbd := levels_bd zs hz
  clear hown hb1 hb2 hr
  generalize levelsF zs = L at *
  go_wp2_with fail
  refine (runs_any _ n _ L _ HL.out hs2 (by omega)).mono ?_
  rintro e w3 ⟨v, rfl, h3, _, hb3⟩
  obtain ⟨A2, c2, rfl, _, hR⟩ := h3.open_
  have hs3 := hs2.below hb3
  have hb := hb12.trans (hb3.mono hb12.size)
  obtain ⟨hfl, fin, hok⟩ := runsF_ok L (fun x hx => (hbd x hx).1)
  have HF := Lib.hid hfl
  have HO := Lib.hid hok
  clear hb12 hb3 h3 hs2 hfl hok
  generalize runsF L = R at *
  go_wp2_with fail
  go_loop [17, 4, 5] (fun i a l => ∃ j : Nat, j ≤ R.length ∧ i = .int .i64 j ∧ ∃ (k : Nat) (last : Int), k ≤ n ∧ a = .int .i64 k ∧ l = .int .i64 last ∧ Hid ((R.drop j).flatten = kf (L.drop k) k ∧ RunsOk L last (R.drop j) fin)) (fun i _ _ => R.length - (intOf i).toNat)
  case atStart => exact ⟨0, Nat.zero_le _, rfl, 0, -5, Nat.zero_le _, rfl, rfl, Lib.hid ⟨by simpa using HF.out, HO.out⟩⟩
  case round =>
    obtain ⟨j, hj, rfl, k, last, hk, rfl, rfl, hrel⟩ := hrel
    by_cases hlt : j < R.length
    · obtain ⟨r, hr⟩ : ∃ r, R[j]? = some r := ⟨_, List.getElem?_eq_getElem hlt⟩
      obtain ⟨b1, o1, A', c', rfl, q1, hrc, q2⟩ := hR.at_ hr
      have hrel' := hrel.out
      rw [drop_cons hr, List.flatten_cons] at hrel'
      obtain ⟨e1, l, hne, hlne, hlv, hok'⟩ := hrel'
      have hpos := List.length_pos_iff.2 hne
      have hr0 : r[0]? = some r[0] := List.getElem?_eq_getElem hpos
      obtain ⟨k0, ek0, hk0⟩ := hlv _ (List.mem_of_getElem? hr0)
      obtain ⟨b2, o2, rfl, _, q5⟩ := q2.addr hpos
      have f1 : w3.cell? ⟨b2, o2, none⟩ = some (.int .i64 (k0 : Int)) := by rw [← ek0]; exact q5 0 _ hr0
      obtain ⟨b3, o3, rfl, _, q6⟩ := hs3.addr (by rw [HL.out]; have := (List.getElem?_eq_some_iff.1 hk0).1; rw [HL.out] at this; omega)
      have f2 := q6 k0 l hk0
      have hk0n : k0 < n := by rw [← HL.out]; exact (List.getElem?_eq_some_iff.1 hk0).1
      have g1 : ((r.length : Int) == 0) = false := by simp; omega
      have g2 : (l == last) = false := by simp [hlne]
      have hrn : r.length ≤ n := by
        have h1 := kf_len (L.drop k) k
        rw [← e1, List.length_append, List.length_drop, HL.out] at h1
        omega
      have E1 := Lib.hid e1
      have HK := Lib.hid hok'
      have HV := Lib.hid hlv
      have HR := Lib.hid hr
      have Q5 := Lib.hid q5
      have Q6 := Lib.hid q6
      clear hrel e1 hok' hlv hr hr0 ek0 hk0 q5 q6 q2 hlne hne
      go_wp2_with fail
      clear f1 f2 g1 g2
      go_loop [42, 4] (fun q a => ∃ i k' : Nat, i ≤ r.length ∧ q = .int .i64 i ∧ k' ≤ n ∧ a = .int .i64 k' ∧ Hid (r.drop i ++ (R.drop (j + 1)).flatten = kf (L.drop k') k')) (fun q _ => r.length - (intOf q).toNat)
      case atStart => exact ⟨0, k, Nat.zero_le _, rfl, hk, rfl, Lib.hid E1.out⟩
      case round =>
        clear hk E1
        obtain ⟨i, k', hi, rfl, hk', rfl, hrel⟩ := hrel
        by_cases hlt2 : i < r.length
        · obtain ⟨p, hp⟩ : ∃ p, r[i]? = some p := ⟨_, List.getElem?_eq_getElem hlt2⟩
          obtain ⟨k1, rfl, hk1⟩ := HV.out p (List.mem_of_getElem? hp)
          have f3 := Q5.out i _ hp
          have f4 := Q6.out k1 l hk1
          have hk1n : k1 < n := by rw [← HL.out]; exact (List.getElem?_eq_some_iff.1 hk1).1
          have e2 := hrel.out
          rw [drop_cons hp, List.cons_append] at e2
          have E2 := Lib.hid e2
          have HK1 := Lib.hid hk1
          have hl1 : l ≠ -1 := by
            intro h
            subst h
            have := HL.out
            have e3 : ((k1 : Nat) : Int) ∈ kf (L.drop k') k' := by rw [← e2]; simp
            exact absurd e3 (fun h => kf_mem_ne h hk1)
          have HL1 := Lib.hid hl1
          clear hrel e2 hp hk1 hl1
          go_wp2_with fail
          go_loop [4] (fun a => ∃ k2 : Nat, k2 ≤ n ∧ a = .int .i64 k2 ∧ Hid ((k1 : Int) :: (r.drop (i + 1) ++ (R.drop (j + 1)).flatten) = kf (L.drop k2) k2)) (fun a => n - (intOf a).toNat)
          case atStart => exact ⟨k', hk', rfl, E2⟩
          case round =>
            clear hk' E2
            obtain ⟨k2, hk2, rfl, hrel⟩ := hrel
            have hk2n : k2 < n := by have := kf_lt hrel.out; rw [HL.out] at this; exact this
            obtain ⟨x, hx⟩ : ∃ x, L[k2]? = some x := ⟨_, List.getElem?_eq_getElem (by rw [HL.out]; exact hk2n)⟩
            have f5 := Q6.out k2 x hx
            by_cases hx1 : x = -1
            · have b1 : (x == -1) = true := by simp [hx1]
              have E3 : Hid ((k1 : Int) :: (r.drop (i + 1) ++ (R.drop (j + 1)).flatten) = kf (L.drop (k2 + 1)) (k2 + 1)) := Lib.hid (by rw [hrel.out, kf_skip (by rw [hx, hx1])])
              clear hx hx1 hrel
              go_wp2_with fail
              go_round
              case rel => exact ⟨k2 + 1, by omega, by go_num, E3⟩
              case measure => simp [intOf]; omega
            · have b1 : (x == -1) = false := by simp [hx1]
              obtain ⟨h5, h6⟩ := kf_cons hrel.out hx hx1
              obtain rfl : k2 = k1 := by omega
              have E3 := Lib.hid h6
              have hxl : x = l := by rw [HK1.out] at hx; exact (Option.some.inj hx).symm
              subst hxl
              clear hx hx1 hrel h5 h6 f5
              have b2 : ((k2 : Int) != k2) = false := by simp
              have b3 : (x != x) = false := by simp
              go_wp2_with fail
              go_round
              case rel => exact ⟨i + 1, k2 + 1, by omega, by go_num, by omega, by go_num, E3⟩
              case measure => simp [intOf]; omega
        · have e2 := hrel.out
          rw [List.drop_of_length_le (by omega), List.nil_append] at e2
          have E2 := Lib.hid e2
          clear hrel e2
          go_wp2_with fail
          go_round
          case rel => exact ⟨j + 1, by omega, by go_num, k', l, hk', rfl, rfl, Lib.hid ⟨E2.out, HK.out⟩⟩
          case measure => simp [intOf]; omega
    · have hrel' := hrel.out.1
      rw [List.drop_of_length_le (by omega)] at hrel'
      have E1 : Hid ([] = kf (L.drop k) k) := Lib.hid hrel'
      clear hrel hrel'
      go_wp2_with fail
      go_loop [4] (fun a => ∃ k2 : Nat, k2 ≤ n ∧ a = .int .i64 k2 ∧ Hid ([] = kf (L.drop k2) k2)) (fun a => n - (intOf a).toNat)
      case atStart => exact ⟨k, hk, rfl, E1⟩
      case round =>
        clear hk E1
        obtain ⟨k2, hk2, rfl, hrel⟩ := hrel
        by_cases hlt2 : k2 < n
        · obtain ⟨b3, o3, x, rfl, hx, f5⟩ := hs3.at_ (k := k2) (by rw [HL.out]; exact hlt2)
          have hx1 := kf_nil_taken hrel.out.symm hx.out
          have b1 : (x == -1) = true := by simp [hx1]
          have E3 : Hid ([] = kf (L.drop (k2 + 1)) (k2 + 1)) := Lib.hid (by rw [hrel.out, kf_skip (by rw [hx.out, hx1])])
          clear hx1 hrel
          go_wp2_with fail
          go_round
          case rel => exact ⟨k2 + 1, by omega, by go_num, E3⟩
          case measure => simp [intOf]; omega
        · obtain rfl : k2 = n := by omega
          go_wp2_with fail
          go_ret
          exact ⟨ret_bool (by simp), hb⟩
end Go.Proofs.Ytamfjmonpbojnaa
