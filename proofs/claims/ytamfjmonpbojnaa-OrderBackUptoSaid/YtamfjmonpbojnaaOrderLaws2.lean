/-
  The walks of OrderBack and OrderTwo.
-/
import Derived.Test.YtamfjmonpbojnaaOrderLaws
import Derived.Test.YtamfjmonpbojnaaRunsLaws
namespace Go.Proofs.Ytamfjmonpbojnaa
open Go.RowKit

/-- how far it has come -/
def BackAt (vis : List Int) (n k : Nat) (O : List Int) (bb : Bool) : Prop := (bb = true ∧ backF vis n = backGo (vis.drop k) k O) ∨ (bb = false ∧ backF vis n = none)

set_option maxHeartbeats 4000000 in
theorem orderBack_walk (A : Option Addr) (n c : Nat) (vis : List Int) (A' : Option Addr) (n' c' : Nat) (zs : List Int) (w : World) (hn : vis.length = n) (hr : RdI .i64 w A vis) (hsz : n ≤ 1048576)
    (hn' : zs.length = n') (hr' : RdI .u8 w A' zs) (hz' : Bytes zs) (hsz' : n' ≤ 1048576) :
    Calls Try.prog 15 #[.slice A n c, .slice A' n' c'] w fun e w' => e = .returned (.bool true) ∧ Below w.heap.size w w' := by
  have HN := Lib.hid hn
  have HN' := Lib.hid hn'
  clear hn hn'
  have hmk := run_make_row' (P := Try.prog) 24 3 (.int .i64 0) 8 Try.underlying24 info3 rfl .i64 .i64 n' (by omega) (by omega)
  go_enter Try.func15, Try.ntmps15
  go_wp2_with fail
  refine (awake25_any _).mono ?_
  rintro e w1 ⟨rfl, hb1⟩
  go_wp2_with fail
  refine (levels_any _ n' _ zs _ HN'.out (hr'.below hb1) hz' (by omega)).mono ?_
  rintro e w2 ⟨v, rfl, hown, hb2⟩
  have hb12 := hb1.trans (hb2.mono hb1.size)
  obtain ⟨A1, c1, rfl, _, hs2⟩ := hown.open_
  rw [len_levels, HN'.out]
  have hr2 := hr.below hb12
  clear hown hb1 hb2 hr hr' hs2
  go_wp2_with fail
  refine (back_any _ n _ vis _ n' _ _ HN.out hr2 (by omega) (by omega)).mono ?_
  rintro e w3 h3
  obtain ⟨v3, b3, rfl, hcase, hb3⟩ := h3
  have hr3 := hr2.below hb3
  have hb13 := hb12.trans (hb3.mono hb12.size)
  have hcase' : ∃ A3 m3 c3, v3 = .slice A3 m3 c3 ∧ ((backF vis n' = none ∧ b3 = false ∧ m3 = 0) ∨ ∃ out, backF vis n' = some out ∧ b3 = true ∧ m3 = n' ∧ out.length = n' ∧ RdI .i64 w3 A3 out) := by
    rcases hcase with ⟨h1, h2, h4⟩ | ⟨out, h1, h2, h4, h5⟩
    · exact ⟨none, 0, 0, h4, .inl ⟨h1, h2, rfl⟩⟩
    · obtain ⟨A3, c3, e, _, h6⟩ := h5.open_
      exact ⟨A3, _, c3, e, .inr ⟨out, h1, h2, h4, h4, h6⟩⟩
  obtain ⟨A3, m3, c3, rfl, hcs⟩ := hcase'
  have HCS := Lib.hid hcs
  clear hcase hcs hb3 hr2 hb12
  go_wp2_with fail
  clear hmk
  go_loopg [28] (n' + 1) (fun m i wr => ∃ k : Nat, k ≤ n' ∧ m = n' - k + 1 ∧ i = .int .i64 k ∧ wr.rowIs w3.heap.size 3 n' (fun j => .int .i64 (if j < k then -1 else 0)) ∧ Below w3.heap.size w3 wr)
  case atStart => exact ⟨0, Nat.zero_le _, rfl, rfl, (World.rowIs_made _ _ _ _).congr (fun i _ => rfl), (Below.refl _ _).alloc (Nat.le_refl _) _⟩
  case round =>
    obtain ⟨k, hk, hm, rfl, hrow, hb⟩ := hrel
    have Hm := Lib.hid hm
    clear hm
    by_cases hlt : k < n'
    · have hcell := hrow.cell hlt
      have hfr := hrow.frozen k
      have Hrow := Lib.hid (hrow.set k (.int .i64 (-1)))
      clear hrow
      go_wp2_with fail
      go_roundg (n' - k)
      case measure => have := Hm.out; omega
      case rel =>
        refine ⟨k + 1, by omega, by omega, by go_num, Hrow.out.congr (fun i _ => ?_), hb.setCell (by simp) _⟩
        by_cases hik : i = k
        · subst hik; rw [if_pos rfl, if_pos (by omega)]
        · rw [if_neg hik]; by_cases h2 : i < k
          · rw [if_pos h2, if_pos (by omega)]
          · rw [if_neg h2, if_neg (by omega)]
    · have hrow0 : wr.rowIs w3.heap.size 3 n' (fun j => .int .i64 ((List.replicate n' (-1 : Int)).getD j 0)) := hrow.congr (fun j hj => by
        rw [if_pos (by omega)]; simp [hj])
      obtain ⟨wo, rfl⟩ : ∃ wo : World, wo = wr := ⟨_, rfl⟩
      clear hrow
      go_wp2_with fail
      go_loopg [37, 10] (n + 1) (fun m i is wr => ∃ k : Nat, k ≤ n ∧ m = n - k + 1 ∧ i = .int .i64 k ∧ ∃ (O : List Int) (bb : Bool), is = .bool bb ∧ Hid (BackAt vis n' k O bb) ∧ Hid (O.length = n') ∧ wr.rowIs w3.heap.size 3 n' (fun j => .int .i64 (O.getD j 0)) ∧ Below w3.heap.size w3 wr)
      case atStart => exact ⟨0, Nat.zero_le _, rfl, rfl, _, true, rfl, Lib.hid (.inl ⟨rfl, rfl⟩), Lib.hid (by simp), hrow0, hb⟩
      case round =>
        clear hrow0 hb
        obtain ⟨k, hk, hm, rfl, O, bb, rfl, hB, hO, hrow, hb⟩ := hrel
        have Hm := Lib.hid hm
        clear hm
        by_cases hlt2 : k < n
        · obtain ⟨b, o, p, rfl, hx, hc⟩ := (hr3.below hb).at_ (k := k) (by rw [HN.out]; exact hlt2)
          have hstep : Hid (bb = true → backF vis n' = if p < 0 ∨ (O.length : Int) ≤ p ∨ O.getD p.toNat 0 ≠ -1 then none else backGo (vis.drop (k + 1)) (k + 1) (O.set p.toNat k)) := Lib.hid (fun hbb => by
            rcases hB.out with ⟨_, h⟩ | ⟨h, _⟩
            · rw [h, drop_cons hx.out, backGo]
            · rw [hbb] at h; cases h)
          have hnone : Hid (bb = false → backF vis n' = none) := Lib.hid (fun hbb => by
            rcases hB.out with ⟨h, _⟩ | ⟨_, h⟩
            · rw [hbb] at h; cases h
            · exact h)
          by_cases h1 : p < 0 ∨ (n' : Int) ≤ p
          · have hN : Hid (BackAt vis n' (k + 1) O false) := Lib.hid (.inr ⟨rfl, by
              cases hbb : bb with
              | false => exact hnone.out hbb
              | true => rw [hstep.out hbb, if_pos (by rcases h1 with h | h; exact .inl h; exact .inr (.inl (by rw [hO.out]; exact h)))]⟩)
            have d12 : decide (p < 0) = true ∨ (decide (p < 0) = false ∧ decide ((n' : Int) ≤ p) = true) := by
              by_cases h : p < 0
              · exact .inl (by simp [h])
              · exact .inr ⟨by simp [h], by rcases h1 with h' | h'; exact absurd h' h; simp [h']⟩
            clear h1
            rcases d12 with d1 | ⟨d1, d2⟩
            all_goals
              go_wp2_with fail
              go_roundg (n - k)
              case measure => have := Hm.out; omega
              case rel => exact ⟨k + 1, by omega, by omega, by go_num, O, false, rfl, hN, hO, hrow, hb⟩
          · have d1 : decide (p < 0) = false := decide_eq_false (fun h => h1 (.inl h))
            have d2 : decide ((n' : Int) ≤ p) = false := decide_eq_false (fun h => h1 (.inr h))
            obtain ⟨q, rfl⟩ : ∃ q : Nat, p = q := ⟨p.toNat, by omega⟩
            have hq : q < n' := by omega
            have hcell := hrow.cell hq
            have hfr := hrow.frozen q
            obtain ⟨x, hxO⟩ : ∃ x, x = O.getD q 0 := ⟨_, rfl⟩
            have HXO := Lib.hid hxO
            rw [← hxO] at hcell
            clear hxO h1
            cases hbb : bb with
            | false =>
              have hN : Hid (BackAt vis n' (k + 1) O false) := Lib.hid (.inr ⟨rfl, hnone.out hbb⟩)
              clear hbb
              go_wp2_with fail
              go_roundg (n - k)
              case measure => have := Hm.out; omega
              case rel => exact ⟨k + 1, by omega, by omega, by go_num, O, false, rfl, hN, hO, hrow, hb⟩
            | true =>
              by_cases h3 : x = -1
              · have d3 : (x != -1) = false := by simp [h3]
                have hN : Hid (BackAt vis n' (k + 1) (O.set q k) true) := Lib.hid (.inl ⟨rfl, by
                  rw [hstep.out hbb, Int.toNat_natCast, if_neg]
                  rintro (h | h | h)
                  · omega
                  · rw [hO.out] at h; omega
                  · rw [← HXO.out] at h; exact h h3⟩)
                have Hst := Lib.hid (set_congr (by rw [hO.out]; exact hq) (hrow.set q (.int .i64 (k : Int))))
                clear hrow h3 hbb
                go_wp2_with fail
                go_roundg (n - k)
                case measure => have := Hm.out; omega
                case rel => exact ⟨k + 1, by omega, by omega, by go_num, O.set q k, true, rfl, hN, Lib.hid (by rw [List.length_set, hO.out]), Hst.out, hb.setCell (by simp) _⟩
              · have d3 : (x != -1) = true := by simp [h3]
                have hN : Hid (BackAt vis n' (k + 1) O false) := Lib.hid (.inr ⟨rfl, by
                  rw [hstep.out hbb, Int.toNat_natCast, if_pos (.inr (.inr (by rw [← HXO.out]; exact h3)))]⟩)
                clear h3 hbb
                go_wp2_with fail
                go_roundg (n - k)
                case measure => have := Hm.out; omega
                case rel => exact ⟨k + 1, by omega, by omega, by go_num, O, false, rfl, hN, hO, hrow, hb⟩
        · have hfin : Hid ((bb = true ∧ backF vis n' = some O) ∨ (bb = false ∧ backF vis n' = none)) := Lib.hid (by
            rcases hB.out with ⟨h1, h2⟩ | h
            · exact .inl ⟨h1, by rw [h2, List.drop_of_length_le (by rw [HN.out]; omega), backGo]⟩
            · exact .inr h)
          have hO3 := (own_of_list hrow (Nat.le_refl w3.heap.size) (by omega) hO.out).rd
          rcases HCS.out with ⟨c1', c2', c3'⟩ | ⟨out, c1', c2', c3', c4', c5'⟩
          · have hbb : bb = false := by
              rcases hfin.out with ⟨_, h⟩ | ⟨h, _⟩
              · rw [c1'] at h; cases h
              · exact h
            subst hbb
            subst c2'
            subst c3'
            clear c1'
            go_wp2_with fail
            go_ret
            exact ⟨rfl, hb13.trans (hb.mono hb13.size)⟩
          · have hbb : bb = true ∧ out = O := by
              rcases hfin.out with ⟨h1, h⟩ | ⟨_, h⟩
              · rw [c1'] at h; exact ⟨h1, Option.some.inj h⟩
              · rw [c1'] at h; cases h
            obtain ⟨rfl, rfl⟩ := hbb
            subst c2'
            subst c3'
            clear c1'
            go_wp2_with fail
            refine (same_any _ _ _ out _ _ _ out _ hO.out hO.out (c5'.below hb) hO3 (by omega)).mono ?_
            rintro e w9 ⟨rfl, hb9⟩
            rw [sameB_self]
            go_wp2_with fail
            go_ret
            exact ⟨rfl, hb13.trans ((hb.trans (hb9.mono hb.size)).mono hb13.size)⟩
end Go.Proofs.Ytamfjmonpbojnaa
