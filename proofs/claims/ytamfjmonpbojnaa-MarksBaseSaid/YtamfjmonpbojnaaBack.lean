/-
  The contracts of boustrophedonlaw25.Same and order.Back.
-/
import Derived.Test.YtamfjmonpbojnaaVisual
namespace Go.Proofs.Ytamfjmonpbojnaa
open Go.RowKit

def sameB (xs ys : List Int) : Bool := decide (xs = ys)
theorem sameB_self (xs : List Int) : sameB xs xs = true := by simp [sameB]

set_option maxHeartbeats 1000000 in
theorem same_any (A : Option Addr) (n c : Nat) (xs : List Int) (A2 : Option Addr) (n2 c2 : Nat) (ys : List Int) (w : World) (hn : xs.length = n) (hn2 : ys.length = n2) (hr : RdI .i64 w A xs) (hr2 : RdI .i64 w A2 ys) (hsz : n ≤ 17592186044416) :
    Calls Try.prog 37 #[.slice A n c, .slice A2 n2 c2] w fun e w' => e = .returned (.bool (sameB xs ys)) ∧ Below w.heap.size w w' := by
  have HN := Lib.hid hn
  have HN2 := Lib.hid hn2
  by_cases hl : n = n2
  · subst hl
    have hne : ((n : Int) != n) = false := by simp
    clear hn hn2
    go_enter Try.func37, Try.ntmps37
    go_wp2_with fail
    clear hne
    go_loopg [5] (n + 1) (fun m i wr => ∃ k : Nat, k ≤ n ∧ m = n - k + 1 ∧ i = .int .i64 k ∧ Hid (xs.take k = ys.take k) ∧ Below w.heap.size w wr)
    case atStart => exact ⟨0, Nat.zero_le _, rfl, rfl, Lib.hid (by simp), Below.refl _ _⟩
    case round =>
      obtain ⟨k, hk, hm, rfl, heq, hb⟩ := hrel
      have Hm := Lib.hid hm
      clear hm
      by_cases hlt : k < n
      · obtain ⟨b, o, x, rfl, hx, hc⟩ := (hr.below hb).at_ (k := k) (by rw [HN.out]; exact hlt)
        obtain ⟨b', o', y, rfl, hy, hc'⟩ := (hr2.below hb).at_ (k := k) (by rw [HN2.out]; exact hlt)
        by_cases hxy : x = y
        · subst hxy
          have hne : (x != x) = false := by simp
          go_wp2_with fail
          go_quiet (fail)
          go_wp2_with fail
          go_roundg (n - k)
          case measure => have := Hm.out; omega
          case rel => exact ⟨k + 1, by omega, by omega, by go_num, Lib.hid (by rw [take_snoc hx.out, take_snoc hy.out, heq.out]), below_drewN hb _⟩
        · have hne : (x != y) = true := by simp [hxy]
          have hs : Hid (sameB xs ys = false) := Lib.hid (by
            unfold sameB
            rw [decide_eq_false_iff_not]
            intro h
            subst h
            have := hx.out
            rw [hy.out] at this
            exact hxy (Option.some.inj this).symm)
          clear hxy
          go_wp2_with fail
          go_quiet (fail)
          go_wp2_with fail
          go_ret
          exact ⟨ret_bool (by rw [hs.out]), below_drewN hb _⟩
      · have hs : Hid (sameB xs ys = true) := Lib.hid (by
          unfold sameB
          rw [decide_eq_true_eq]
          have := heq.out
          rwa [List.take_of_length_le (by rw [HN.out]; omega), List.take_of_length_le (by rw [HN2.out]; omega)] at this)
        go_wp2_with fail
        go_ret
        exact ⟨ret_bool (by rw [hs.out]), hb⟩
  · have hne : ((n : Int) != n2) = true := by simp; omega
    have hs : Hid (sameB xs ys = false) := Lib.hid (by
      unfold sameB
      rw [decide_eq_false_iff_not]
      intro h
      subst h
      omega)
    clear hn hn2
    go_enter Try.func37, Try.ntmps37
    go_wp2_with fail
    go_ret
    exact ⟨ret_bool (by rw [hs.out]), Below.refl _ _⟩

/-! ### Back -/
def backGo : List Int → Nat → List Int → Option (List Int)
  | [], _, out => some out
  | p :: r, k, out => if p < 0 ∨ (out.length : Int) ≤ p ∨ out.getD p.toNat 0 ≠ -1 then none else backGo r (k + 1) (out.set p.toNat k)
def backF (vis : List Int) (m : Nat) : Option (List Int) := backGo vis 0 (List.replicate m (-1))

/-- what Back comes to -/
def BackPost (vis : List Int) (n2 : Nat) (w : World) (e : Ending) (w' : World) : Prop :=
  ∃ v b, e = .returned (.tuple #[v, .bool b]) ∧ ((backF vis n2 = none ∧ b = false ∧ v = .slice none 0 0) ∨ ∃ out, backF vis n2 = some out ∧ b = true ∧ out.length = n2 ∧ Own w' w.heap.size v out) ∧ Below w.heap.size w w'

theorem own_of_list {w : World} {b n B : Nat} {O : List Int} (h : w.rowIs b 3 n (fun j => .int .i64 (O.getD j 0))) (hb : B ≤ b) (hn : n ≤ 4294967296) (hz : O.length = n) : Own w B (.slice (some ⟨b, 0, none⟩) n n) O :=
  own_row_eq h hb hn hz (fun j hj => by rw [List.getD_eq_getElem?_getD, List.getElem?_eq_getElem (by omega)]; rfl)
theorem set_congr {w : World} {b n k : Nat} {O : List Int} {x : Int} (hk : k < O.length) (h : w.rowIs b 3 n (fun j => if j = k then .int .i64 x else .int .i64 (O.getD j 0))) : w.rowIs b 3 n (fun j => .int .i64 ((O.set k x).getD j 0)) :=
  h.congr (fun j _ => by
    by_cases hj : j = k
    · subst hj
      rw [if_pos rfl]
      simp [List.getElem?_set_self hk]
    · rw [if_neg hj]
      simp only [List.getD_eq_getElem?_getD, List.getElem?_set_ne (Ne.symm hj)])

set_option maxHeartbeats 2000000 in
theorem back_any (A : Option Addr) (n c : Nat) (vis : List Int) (A2 : Option Addr) (n2 c2 : Nat) (w : World) (hn : vis.length = n) (hr : RdI .i64 w A vis) (hsz : n ≤ 4294967295) (hsz2 : n2 ≤ 4294967295) :
    Calls Try.prog 44 #[.slice A n c, .slice A2 n2 c2] w (BackPost vis n2 w) := by
  have HN := Lib.hid hn
  clear hn
  have hmk := run_make_row' (P := Try.prog) 24 3 (.int .i64 0) 8 Try.underlying24 info3 rfl .i64 .i64 n2 (by omega) (by omega)
  go_enter Try.func44, Try.ntmps44
  go_wp2_with fail
  clear hmk
  go_loopg [15] (n2 + 1) (fun m i wr => ∃ k : Nat, k ≤ n2 ∧ m = n2 - k + 1 ∧ i = .int .i64 k ∧ wr.rowIs w.heap.size 3 n2 (fun j => .int .i64 (if j < k then -1 else 0)) ∧ Below w.heap.size w wr)
  case atStart => exact ⟨0, Nat.zero_le _, rfl, rfl, (World.rowIs_made _ _ _ _).congr (fun i _ => rfl), (Below.refl _ _).alloc (Nat.le_refl _) _⟩
  case round =>
    obtain ⟨k, hk, hm, rfl, hrow, hb⟩ := hrel
    have Hm := Lib.hid hm
    clear hm
    by_cases hlt : k < n2
    · have hcell := hrow.cell hlt
      have hfr := hrow.frozen k
      have Hrow := Lib.hid (hrow.set k (.int .i64 (-1)))
      clear hrow
      go_wp2_with fail
      go_roundg (n2 - k)
      case measure => have := Hm.out; omega
      case rel =>
        refine ⟨k + 1, by omega, by omega, by go_num, Hrow.out.congr (fun i _ => ?_), hb.setCell (by simp) _⟩
        by_cases hik : i = k
        · subst hik; rw [if_pos rfl, if_pos (by omega)]
        · rw [if_neg hik]; by_cases h2 : i < k
          · rw [if_pos h2, if_pos (by omega)]
          · rw [if_neg h2, if_neg (by omega)]
    · have hrow0 : wr.rowIs w.heap.size 3 n2 (fun j => .int .i64 ((List.replicate n2 (-1 : Int)).getD j 0)) := hrow.congr (fun j hj => by
        rw [if_pos (by omega)]; simp [hj])
      obtain ⟨wo, rfl⟩ : ∃ wo : World, wo = wr := ⟨_, rfl⟩
      clear hrow
      go_wp2_with fail
      go_loopg [24] (n + 1) (fun m i wr => ∃ k : Nat, k ≤ n ∧ m = n - k + 1 ∧ i = .int .i64 k ∧ ∃ O : List Int, Hid (backF vis n2 = backGo (vis.drop k) k O) ∧ Hid (O.length = n2) ∧ wr.rowIs w.heap.size 3 n2 (fun j => .int .i64 (O.getD j 0)) ∧ Below w.heap.size w wr)
      case atStart => exact ⟨0, Nat.zero_le _, rfl, rfl, _, Lib.hid rfl, Lib.hid (by simp), hrow0, hb⟩
      case round =>
        clear hrow0 hb
        obtain ⟨k, hk, hm, rfl, O, hB, hO, hrow, hb⟩ := hrel
        have Hm := Lib.hid hm
        clear hm
        by_cases hlt2 : k < n
        · obtain ⟨b, o, p, rfl, hx, hc⟩ := (hr.below hb).at_ (k := k) (by rw [HN.out]; exact hlt2)
          have hstep : Hid (backF vis n2 = if p < 0 ∨ (O.length : Int) ≤ p ∨ O.getD p.toNat 0 ≠ -1 then none else backGo (vis.drop (k + 1)) (k + 1) (O.set p.toNat k)) := Lib.hid (by rw [hB.out, drop_cons hx.out, backGo])
          by_cases h1 : p < 0
          · have hN : Hid (backF vis n2 = none) := Lib.hid (by rw [hstep.out, if_pos (.inl h1)])
            have d1 : decide (p < 0) = true := by simp [h1]
            go_wp2_with fail
            go_ret2
            exact ⟨_, _, rfl, .inl ⟨hN.out, rfl, rfl⟩, hb⟩
          · have d1 : decide (p < 0) = false := by simp [h1]
            by_cases h2 : (n2 : Int) ≤ p
            · have hN : Hid (backF vis n2 = none) := Lib.hid (by rw [hstep.out, if_pos (.inr (.inl (by rw [hO.out]; exact h2)))])
              have d2 : decide ((n2 : Int) ≤ p) = true := by simp [h2]
              go_wp2_with fail
              go_ret2
              exact ⟨_, _, rfl, .inl ⟨hN.out, rfl, rfl⟩, hb⟩
            · have d2 : decide ((n2 : Int) ≤ p) = false := by simp [h2]
              obtain ⟨q, rfl⟩ : ∃ q : Nat, p = q := ⟨p.toNat, by omega⟩
              have hq : q < n2 := by omega
              have hcell := hrow.cell hq
              have hfr := hrow.frozen q
              obtain ⟨x, hxO⟩ : ∃ x, x = O.getD q 0 := ⟨_, rfl⟩
              have HXO := Lib.hid hxO
              rw [← hxO] at hcell
              clear hxO
              by_cases h3 : x = -1
              · have d3 : (x != -1) = false := by simp [h3]
                have hN : Hid (backF vis n2 = backGo (vis.drop (k + 1)) (k + 1) (O.set q k)) := Lib.hid (by
                  rw [hstep.out, Int.toNat_natCast, if_neg]
                  rintro (h | h | h)
                  · omega
                  · rw [hO.out] at h; omega
                  · rw [← HXO.out] at h; exact h h3)
                have Hst := Lib.hid (set_congr (by rw [hO.out]; exact hq) (hrow.set q (.int .i64 (k : Int))))
                clear hrow h3
                go_wp2_with fail
                go_roundg (n - k)
                case measure => have := Hm.out; omega
                case rel => exact ⟨k + 1, by omega, by omega, by go_num, O.set q k, hN, Lib.hid (by rw [List.length_set, hO.out]), Hst.out, hb.setCell (by simp) _⟩
              · have d3 : (x != -1) = true := by simp [h3]
                have hN : Hid (backF vis n2 = none) := Lib.hid (by rw [hstep.out, Int.toNat_natCast, if_pos (.inr (.inr (by rw [← HXO.out]; exact h3)))])
                clear h3
                go_wp2_with fail
                go_ret2
                exact ⟨_, _, rfl, .inl ⟨hN.out, rfl, rfl⟩, hb⟩
        · have hN : Hid (backF vis n2 = some O) := Lib.hid (by rw [hB.out, List.drop_of_length_le (by rw [HN.out]; omega), backGo])
          go_wp2_with fail
          go_ret2
          exact ⟨_, _, rfl, .inr ⟨O, hN.out, rfl, hO.out, own_of_list hrow (Nat.le_refl _) (by omega) hO.out⟩, hb⟩
end Go.Proofs.Ytamfjmonpbojnaa
