/-
  boustrophedonref04.Plain and Bracket, and MirrorOf: the walks.
-/
import Derived.Test.YtkdgkjodllgalaaMirrorRef
namespace Go.Proofs.Ytkdgkjodllgalaa
open Go.RowKit

theorem RdI.keepB {K : IntKind} {w w' : World} {B : Nat} {A : Option Addr} {zs : List Int} (h : RdI K w A zs) (hA : ∀ ad, A = some ad → ad.block < B) (hb : Below B w w') : RdI K w' A zs := fun k u hu => by
  obtain ⟨ad, e, hc⟩ := h k u hu
  exact ⟨ad, e, (hb.cell (p := ad.add k) (by rw [block_add]; exact hA ad e)).trans hc⟩

theorem plainRef_any (w : World) :
    Calls Try.prog 29 #[] w fun e w' => e = .returned (.slice (some ⟨w.heap.size, 0, none⟩) 11 11) ∧ w' = w.alloc (.cells (plainL.map (Value.int .i64)).toArray 3) := by
  go_enter Try.func29, Try.ntmps29
  go_wp2
  go_ret
  exact ⟨rfl, rfl⟩

theorem plainF_mem (x : Int) : plainF x = true ↔ x ∈ plainL := by
  unfold plainF plainL
  simp [or_assoc]
/-- none of the first k plain ones is x -/
def NoneOf (x : Int) (k : Nat) : Prop := ∀ j y, j < k → plainL[j]? = some y → y ≠ x
theorem noneOf_all {x : Int} {k : Nat} (h : NoneOf x k) (hk : 11 ≤ k) : plainF x = false := by
  cases hp : plainF x
  · rfl
  · obtain ⟨j, hj⟩ := List.getElem?_of_mem ((plainF_mem x).1 hp)
    have := (List.getElem?_eq_some_iff.1 hj).1
    have hl : plainL.length = 11 := rfl
    exact absurd rfl (h j x (by omega) hj)

/-- what is said of a pair that has the rune -/
theorem bracketF_at {r x y : Int} {q : Bool} (h : findL r tabF = some ((x, y), q)) (hp : plainF x = false) : bracketF r = (if q then 2 else 1, if x = 9001 then 12296 else x) := bracketF_some h hp

set_option maxHeartbeats 2000000 in
theorem bracketRef_any (r : Int) (w : World) :
    Calls Try.prog 26 #[.int .i64 r] w fun e w' => e = .returned (.tuple #[.int .i64 (bracketF r).1, .int .i64 (bracketF r).2]) ∧ Below w.heap.size w w' := by
  go_enter Try.func26, Try.ntmps26
  go_wp2_with fail
  refine (mirrors_any _).mono ?_
  rintro e w1 ⟨rfl, rfl⟩
  have B0 : Below w.heap.size w (w.alloc (.cells wideCells 45)) := (Below.refl _ _).alloc (Nat.le_refl _) _
  have hg : (w.alloc (.cells wideCells 45)).heap[w.heap.size]? = some (.cells wideCells 45) := heap_alloc_new w _
  have hs1 : w.heap.size < (w.alloc (.cells wideCells 45)).heap.size := by simp
  generalize w.alloc (.cells wideCells 45) = w1 at *
  go_wp2_with fail
  go_loop [5] (fun i => ∃ k : Nat, k ≤ 35 ∧ i = .int .i64 k ∧ Hid (findL r tabF = findL r (tabF.drop k))) (fun i => 35 - (intOf i).toNat)
  case atStart => exact ⟨0, by omega, rfl, Lib.hid rfl⟩
  case round =>
    obtain ⟨k, hk, rfl, hf⟩ := hrel
    by_cases hlt : k < 35
    · have hx : ∃ p, tabF[k]? = some p := ⟨_, List.getElem?_eq_getElem (by rw [tabF_len]; exact hlt)⟩
      obtain ⟨p, hp⟩ := hx
      obtain ⟨c1, c2⟩ := wide_cell hg hp
      have hd : Hid (tabF.drop k = p :: tabF.drop (k + 1)) := by
        rw [List.getElem?_eq_some_iff] at hp
        obtain ⟨h1, h2⟩ := hp
        rw [← h2]
        exact Lib.hid (List.drop_eq_getElem_cons h1)
      obtain ⟨x, y⟩ := p
      simp only at c1 c2
      clear hp
      by_cases hin : x = r ∨ y = r
      · -- this pair has it
        have hfound : ∃ q : Bool, findL r tabF = some ((x, y), q) ∧ (q = false ∧ (x == r) = true ∨ q = true ∧ (x == r) = false ∧ (y == r) = true) := by
          by_cases h1 : x = r
          · exact ⟨false, by rw [hf.out, hd.out, findL, if_pos h1.symm], .inl ⟨rfl, beq_iff_eq.2 h1⟩⟩
          · have h2 : y = r := by rcases hin with h | h; exact absurd h h1; exact h
            exact ⟨true, by rw [hf.out, hd.out, findL, if_neg (fun h => h1 h.symm), if_pos h2.symm], .inr ⟨rfl, beq_eq_false_iff_ne.2 h1, beq_iff_eq.2 h2⟩⟩
        obtain ⟨q, hfq, hq⟩ := hfound
        have HF := Lib.hid hfq
        have hor : (x != r) = false ∧ (x == r) = true ∧ q = false ∨ (x != r) = true ∧ (y != r) = false ∧ (x == r) = false ∧ q = true := by
          rcases hq with ⟨h0, h⟩ | ⟨h0, h, h'⟩
          · left; exact ⟨by simp [bne, h], h, h0⟩
          · right; exact ⟨by simp [bne, h], by simp [bne, h'], h, h0⟩
        clear hfq hd hf hin hq
        rcases hor with ⟨hne, heq, rfl⟩ | ⟨hne, hne', heq, rfl⟩
        · go_wp2_with fail
          refine (plainRef_any _).mono ?_
          rintro e w2 ⟨rfl, rfl⟩
          have R := rd_lit .i64 w1 (plainL.map (Value.int .i64)).toArray 3 plainL rfl
          have B1 := B0.alloc B0.size (.cells (plainL.map (Value.int .i64)).toArray 3)
          have c1' : (w1.alloc (.cells (plainL.map (Value.int .i64)).toArray 3)).cell? ⟨w.heap.size, k * 2, none⟩ = some (.int .i64 x) := by rw [((Below.refl w1.heap.size w1).alloc (Nat.le_refl _) _).cell hs1]; exact c1
          have hs2 : w1.heap.size < (w1.alloc (.cells (plainL.map (Value.int .i64)).toArray 3)).heap.size := by simp
          generalize w1.alloc (.cells (plainL.map (Value.int .i64)).toArray 3) = w2 at *
          clear c1 c2 hg hne
          go_wp2_with fail
          go_loopg [7] 12 (fun m i wr => ∃ j : Nat, j ≤ 11 ∧ m = 11 - j + 1 ∧ i = .int .i64 j ∧ NoneOf x j ∧ Below (w1.heap.size + 1) w2 wr)
          case atStart => exact ⟨0, by omega, rfl, rfl, fun j y h => absurd h (by omega), Below.refl _ _⟩
          case round =>
            obtain ⟨j, hj, hm, rfl, hno, hb⟩ := hrel
            have Hm := Lib.hid hm
            clear hm
            have hbs := hb.size
            have c3 : wr.cell? ⟨w.heap.size, k * 2, none⟩ = some (.int .i64 x) := by rw [hb.cell (by simp; omega)]; exact c1'
            have Bw : Below w.heap.size w wr := B1.trans (hb.mono (by omega))
            by_cases hlj : j < 11
            · have hpl : plainL.length = 11 := rfl
              have R' : RdI .i64 wr (some ⟨w1.heap.size, 0, none⟩) plainL := RdI.keepB R (by intro ad h; cases h; exact Nat.lt_succ_self _) hb
              obtain ⟨b, o, z, e0, hz, hc⟩ := R'.at_ (k := j) (by rw [hpl]; exact hlj)
              injection e0 with e0
              injection e0 with e1 e2 e3
              subst e1
              subst e2
              rw [Nat.zero_add] at hc
              clear c1' R R' hpl
              by_cases hzx : z = x
              · have HZ := Lib.hid hzx
                have dz : (z == x) = true := beq_iff_eq.2 hzx
                clear hzx
                go_wp2_with fail
                go_quiet (fail)
                go_wp2_with fail
                go_ret2
                refine ⟨?_, below_drewN Bw _⟩
                rw [bracketF_plain HF.out ((plainF_mem x).2 (HZ.out ▸ List.mem_of_getElem? hz.out))]
                rfl
              · have dz : (z == x) = false := beq_eq_false_iff_ne.2 hzx
                have HZ := Lib.hid hzx
                clear hzx
                go_wp2_with fail
                go_quiet (fail)
                go_wp2_with fail
                go_roundg (11 - j)
                case measure => have := Hm.out; omega
                case rel =>
                  refine ⟨j + 1, by omega, by omega, by go_num, fun j' y' h h' => ?_, below_drewN hb _⟩
                  by_cases hjj : j' = j
                  · subst hjj
                    rw [hz.out] at h'
                    exact Option.some.inj h' ▸ HZ.out
                  · exact hno j' y' (by omega) h'
            · have hpl := noneOf_all hno (by omega)
              have HB := Lib.hid (bracketF_some HF.out hpl)
              clear hpl hno c1' R
              by_cases h9 : x = 9001
              · have d9 : (x == 9001) = true := beq_iff_eq.2 h9
                have H9 := Lib.hid h9
                clear h9
                go_wp2_with fail
                go_ret2
                exact ⟨by rw [HB.out, if_pos H9.out]; rfl, Bw⟩
              · have d9 : (x == 9001) = false := beq_eq_false_iff_ne.2 h9
                have H9 := Lib.hid h9
                clear h9
                go_wp2_with fail
                go_ret2
                exact ⟨by rw [HB.out, if_neg H9.out]; rfl, Bw⟩
        · go_wp2_with fail
          refine (plainRef_any _).mono ?_
          rintro e w2 ⟨rfl, rfl⟩
          have R := rd_lit .i64 w1 (plainL.map (Value.int .i64)).toArray 3 plainL rfl
          have B1 := B0.alloc B0.size (.cells (plainL.map (Value.int .i64)).toArray 3)
          have c1' : (w1.alloc (.cells (plainL.map (Value.int .i64)).toArray 3)).cell? ⟨w.heap.size, k * 2, none⟩ = some (.int .i64 x) := by rw [((Below.refl w1.heap.size w1).alloc (Nat.le_refl _) _).cell hs1]; exact c1
          have hs2 : w1.heap.size < (w1.alloc (.cells (plainL.map (Value.int .i64)).toArray 3)).heap.size := by simp
          generalize w1.alloc (.cells (plainL.map (Value.int .i64)).toArray 3) = w2 at *
          clear c1 c2 hg hne
          clear hne'
          go_wp2_with fail
          go_loopg [7] 12 (fun m i wr => ∃ j : Nat, j ≤ 11 ∧ m = 11 - j + 1 ∧ i = .int .i64 j ∧ NoneOf x j ∧ Below (w1.heap.size + 1) w2 wr)
          case atStart => exact ⟨0, by omega, rfl, rfl, fun j y h => absurd h (by omega), Below.refl _ _⟩
          case round =>
            obtain ⟨j, hj, hm, rfl, hno, hb⟩ := hrel
            have Hm := Lib.hid hm
            clear hm
            have hbs := hb.size
            have c3 : wr.cell? ⟨w.heap.size, k * 2, none⟩ = some (.int .i64 x) := by rw [hb.cell (by simp; omega)]; exact c1'
            have Bw : Below w.heap.size w wr := B1.trans (hb.mono (by omega))
            by_cases hlj : j < 11
            · have hpl : plainL.length = 11 := rfl
              have R' : RdI .i64 wr (some ⟨w1.heap.size, 0, none⟩) plainL := RdI.keepB R (by intro ad h; cases h; exact Nat.lt_succ_self _) hb
              obtain ⟨b, o, z, e0, hz, hc⟩ := R'.at_ (k := j) (by rw [hpl]; exact hlj)
              injection e0 with e0
              injection e0 with e1 e2 e3
              subst e1
              subst e2
              rw [Nat.zero_add] at hc
              clear c1' R R' hpl
              by_cases hzx : z = x
              · have HZ := Lib.hid hzx
                have dz : (z == x) = true := beq_iff_eq.2 hzx
                clear hzx
                go_wp2_with fail
                go_quiet (fail)
                go_wp2_with fail
                go_ret2
                refine ⟨?_, below_drewN Bw _⟩
                rw [bracketF_plain HF.out ((plainF_mem x).2 (HZ.out ▸ List.mem_of_getElem? hz.out))]
                rfl
              · have dz : (z == x) = false := beq_eq_false_iff_ne.2 hzx
                have HZ := Lib.hid hzx
                clear hzx
                go_wp2_with fail
                go_quiet (fail)
                go_wp2_with fail
                go_roundg (11 - j)
                case measure => have := Hm.out; omega
                case rel =>
                  refine ⟨j + 1, by omega, by omega, by go_num, fun j' y' h h' => ?_, below_drewN hb _⟩
                  by_cases hjj : j' = j
                  · subst hjj
                    rw [hz.out] at h'
                    exact Option.some.inj h' ▸ HZ.out
                  · exact hno j' y' (by omega) h'
            · have hpl := noneOf_all hno (by omega)
              have HB := Lib.hid (bracketF_some HF.out hpl)
              clear hpl hno c1' R
              by_cases h9 : x = 9001
              · have d9 : (x == 9001) = true := beq_iff_eq.2 h9
                have H9 := Lib.hid h9
                clear h9
                go_wp2_with fail
                go_ret2
                exact ⟨by rw [HB.out, if_pos H9.out]; rfl, Bw⟩
              · have d9 : (x == 9001) = false := beq_eq_false_iff_ne.2 h9
                have H9 := Lib.hid h9
                clear h9
                go_wp2_with fail
                go_ret2
                exact ⟨by rw [HB.out, if_neg H9.out]; rfl, Bw⟩
      · have d1 : (x != r) = true := bne_iff_ne.2 (fun h => hin (.inl h))
        have d2 : (y != r) = true := bne_iff_ne.2 (fun h => hin (.inr h))
        have e1 : ¬ r = x := fun h => hin (.inl h.symm)
        have e2 : ¬ r = y := fun h => hin (.inr h.symm)
        have E := Lib.hid (And.intro e1 e2)
        clear hin hg e1 e2
        go_wp2_with fail
        go_round
        case rel => exact ⟨k + 1, by omega, by go_num, Lib.hid (by rw [hf.out, hd.out, findL, if_neg E.out.1, if_neg E.out.2])⟩
        case measure => simp [intOf]; omega
    · have hkk : k = 35 := by omega
      subst hkk
      have hd : findL r tabF = none := by
        rw [hf.out, List.drop_of_length_le (Nat.le_of_eq tabF_len)]
        rfl
      have HD := Lib.hid (bracketF_none hd)
      clear hd hf
      go_wp2_with fail
      go_ret2
      exact ⟨by rw [HD.out]; rfl, B0⟩
end Go.Proofs.Ytkdgkjodllgalaa
