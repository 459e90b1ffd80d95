/-
  ParaShort: the walk.
-/
import Derived.Test.YtkdgkjodllgalaaParaMake
namespace Go.Proofs.Ytkdgkjodllgalaa
open Go.RowKit

def shortF (c : Int) : Int := if c = 10 then 11 else c
theorem split_plain : ∀ (z : List (Int × Int)) (k f : Nat), f ≤ k → (∀ p ∈ z, p.2 ≠ 10) → splitF z k f = if f < k + z.length then [((f : Int), ((k + z.length : Nat) : Int), 0)] else []
  | [], k, f, _, _ => by rw [splitF_nil]; simp
  | (r, c) :: t, k, f, hf, h => by
    rw [splitF_no (h (r, c) List.mem_cons_self) hf, split_plain t (k + 1) f (by omega) (fun p hp => h p (List.mem_cons_of_mem _ hp))]
    have e : k + 1 + t.length = k + ((r, c) :: t).length := by simp; omega
    rw [e]
theorem split_short (rs xs : List Int) : splitF (rs.zip (xs.map shortF)) 0 0 = if 0 < min rs.length xs.length then [(0, ((min rs.length xs.length : Nat) : Int), 0)] else [] := by
  rw [split_plain _ 0 0 (Nat.le_refl _)]
  · simp
  · intro p hp
    have := (List.of_mem_zip hp).2
    obtain ⟨c, _, hc⟩ := List.mem_map.1 this
    rw [← hc]; unfold shortF; split <;> omega
theorem short_set {xs : List Int} {k : Nat} {x : Int} (h : xs[k]? = some x) : ((xs.take k).map shortF ++ xs.drop k).set k (shortF x) = (xs.take (k + 1)).map shortF ++ xs.drop (k + 1) := by
  have hlt := (List.getElem?_eq_some_iff.1 h).1
  have hx : xs[k] = x := (List.getElem?_eq_some_iff.1 h).2
  have hl : ((xs.take k).map shortF).length = k := by simp; omega
  rw [List.drop_eq_getElem_cons hlt, hx, map_take_snoc shortF h, List.set_append, if_neg (by omega), hl, Nat.sub_self]
  simp
theorem short_at {xs : List Int} {k : Nat} {x : Int} (h : xs[k]? = some x) : ((xs.take k).map shortF ++ xs.drop k)[k]? = some x := by
  have hlt := (List.getElem?_eq_some_iff.1 h).1
  have hl : ((xs.take k).map shortF).length = k := by simp; omega
  rw [List.getElem?_append_right (by omega), hl, Nat.sub_self, List.getElem?_drop, Nat.add_zero]
  exact h
theorem short_keep {xs : List Int} {k : Nat} {x : Int} (h : xs[k]? = some x) (hx : x ≠ 10) : (xs.take (k + 1)).map shortF ++ xs.drop (k + 1) = (xs.take k).map shortF ++ xs.drop k := by
  rw [← short_set h, show shortF x = x from if_neg hx]
  obtain ⟨h1, h2⟩ := List.getElem?_eq_some_iff.1 (short_at h)
  conv => lhs; rw [← h2]
  exact List.set_getElem_self h1

set_option maxHeartbeats 2000000 in
theorem paraShort_walk (A0 : Option Addr) (n0 c0 : Nat) (rs : List Int) (A1 : Option Addr) (n1 c1 : Nat) (ns : List Int) (w : World) (hn0 : rs.length = n0) (hn1 : ns.length = n1) (hr0 : RdI .i32 w A0 rs) (hr1 : RdI .u8 w A1 ns) (hz : Bytes ns) (hz0 : n0 ≤ 1048576) (hz1 : n1 ≤ 1048576) :
    Calls Try.prog 8 #[.slice A0 n0 c0, .slice A1 n1 c1] w fun e w' => e = .returned (.bool true) ∧ Below w.heap.size w w' := by
  have hsp := split_short rs (classesF ns)
  have hl1 : (classesF ns).length = n1 := by simp [classesF, hn1]
  rw [hn0, hl1] at hsp
  have HN0 := Lib.hid hn0
  have HN1 := Lib.hid hn1
  have HL1 := Lib.hid hl1
  have HSP := Lib.hid hsp
  clear hn0 hn1 hl1 hsp
  have hcase : n0 < n1 ∨ n0 = n1 ∨ n1 < n0 := by omega
  rcases hcase with hnn | hnn | hnn
  · skip
    have HM : Hid (min n0 n1 = n0) := Lib.hid (by omega)
    go_enter Try.func8, Try.ntmps8
    go_wp2_with fail
    refine (awake08_any _).mono ?_
    rintro e w1 ⟨rfl, b1⟩
    go_wp2_with fail
    refine (classes_any _ _ _ ns _ HN1.out (hr1.below b1) hz (by omega)).mono ?_
    rintro e w2 ⟨v, rfl, hown, b2⟩
    have hb12 := b1.trans (b2.mono b1.size)
    obtain ⟨A, c, rfl, _, _⟩ := hown.open_
    rw [HL1.out]
    have hown' : OwnC w2 w1.heap.size (.slice A n1 c) ((( classesF ns).take 0).map shortF ++ (classesF ns).drop 0) := by simpa [HL1.out] using hown
    have hs12 := b1.size
    clear hown hr1 b1 b2
    go_wp2_with fail
    go_loopg [6] (n1 + 1) (fun m i wr => ∃ k : Nat, k ≤ n1 ∧ m = n1 - k + 1 ∧ i = .int .i64 k ∧ OwnC wr w1.heap.size (.slice A n1 c) (((classesF ns).take k).map shortF ++ (classesF ns).drop k) ∧ Below w.heap.size w wr)
    case atStart => exact ⟨0, Nat.zero_le _, rfl, rfl, hown', hb12⟩
    case round =>
      obtain ⟨k, hk, hm, rfl, hown, hb⟩ := hrel
      have hr0' := hr0.below hb
      have Hm := Lib.hid hm
      clear hm hown'
      have hbs := hb.size
      by_cases hlt : k < n1
      · have hx : ∃ x, (classesF ns)[k]? = some x := ⟨_, List.getElem?_eq_getElem (by rw [HL1.out]; exact hlt)⟩
        obtain ⟨x, hx⟩ := hx
        have HX := Lib.hid hx
        have hat := short_at hx
        have hrd := hown.rd
        obtain ⟨g, hA⟩ : ∃ g, A = some ⟨g, 0, none⟩ := by
          rcases hown.2 with ⟨hv, h0⟩ | ⟨g, cap, cur, hv, _⟩
          · simp [HL1.out] at h0; omega
          · injection hv with hv; exact ⟨g, hv⟩
        subst hA
        have hc : wr.cell? ⟨g, k, none⟩ = some (.int .u8 x) := by
          obtain ⟨b, o, e0, _, hq⟩ := hrd.addr (by simp [HL1.out]; omega)
          injection e0 with e0
          injection e0 with e1 e2
          subst e1
          subst e2
          have := hq k x hat
          rwa [Nat.zero_add] at this
        have hLL : (((classesF ns).take k).map shortF ++ (classesF ns).drop k).length = n1 := by simp [HL1.out]; omega
        have hfr : wr.frozen? ⟨g, k, none⟩ = false := by
          have h1 := hown
          unfold OwnC OwnT at h1
          rw [hLL] at h1
          exact h1.frozenAt k
        have hgB : w1.heap.size ≤ g := hown.ge g rfl
        have st : OwnC (wr.setCell ⟨g, k, none⟩ (.int .u8 11)) w1.heap.size (.slice (some ⟨g, 0, none⟩) n1 c) ((((classesF ns).take k).map shortF ++ (classesF ns).drop k).set k 11) := by
          have h1 := hown
          unfold OwnC OwnT at h1 ⊢
          rw [List.length_set, hLL, List.map_set]
          rw [hLL] at h1
          exact (h1.stored k (.int .u8 11)).1
        have hset : w.heap.size ≤ g := by omega
        have HLL := Lib.hid hLL
        have HAT := Lib.hid hat
        clear hx hat hLL hrd
        by_cases h10 : x = 10
        · have H10 := Lib.hid h10
          have d1 : (x == 10) = true := by simp [h10]
          clear h10
          go_wp2_with fail
          go_roundg (n1 - k)
          case measure => have := Hm.out; omega
          case rel => exact ⟨k + 1, by omega, by omega, by go_num, by rw [← short_set HX.out, show shortF x = 11 from if_pos H10.out]; exact st, hb.setCell hset _⟩
        · have H10 := Lib.hid h10
          have d1 : (x == 10) = false := beq_eq_false_iff_ne.2 h10
          clear h10 st
          go_wp2_with fail
          go_roundg (n1 - k)
          case measure => have := Hm.out; omega
          case rel => exact ⟨k + 1, by omega, by omega, by go_num, by rw [short_keep HX.out H10.out]; exact hown, hb⟩
      · have hkk : k = n1 := by omega
        have hall : ((classesF ns).take k).map shortF ++ (classesF ns).drop k = (classesF ns).map shortF := by
          rw [List.take_of_length_le (by rw [HL1.out]; omega), List.drop_of_length_le (by rw [HL1.out]; omega), List.append_nil]
        rw [hall] at hown
        have hrd := hown.rd
        clear hall
        go_wp2_with fail
        refine (split_any _ _ _ rs _ _ _ ((classesF ns).map shortF) _ HN0.out (by rw [List.length_map]; exact HL1.out) hr0' hrd (by omega) (by omega)).mono ?_
        rintro e w3 ⟨v, rfl, hownp, b3⟩
        rw [HSP.out, HM.out] at hownp
        have hb3 := hb.trans (b3.mono hbs)
        by_cases hzero : n0 = 0
        · have HZ := Lib.hid hzero
          rw [if_neg (by omega)] at hownp
          obtain ⟨A2, c2, rfl, _, _⟩ := hownp.open_
          have d0 : ((n0 : Int) == 0) = true := by simp [hzero]
          clear hzero
          go_wp2_with fail
          go_ret
          exact ⟨by simp, hb3⟩
        · rw [if_pos (by omega)] at hownp
          obtain ⟨A2, c2, rfl, _, r2⟩ := hownp.open_
          obtain ⟨g2, rfl, _, x0, x1, x2⟩ := r2 0 _ rfl
          simp only [Nat.zero_mul, Nat.zero_add] at x0 x1 x2
          have d0 : ((n0 : Int) == 0) = false := by simp; omega
          have d2 : decide ((0 : Int) < (n0 : Int)) = true := decide_eq_true (by omega)
          clear r2 hownp
          go_wp2_with fail
          go_ret
          exact ⟨by simp, hb3⟩
  · subst hnn
    have HM : Hid (min n0 n0 = n0) := Lib.hid (by omega)
    go_enter Try.func8, Try.ntmps8
    go_wp2_with fail
    refine (awake08_any _).mono ?_
    rintro e w1 ⟨rfl, b1⟩
    go_wp2_with fail
    refine (classes_any _ _ _ ns _ HN1.out (hr1.below b1) hz (by omega)).mono ?_
    rintro e w2 ⟨v, rfl, hown, b2⟩
    have hb12 := b1.trans (b2.mono b1.size)
    obtain ⟨A, c, rfl, _, _⟩ := hown.open_
    rw [HL1.out]
    have hown' : OwnC w2 w1.heap.size (.slice A n0 c) ((( classesF ns).take 0).map shortF ++ (classesF ns).drop 0) := by simpa [HL1.out] using hown
    have hs12 := b1.size
    clear hown hr1 b1 b2
    go_wp2_with fail
    go_loopg [6] (n0 + 1) (fun m i wr => ∃ k : Nat, k ≤ n0 ∧ m = n0 - k + 1 ∧ i = .int .i64 k ∧ OwnC wr w1.heap.size (.slice A n0 c) (((classesF ns).take k).map shortF ++ (classesF ns).drop k) ∧ Below w.heap.size w wr)
    case atStart => exact ⟨0, Nat.zero_le _, rfl, rfl, hown', hb12⟩
    case round =>
      obtain ⟨k, hk, hm, rfl, hown, hb⟩ := hrel
      have hr0' := hr0.below hb
      have Hm := Lib.hid hm
      clear hm hown'
      have hbs := hb.size
      by_cases hlt : k < n0
      · have hx : ∃ x, (classesF ns)[k]? = some x := ⟨_, List.getElem?_eq_getElem (by rw [HL1.out]; exact hlt)⟩
        obtain ⟨x, hx⟩ := hx
        have HX := Lib.hid hx
        have hat := short_at hx
        have hrd := hown.rd
        obtain ⟨g, hA⟩ : ∃ g, A = some ⟨g, 0, none⟩ := by
          rcases hown.2 with ⟨hv, h0⟩ | ⟨g, cap, cur, hv, _⟩
          · simp [HL1.out] at h0; omega
          · injection hv with hv; exact ⟨g, hv⟩
        subst hA
        have hc : wr.cell? ⟨g, k, none⟩ = some (.int .u8 x) := by
          obtain ⟨b, o, e0, _, hq⟩ := hrd.addr (by simp [HL1.out]; omega)
          injection e0 with e0
          injection e0 with e1 e2
          subst e1
          subst e2
          have := hq k x hat
          rwa [Nat.zero_add] at this
        have hLL : (((classesF ns).take k).map shortF ++ (classesF ns).drop k).length = n0 := by simp [HL1.out]; omega
        have hfr : wr.frozen? ⟨g, k, none⟩ = false := by
          have h1 := hown
          unfold OwnC OwnT at h1
          rw [hLL] at h1
          exact h1.frozenAt k
        have hgB : w1.heap.size ≤ g := hown.ge g rfl
        have st : OwnC (wr.setCell ⟨g, k, none⟩ (.int .u8 11)) w1.heap.size (.slice (some ⟨g, 0, none⟩) n0 c) ((((classesF ns).take k).map shortF ++ (classesF ns).drop k).set k 11) := by
          have h1 := hown
          unfold OwnC OwnT at h1 ⊢
          rw [List.length_set, hLL, List.map_set]
          rw [hLL] at h1
          exact (h1.stored k (.int .u8 11)).1
        have hset : w.heap.size ≤ g := by omega
        have HLL := Lib.hid hLL
        have HAT := Lib.hid hat
        clear hx hat hLL hrd
        by_cases h10 : x = 10
        · have H10 := Lib.hid h10
          have d1 : (x == 10) = true := by simp [h10]
          clear h10
          go_wp2_with fail
          go_roundg (n0 - k)
          case measure => have := Hm.out; omega
          case rel => exact ⟨k + 1, by omega, by omega, by go_num, by rw [← short_set HX.out, show shortF x = 11 from if_pos H10.out]; exact st, hb.setCell hset _⟩
        · have H10 := Lib.hid h10
          have d1 : (x == 10) = false := beq_eq_false_iff_ne.2 h10
          clear h10 st
          go_wp2_with fail
          go_roundg (n0 - k)
          case measure => have := Hm.out; omega
          case rel => exact ⟨k + 1, by omega, by omega, by go_num, by rw [short_keep HX.out H10.out]; exact hown, hb⟩
      · have hkk : k = n0 := by omega
        have hall : ((classesF ns).take k).map shortF ++ (classesF ns).drop k = (classesF ns).map shortF := by
          rw [List.take_of_length_le (by rw [HL1.out]; omega), List.drop_of_length_le (by rw [HL1.out]; omega), List.append_nil]
        rw [hall] at hown
        have hrd := hown.rd
        clear hall
        go_wp2_with fail
        refine (split_any _ _ _ rs _ _ _ ((classesF ns).map shortF) _ HN0.out (by rw [List.length_map]; exact HL1.out) hr0' hrd (by omega) (by omega)).mono ?_
        rintro e w3 ⟨v, rfl, hownp, b3⟩
        rw [HSP.out, HM.out] at hownp
        have hb3 := hb.trans (b3.mono hbs)
        by_cases hzero : n0 = 0
        · have HZ := Lib.hid hzero
          rw [if_neg (by omega)] at hownp
          obtain ⟨A2, c2, rfl, _, _⟩ := hownp.open_
          have d0 : ((n0 : Int) == 0) = true := by simp [hzero]
          clear hzero
          go_wp2_with fail
          go_ret
          exact ⟨by simp, hb3⟩
        · rw [if_pos (by omega)] at hownp
          obtain ⟨A2, c2, rfl, _, r2⟩ := hownp.open_
          obtain ⟨g2, rfl, _, x0, x1, x2⟩ := r2 0 _ rfl
          simp only [Nat.zero_mul, Nat.zero_add] at x0 x1 x2
          have d0 : ((n0 : Int) == 0) = false := by simp; omega
          have d2 : decide ((0 : Int) < (n0 : Int)) = true := decide_eq_true (by omega)
          clear r2 hownp
          go_wp2_with fail
          go_ret
          exact ⟨by simp, hb3⟩
  · skip
    have HM : Hid (min n0 n1 = n1) := Lib.hid (by omega)
    go_enter Try.func8, Try.ntmps8
    go_wp2_with fail
    refine (awake08_any _).mono ?_
    rintro e w1 ⟨rfl, b1⟩
    go_wp2_with fail
    refine (classes_any _ _ _ ns _ HN1.out (hr1.below b1) hz (by omega)).mono ?_
    rintro e w2 ⟨v, rfl, hown, b2⟩
    have hb12 := b1.trans (b2.mono b1.size)
    obtain ⟨A, c, rfl, _, _⟩ := hown.open_
    rw [HL1.out]
    have hown' : OwnC w2 w1.heap.size (.slice A n1 c) ((( classesF ns).take 0).map shortF ++ (classesF ns).drop 0) := by simpa [HL1.out] using hown
    have hs12 := b1.size
    clear hown hr1 b1 b2
    go_wp2_with fail
    go_loopg [6] (n1 + 1) (fun m i wr => ∃ k : Nat, k ≤ n1 ∧ m = n1 - k + 1 ∧ i = .int .i64 k ∧ OwnC wr w1.heap.size (.slice A n1 c) (((classesF ns).take k).map shortF ++ (classesF ns).drop k) ∧ Below w.heap.size w wr)
    case atStart => exact ⟨0, Nat.zero_le _, rfl, rfl, hown', hb12⟩
    case round =>
      obtain ⟨k, hk, hm, rfl, hown, hb⟩ := hrel
      have hr0' := hr0.below hb
      have Hm := Lib.hid hm
      clear hm hown'
      have hbs := hb.size
      by_cases hlt : k < n1
      · have hx : ∃ x, (classesF ns)[k]? = some x := ⟨_, List.getElem?_eq_getElem (by rw [HL1.out]; exact hlt)⟩
        obtain ⟨x, hx⟩ := hx
        have HX := Lib.hid hx
        have hat := short_at hx
        have hrd := hown.rd
        obtain ⟨g, hA⟩ : ∃ g, A = some ⟨g, 0, none⟩ := by
          rcases hown.2 with ⟨hv, h0⟩ | ⟨g, cap, cur, hv, _⟩
          · simp [HL1.out] at h0; omega
          · injection hv with hv; exact ⟨g, hv⟩
        subst hA
        have hc : wr.cell? ⟨g, k, none⟩ = some (.int .u8 x) := by
          obtain ⟨b, o, e0, _, hq⟩ := hrd.addr (by simp [HL1.out]; omega)
          injection e0 with e0
          injection e0 with e1 e2
          subst e1
          subst e2
          have := hq k x hat
          rwa [Nat.zero_add] at this
        have hLL : (((classesF ns).take k).map shortF ++ (classesF ns).drop k).length = n1 := by simp [HL1.out]; omega
        have hfr : wr.frozen? ⟨g, k, none⟩ = false := by
          have h1 := hown
          unfold OwnC OwnT at h1
          rw [hLL] at h1
          exact h1.frozenAt k
        have hgB : w1.heap.size ≤ g := hown.ge g rfl
        have st : OwnC (wr.setCell ⟨g, k, none⟩ (.int .u8 11)) w1.heap.size (.slice (some ⟨g, 0, none⟩) n1 c) ((((classesF ns).take k).map shortF ++ (classesF ns).drop k).set k 11) := by
          have h1 := hown
          unfold OwnC OwnT at h1 ⊢
          rw [List.length_set, hLL, List.map_set]
          rw [hLL] at h1
          exact (h1.stored k (.int .u8 11)).1
        have hset : w.heap.size ≤ g := by omega
        have HLL := Lib.hid hLL
        have HAT := Lib.hid hat
        clear hx hat hLL hrd
        by_cases h10 : x = 10
        · have H10 := Lib.hid h10
          have d1 : (x == 10) = true := by simp [h10]
          clear h10
          go_wp2_with fail
          go_roundg (n1 - k)
          case measure => have := Hm.out; omega
          case rel => exact ⟨k + 1, by omega, by omega, by go_num, by rw [← short_set HX.out, show shortF x = 11 from if_pos H10.out]; exact st, hb.setCell hset _⟩
        · have H10 := Lib.hid h10
          have d1 : (x == 10) = false := beq_eq_false_iff_ne.2 h10
          clear h10 st
          go_wp2_with fail
          go_roundg (n1 - k)
          case measure => have := Hm.out; omega
          case rel => exact ⟨k + 1, by omega, by omega, by go_num, by rw [short_keep HX.out H10.out]; exact hown, hb⟩
      · have hkk : k = n1 := by omega
        have hall : ((classesF ns).take k).map shortF ++ (classesF ns).drop k = (classesF ns).map shortF := by
          rw [List.take_of_length_le (by rw [HL1.out]; omega), List.drop_of_length_le (by rw [HL1.out]; omega), List.append_nil]
        rw [hall] at hown
        have hrd := hown.rd
        clear hall
        go_wp2_with fail
        refine (split_any _ _ _ rs _ _ _ ((classesF ns).map shortF) _ HN0.out (by rw [List.length_map]; exact HL1.out) hr0' hrd (by omega) (by omega)).mono ?_
        rintro e w3 ⟨v, rfl, hownp, b3⟩
        rw [HSP.out, HM.out] at hownp
        have hb3 := hb.trans (b3.mono hbs)
        by_cases hzero : n1 = 0
        · have HZ := Lib.hid hzero
          rw [if_neg (by omega)] at hownp
          obtain ⟨A2, c2, rfl, _, _⟩ := hownp.open_
          have d0 : ((n1 : Int) == 0) = true := by simp [hzero]
          clear hzero
          go_wp2_with fail
          go_ret
          exact ⟨by simp, hb3⟩
        · rw [if_pos (by omega)] at hownp
          obtain ⟨A2, c2, rfl, _, r2⟩ := hownp.open_
          obtain ⟨g2, rfl, _, x0, x1, x2⟩ := r2 0 _ rfl
          simp only [Nat.zero_mul, Nat.zero_add] at x0 x1 x2
          have d0 : ((n1 : Int) == 0) = false := by simp; omega
          have d2 : decide ((0 : Int) < (n1 : Int)) = true := decide_eq_true (by omega)
          clear r2 hownp
          go_wp2_with fail
          go_ret
          exact ⟨by simp, hb3⟩
end Go.Proofs.Ytkdgkjodllgalaa
