/-
  ParaSplits: the walk.
-/
import Derived.Test.YtkdgkjodllgalaaSplitsPlain
namespace Go.Proofs.Ytkdgkjodllgalaa
open Go.RowKit

theorem zip_rN {rs cs : List Int} {i : Nat} (h : i < (rs.zip cs).length) : rs[i]? = some (rN (rs.zip cs) i) ∧ cs[i]? = some (cN (rs.zip cs) i) := by
  have hl : i < rs.length ∧ i < cs.length := by simp at h; omega
  unfold rN cN
  simp [List.getD_eq_getElem?_getD, List.getElem?_eq_getElem hl.1, List.getElem?_eq_getElem hl.2, List.getElem?_eq_getElem h]
/-- what stands in the paragraphs still to come -/
theorem chain_drop {z : List (Int × Int)} {a k : Nat} {ps : List Par} {p : Par} (h : Chain z a (ps.drop k)) (hp : ps[k]? = some p) :
    ∃ b part : Nat, p = ((a : Int), (b : Int), (part : Int)) ∧ ParOk z a b part ∧ Chain z b (ps.drop (k + 1)) := by
  have hlt := (List.getElem?_eq_some_iff.1 hp).1
  have hx := (List.getElem?_eq_some_iff.1 hp).2
  rw [List.drop_eq_getElem_cons hlt, hx] at h
  exact h
theorem splits_len (z : List (Int × Int)) : ∀ (ps : List Par) (a : Nat), Chain z a ps → ps.length + a ≤ z.length
  | [], a, h => by have : a = z.length := h; simp; omega
  | p :: r, a, h => by
    obtain ⟨b, part, _, hok, hr⟩ := h
    have := splits_len z r b hr
    have := hok.lt
    simp; omega
set_option maxRecDepth 100000 in
set_option maxHeartbeats 4000000 in
theorem paraSplits_walk (A0 : Option Addr) (n0 c0 : Nat) (rs : List Int) (A1 : Option Addr) (n1 c1 : Nat) (ns : List Int) (w : World) (hn0 : rs.length = n0) (hn1 : ns.length = n1) (hr0 : RdI .i32 w A0 rs) (hr1 : RdI .u8 w A1 ns) (hz : Bytes ns) (hz0 : n0 ≤ 1048576) (hz1 : n1 ≤ 1048576) :
    Calls Try.prog 6 #[.slice A0 n0 c0, .slice A1 n1 c1] w fun e w' => e = .returned (.bool true) ∧ Below w.heap.size w w' := by
  have hl1 : (classesF ns).length = n1 := by simp [classesF, hn1]
  have HN0 := Lib.hid hn0
  have HN1 := Lib.hid hn1
  have HL1 := Lib.hid hl1
  have HZ : Hid ((rs.zip (classesF ns)).length = min n0 n1) := Lib.hid (by rw [List.length_zip, hn0, hl1])
  have HC := Lib.hid (chain_all (rs.zip (classesF ns)))
  have HS := Lib.hid (splits_len _ _ _ HC.out)
  clear hn0 hn1 hl1
  have hcase : n0 < n1 ∨ n0 = n1 ∨ n1 < n0 := by omega
  rcases hcase with hnn | hnn | hnn
  · skip
    have HM : Hid (min n0 n1 = n0) := Lib.hid (by omega)
    go_enter Try.func6, Try.ntmps6
    go_wp2_with fail
    refine (awake08_any _).mono ?_
    rintro e w1 ⟨rfl, b1⟩
    go_wp2_with fail
    refine (classes_any _ _ _ ns _ HN1.out (hr1.below b1) hz (by omega)).mono ?_
    rintro e w2 ⟨v, rfl, hown, b2⟩
    have hb2 := b1.trans (b2.mono b1.size)
    obtain ⟨A, c, rfl, _, rc2⟩ := hown.open_
    rw [HL1.out]
    have hr2 := hr0.below hb2
    clear hown hr0 hr1 b1 b2
    go_wp2_with fail
    refine (split_any _ _ _ rs _ _ _ (classesF ns) _ HN0.out HL1.out hr2 rc2 (by omega) (by omega)).mono ?_
    rintro e w3 ⟨v, rfl, hownp, b3⟩
    rw [HM.out] at HZ
    generalize hps : splitF (rs.zip (classesF ns)) 0 0 = ps at *
    clear hps
    obtain ⟨A3, c3, rfl, _, r3⟩ := hownp.open_
    obtain ⟨q, hq⟩ : ∃ q, ps.length = q := ⟨_, rfl⟩
    have hql := HS.out
    rw [hq, HZ.out] at hql
    rw [hq]
    have HQ := Lib.hid hq
    have hb3 := hb2.trans (b3.mono hb2.size)
    have hr3 := hr2.below b3
    have rc3 := rc2.below b3
    clear hq hownp hr2 rc2
    go_wp2_with fail
    go_loopg [7, 25] (q + 1) (fun m t i wr => ∃ j a : Nat, j ≤ q ∧ m = q - j + 1 ∧ t = .int .i64 a ∧ i = .int .i64 j ∧ Hid (Chain (rs.zip (classesF ns)) a (ps.drop j)) ∧ Below w3.heap.size w3 wr)
    case atStart => exact ⟨0, 0, Nat.zero_le _, rfl, rfl, rfl, Lib.hid HC.out, Below.refl _ _⟩
    case round =>
      obtain ⟨j, a, hj, hm, rfl, rfl, hch, hb⟩ := hrel
      have Hm := Lib.hid hm
      clear hm
      have hbs := hb.size
      by_cases hlt : j < q
      · have hp : ∃ p, ps[j]? = some p := ⟨_, List.getElem?_eq_getElem (by rw [HQ.out]; exact hlt)⟩
        obtain ⟨p, hp⟩ := hp
        obtain ⟨b6, e6, _, x0, x1, x2⟩ := (r3.below hb) j p hp
        obtain ⟨b, part, rfl, hok, hnext⟩ := chain_drop hch.out hp
        have HOK := Lib.hid hok
        have HNX := Lib.hid hnext
        subst e6
        simp only at x0 x1 x2
        have l1 := hok.lt
        have l2 := hok.le
        rw [HZ.out] at l2
        have l3 := hok.two
        have l4 := hok.long
        have hb' := hb.alloc hbs (.cells #[.int .i64 (a : Int), .int .i64 (b : Int), .int .i64 (part : Int)] 35)
        have hrA := hr3.below hb'
        have rcA := rc3.below hb'
        clear hp hok hnext r3
        go_wp2_with fail
        go_loop [10] (fun i => ∃ t : Nat, a ≤ t ∧ t ≤ b ∧ i = .int .i64 t) (fun i => b - (intOf i).toNat)
        case atStart => exact ⟨a, Nat.le_refl _, by omega, rfl⟩
        case round =>
          obtain ⟨t, ht1, ht2, rfl⟩ := hrel
          by_cases htb : t < b
          · obtain ⟨g1, g2⟩ := zip_rN (rs := rs) (cs := classesF ns) (i := t) (by rw [HZ.out]; omega)
            obtain ⟨b7, o7, e7, _, q7⟩ := rcA.addr (by rw [HL1.out]; omega)
            subst e7
            have f7 := q7 t _ g2
            have hin := HOK.out.inside t ht1
            have hone := HOK.out.one
            have hpair := HOK.out.pair
            have hkind : t < b - part ∧ cN (rs.zip (classesF ns)) t ≠ 10 ∨ ¬ t < b - part ∧ cN (rs.zip (classesF ns)) t = 10 ∨ part = 2 ∧ t = b - 1 := by
              by_cases h1 : t < b - part
              · exact .inl ⟨h1, hin h1⟩
              · have h2 : part = 1 ∨ part = 2 := by omega
                rcases h2 with h2 | h2
                · exact .inr (.inl ⟨h1, by rw [show t = b - 1 by omega]; exact (hone h2).1⟩)
                · by_cases h3 : t = b - 1
                  · exact .inr (.inr ⟨h2, h3⟩)
                  · exact .inr (.inl ⟨h1, by rw [show t = b - 2 by omega]; exact (hpair h2).1⟩)
            generalize cN (rs.zip (classesF ns)) t = ct at *
            clear q7 g1 g2 hin hone hpair hrA
            rcases hkind with ⟨k1, k2⟩ | ⟨k1, k2⟩ | ⟨k1, k2⟩
            · have d1 : decide ((t : Int) < (b : Int) - (part : Int)) = true := decide_eq_true (by omega)
              have d2 : (ct == 10) = false := beq_eq_false_iff_ne.2 k2
              clear k1 k2
              go_wp2_with fail
              go_round
              case rel => exact ⟨t + 1, by omega, by omega, by go_num⟩
              case measure => simp [intOf]; omega
            · have d1 : decide ((t : Int) < (b : Int) - (part : Int)) = false := decide_eq_false (by omega)
              have d2 : (ct == 10) = true := beq_iff_eq.2 k2
              clear k1 k2
              go_wp2_with fail
              go_round
              case rel => exact ⟨t + 1, by omega, by omega, by go_num⟩
              case measure => simp [intOf]; omega
            · have d1 : decide ((t : Int) < (b : Int) - (part : Int)) = false := decide_eq_false (by omega)
              have d3 : ((part : Int) == 2) = true := by simp [k1]
              have d4 : ((t : Int) == (b : Int) - 1) = true := beq_iff_eq.2 (by omega)
              clear k1 k2
              cases d2 : ct == 10
              · go_wp2_with fail
                go_round
                case rel => exact ⟨t + 1, by omega, by omega, by go_num⟩
                case measure => simp [intOf]; omega
              · go_wp2_with fail
                go_round
                case rel => exact ⟨t + 1, by omega, by omega, by go_num⟩
                case measure => simp [intOf]; omega
          · have htb' : t = b := by omega
            subst htb'
            have ht1 : 1 ≤ t := by omega
            obtain ⟨z1, _⟩ := zip_rN (rs := rs) (cs := classesF ns) (i := t - 1) (by rw [HZ.out]; omega)
            obtain ⟨b7, o7, e7, _, q7⟩ := hrA.addr (by rw [HN0.out]; omega)
            subst e7
            have f1 := q7 _ _ z1
            have hone := HOK.out.one
            have hpair := HOK.out.pair
            have hnone := HOK.out.none_
            rw [HZ.out] at hone hnone
            have hpart : part = 0 ∨ part = 1 ∨ part = 2 := by omega
            rcases hpart with rfl | rfl | rfl
            · have h0 := hnone rfl
              have d1 : ((t : Int) != (n0 : Int)) = false := by simp [h0]
              clear h0 hone hpair hnone q7 z1 rcA
              go_wp2_with fail
              go_roundg (q - j)
              case measure => have := Hm.out; omega
              case rel => exact ⟨j + 1, t, by omega, by omega, rfl, by go_num, Lib.hid HNX.out, hb'⟩
            · obtain ⟨_, h1⟩ := hone rfl
              rw [show ((1 : Nat) : Int) = 1 from rfl] at f1 q7
              clear hone hpair hnone rcA z1
              by_cases h13 : rN (rs.zip (classesF ns)) (t - 1) = 13
              · rw [h13] at f1
                by_cases htn : t < n0
                · obtain ⟨z2, _⟩ := zip_rN (rs := rs) (cs := classesF ns) (i := t) (by rw [HZ.out]; omega)
                  have f2 := q7 _ _ z2
                  have d2 : (rN (rs.zip (classesF ns)) t == 10) = false := beq_eq_false_iff_ne.2 (fun h => h1 ⟨h13, htn, h⟩)
                  clear h1 h13 q7 z2
                  generalize rN (rs.zip (classesF ns)) t = rt at *
                  go_wp2_with fail
                  go_roundg (q - j)
                  case measure => have := Hm.out; omega
                  case rel => exact ⟨j + 1, t, by omega, by omega, rfl, by go_num, Lib.hid HNX.out, hb'⟩
                · clear h1 h13 q7
                  go_wp2_with fail
                  go_roundg (q - j)
                  case measure => have := Hm.out; omega
                  case rel => exact ⟨j + 1, t, by omega, by omega, rfl, by go_num, Lib.hid HNX.out, hb'⟩
              · have d1 : (rN (rs.zip (classesF ns)) (t - 1) == 13) = false := beq_eq_false_iff_ne.2 h13
                clear h1 h13 q7
                generalize rN (rs.zip (classesF ns)) (t - 1) = rt at *
                go_wp2_with fail
                go_roundg (q - j)
                case measure => have := Hm.out; omega
                case rel => exact ⟨j + 1, t, by omega, by omega, rfl, by go_num, Lib.hid HNX.out, hb'⟩
            · obtain ⟨_, h1, h2⟩ := hpair rfl
              have ht2' : 2 ≤ t := by omega
              rw [show ((2 : Nat) : Int) = 2 from rfl] at f1 q7
              obtain ⟨z2, _⟩ := zip_rN (rs := rs) (cs := classesF ns) (i := t - 2) (by rw [HZ.out]; omega)
              have f2 := q7 _ _ z2
              rw [h2] at f1
              rw [h1] at f2
              clear hone hpair hnone rcA z1 z2 q7 h1 h2
              go_wp2_with fail
              go_roundg (q - j)
              case measure => have := Hm.out; omega
              case rel => exact ⟨j + 1, t, by omega, by omega, rfl, by go_num, Lib.hid HNX.out, hb'⟩
      · have hjq : j = q := by omega
        have han : a = n0 := by
          have h := hch.out
          rw [List.drop_of_length_le (by rw [HQ.out]; omega)] at h
          exact h.trans HZ.out
        have dan : ((a : Int) == (n0 : Int)) = true := by simp [han]
        clear han hch r3
        go_wp2_with fail
        go_ret
        exact ⟨by simp, hb3.trans (hb.mono (by have := b3.size; have := hb2.size; omega))⟩
  · subst hnn
    have HM : Hid (min n0 n0 = n0) := Lib.hid (by omega)
    go_enter Try.func6, Try.ntmps6
    go_wp2_with fail
    refine (awake08_any _).mono ?_
    rintro e w1 ⟨rfl, b1⟩
    go_wp2_with fail
    refine (classes_any _ _ _ ns _ HN1.out (hr1.below b1) hz (by omega)).mono ?_
    rintro e w2 ⟨v, rfl, hown, b2⟩
    have hb2 := b1.trans (b2.mono b1.size)
    obtain ⟨A, c, rfl, _, rc2⟩ := hown.open_
    rw [HL1.out]
    have hr2 := hr0.below hb2
    clear hown hr0 hr1 b1 b2
    go_wp2_with fail
    refine (split_any _ _ _ rs _ _ _ (classesF ns) _ HN0.out HL1.out hr2 rc2 (by omega) (by omega)).mono ?_
    rintro e w3 ⟨v, rfl, hownp, b3⟩
    rw [HM.out] at HZ
    generalize hps : splitF (rs.zip (classesF ns)) 0 0 = ps at *
    clear hps
    obtain ⟨A3, c3, rfl, _, r3⟩ := hownp.open_
    obtain ⟨q, hq⟩ : ∃ q, ps.length = q := ⟨_, rfl⟩
    have hql := HS.out
    rw [hq, HZ.out] at hql
    rw [hq]
    have HQ := Lib.hid hq
    have hb3 := hb2.trans (b3.mono hb2.size)
    have hr3 := hr2.below b3
    have rc3 := rc2.below b3
    clear hq hownp hr2 rc2
    go_wp2_with fail
    go_loopg [7, 25] (q + 1) (fun m t i wr => ∃ j a : Nat, j ≤ q ∧ m = q - j + 1 ∧ t = .int .i64 a ∧ i = .int .i64 j ∧ Hid (Chain (rs.zip (classesF ns)) a (ps.drop j)) ∧ Below w3.heap.size w3 wr)
    case atStart => exact ⟨0, 0, Nat.zero_le _, rfl, rfl, rfl, Lib.hid HC.out, Below.refl _ _⟩
    case round =>
      obtain ⟨j, a, hj, hm, rfl, rfl, hch, hb⟩ := hrel
      have Hm := Lib.hid hm
      clear hm
      have hbs := hb.size
      by_cases hlt : j < q
      · have hp : ∃ p, ps[j]? = some p := ⟨_, List.getElem?_eq_getElem (by rw [HQ.out]; exact hlt)⟩
        obtain ⟨p, hp⟩ := hp
        obtain ⟨b6, e6, _, x0, x1, x2⟩ := (r3.below hb) j p hp
        obtain ⟨b, part, rfl, hok, hnext⟩ := chain_drop hch.out hp
        have HOK := Lib.hid hok
        have HNX := Lib.hid hnext
        subst e6
        simp only at x0 x1 x2
        have l1 := hok.lt
        have l2 := hok.le
        rw [HZ.out] at l2
        have l3 := hok.two
        have l4 := hok.long
        have hb' := hb.alloc hbs (.cells #[.int .i64 (a : Int), .int .i64 (b : Int), .int .i64 (part : Int)] 35)
        have hrA := hr3.below hb'
        have rcA := rc3.below hb'
        clear hp hok hnext r3
        go_wp2_with fail
        go_loop [10] (fun i => ∃ t : Nat, a ≤ t ∧ t ≤ b ∧ i = .int .i64 t) (fun i => b - (intOf i).toNat)
        case atStart => exact ⟨a, Nat.le_refl _, by omega, rfl⟩
        case round =>
          obtain ⟨t, ht1, ht2, rfl⟩ := hrel
          by_cases htb : t < b
          · obtain ⟨g1, g2⟩ := zip_rN (rs := rs) (cs := classesF ns) (i := t) (by rw [HZ.out]; omega)
            obtain ⟨b7, o7, e7, _, q7⟩ := rcA.addr (by rw [HL1.out]; omega)
            subst e7
            have f7 := q7 t _ g2
            have hin := HOK.out.inside t ht1
            have hone := HOK.out.one
            have hpair := HOK.out.pair
            have hkind : t < b - part ∧ cN (rs.zip (classesF ns)) t ≠ 10 ∨ ¬ t < b - part ∧ cN (rs.zip (classesF ns)) t = 10 ∨ part = 2 ∧ t = b - 1 := by
              by_cases h1 : t < b - part
              · exact .inl ⟨h1, hin h1⟩
              · have h2 : part = 1 ∨ part = 2 := by omega
                rcases h2 with h2 | h2
                · exact .inr (.inl ⟨h1, by rw [show t = b - 1 by omega]; exact (hone h2).1⟩)
                · by_cases h3 : t = b - 1
                  · exact .inr (.inr ⟨h2, h3⟩)
                  · exact .inr (.inl ⟨h1, by rw [show t = b - 2 by omega]; exact (hpair h2).1⟩)
            generalize cN (rs.zip (classesF ns)) t = ct at *
            clear q7 g1 g2 hin hone hpair hrA
            rcases hkind with ⟨k1, k2⟩ | ⟨k1, k2⟩ | ⟨k1, k2⟩
            · have d1 : decide ((t : Int) < (b : Int) - (part : Int)) = true := decide_eq_true (by omega)
              have d2 : (ct == 10) = false := beq_eq_false_iff_ne.2 k2
              clear k1 k2
              go_wp2_with fail
              go_round
              case rel => exact ⟨t + 1, by omega, by omega, by go_num⟩
              case measure => simp [intOf]; omega
            · have d1 : decide ((t : Int) < (b : Int) - (part : Int)) = false := decide_eq_false (by omega)
              have d2 : (ct == 10) = true := beq_iff_eq.2 k2
              clear k1 k2
              go_wp2_with fail
              go_round
              case rel => exact ⟨t + 1, by omega, by omega, by go_num⟩
              case measure => simp [intOf]; omega
            · have d1 : decide ((t : Int) < (b : Int) - (part : Int)) = false := decide_eq_false (by omega)
              have d3 : ((part : Int) == 2) = true := by simp [k1]
              have d4 : ((t : Int) == (b : Int) - 1) = true := beq_iff_eq.2 (by omega)
              clear k1 k2
              cases d2 : ct == 10
              · go_wp2_with fail
                go_round
                case rel => exact ⟨t + 1, by omega, by omega, by go_num⟩
                case measure => simp [intOf]; omega
              · go_wp2_with fail
                go_round
                case rel => exact ⟨t + 1, by omega, by omega, by go_num⟩
                case measure => simp [intOf]; omega
          · have htb' : t = b := by omega
            subst htb'
            have ht1 : 1 ≤ t := by omega
            obtain ⟨z1, _⟩ := zip_rN (rs := rs) (cs := classesF ns) (i := t - 1) (by rw [HZ.out]; omega)
            obtain ⟨b7, o7, e7, _, q7⟩ := hrA.addr (by rw [HN0.out]; omega)
            subst e7
            have f1 := q7 _ _ z1
            have hone := HOK.out.one
            have hpair := HOK.out.pair
            have hnone := HOK.out.none_
            rw [HZ.out] at hone hnone
            have hpart : part = 0 ∨ part = 1 ∨ part = 2 := by omega
            rcases hpart with rfl | rfl | rfl
            · have h0 := hnone rfl
              have d1 : ((t : Int) != (n0 : Int)) = false := by simp [h0]
              clear h0 hone hpair hnone q7 z1 rcA
              go_wp2_with fail
              go_roundg (q - j)
              case measure => have := Hm.out; omega
              case rel => exact ⟨j + 1, t, by omega, by omega, rfl, by go_num, Lib.hid HNX.out, hb'⟩
            · obtain ⟨_, h1⟩ := hone rfl
              rw [show ((1 : Nat) : Int) = 1 from rfl] at f1 q7
              clear hone hpair hnone rcA z1
              by_cases h13 : rN (rs.zip (classesF ns)) (t - 1) = 13
              · rw [h13] at f1
                by_cases htn : t < n0
                · obtain ⟨z2, _⟩ := zip_rN (rs := rs) (cs := classesF ns) (i := t) (by rw [HZ.out]; omega)
                  have f2 := q7 _ _ z2
                  have d2 : (rN (rs.zip (classesF ns)) t == 10) = false := beq_eq_false_iff_ne.2 (fun h => h1 ⟨h13, htn, h⟩)
                  clear h1 h13 q7 z2
                  generalize rN (rs.zip (classesF ns)) t = rt at *
                  go_wp2_with fail
                  go_roundg (q - j)
                  case measure => have := Hm.out; omega
                  case rel => exact ⟨j + 1, t, by omega, by omega, rfl, by go_num, Lib.hid HNX.out, hb'⟩
                · clear h1 h13 q7
                  go_wp2_with fail
                  go_roundg (q - j)
                  case measure => have := Hm.out; omega
                  case rel => exact ⟨j + 1, t, by omega, by omega, rfl, by go_num, Lib.hid HNX.out, hb'⟩
              · have d1 : (rN (rs.zip (classesF ns)) (t - 1) == 13) = false := beq_eq_false_iff_ne.2 h13
                clear h1 h13 q7
                generalize rN (rs.zip (classesF ns)) (t - 1) = rt at *
                go_wp2_with fail
                go_roundg (q - j)
                case measure => have := Hm.out; omega
                case rel => exact ⟨j + 1, t, by omega, by omega, rfl, by go_num, Lib.hid HNX.out, hb'⟩
            · obtain ⟨_, h1, h2⟩ := hpair rfl
              have ht2' : 2 ≤ t := by omega
              rw [show ((2 : Nat) : Int) = 2 from rfl] at f1 q7
              obtain ⟨z2, _⟩ := zip_rN (rs := rs) (cs := classesF ns) (i := t - 2) (by rw [HZ.out]; omega)
              have f2 := q7 _ _ z2
              rw [h2] at f1
              rw [h1] at f2
              clear hone hpair hnone rcA z1 z2 q7 h1 h2
              go_wp2_with fail
              go_roundg (q - j)
              case measure => have := Hm.out; omega
              case rel => exact ⟨j + 1, t, by omega, by omega, rfl, by go_num, Lib.hid HNX.out, hb'⟩
      · have hjq : j = q := by omega
        have han : a = n0 := by
          have h := hch.out
          rw [List.drop_of_length_le (by rw [HQ.out]; omega)] at h
          exact h.trans HZ.out
        have dan : ((a : Int) == (n0 : Int)) = true := by simp [han]
        clear han hch r3
        go_wp2_with fail
        go_ret
        exact ⟨by simp, hb3.trans (hb.mono (by have := b3.size; have := hb2.size; omega))⟩
  · skip
    have HM : Hid (min n0 n1 = n1) := Lib.hid (by omega)
    go_enter Try.func6, Try.ntmps6
    go_wp2_with fail
    refine (awake08_any _).mono ?_
    rintro e w1 ⟨rfl, b1⟩
    go_wp2_with fail
    refine (classes_any _ _ _ ns _ HN1.out (hr1.below b1) hz (by omega)).mono ?_
    rintro e w2 ⟨v, rfl, hown, b2⟩
    have hb2 := b1.trans (b2.mono b1.size)
    obtain ⟨A, c, rfl, _, rc2⟩ := hown.open_
    rw [HL1.out]
    have hr2 := hr0.below hb2
    clear hown hr0 hr1 b1 b2
    go_wp2_with fail
    refine (split_any _ _ _ rs _ _ _ (classesF ns) _ HN0.out HL1.out hr2 rc2 (by omega) (by omega)).mono ?_
    rintro e w3 ⟨v, rfl, hownp, b3⟩
    rw [HM.out] at HZ
    generalize hps : splitF (rs.zip (classesF ns)) 0 0 = ps at *
    clear hps
    obtain ⟨A3, c3, rfl, _, r3⟩ := hownp.open_
    obtain ⟨q, hq⟩ : ∃ q, ps.length = q := ⟨_, rfl⟩
    have hql := HS.out
    rw [hq, HZ.out] at hql
    rw [hq]
    have HQ := Lib.hid hq
    have hb3 := hb2.trans (b3.mono hb2.size)
    have hr3 := hr2.below b3
    have rc3 := rc2.below b3
    clear hq hownp hr2 rc2
    go_wp2_with fail
    go_loopg [7, 25] (q + 1) (fun m t i wr => ∃ j a : Nat, j ≤ q ∧ m = q - j + 1 ∧ t = .int .i64 a ∧ i = .int .i64 j ∧ Hid (Chain (rs.zip (classesF ns)) a (ps.drop j)) ∧ Below w3.heap.size w3 wr)
    case atStart => exact ⟨0, 0, Nat.zero_le _, rfl, rfl, rfl, Lib.hid HC.out, Below.refl _ _⟩
    case round =>
      obtain ⟨j, a, hj, hm, rfl, rfl, hch, hb⟩ := hrel
      have Hm := Lib.hid hm
      clear hm
      have hbs := hb.size
      by_cases hlt : j < q
      · have hp : ∃ p, ps[j]? = some p := ⟨_, List.getElem?_eq_getElem (by rw [HQ.out]; exact hlt)⟩
        obtain ⟨p, hp⟩ := hp
        obtain ⟨b6, e6, _, x0, x1, x2⟩ := (r3.below hb) j p hp
        obtain ⟨b, part, rfl, hok, hnext⟩ := chain_drop hch.out hp
        have HOK := Lib.hid hok
        have HNX := Lib.hid hnext
        subst e6
        simp only at x0 x1 x2
        have l1 := hok.lt
        have l2 := hok.le
        rw [HZ.out] at l2
        have l3 := hok.two
        have l4 := hok.long
        have hb' := hb.alloc hbs (.cells #[.int .i64 (a : Int), .int .i64 (b : Int), .int .i64 (part : Int)] 35)
        have hrA := hr3.below hb'
        have rcA := rc3.below hb'
        clear hp hok hnext r3
        go_wp2_with fail
        go_loop [10] (fun i => ∃ t : Nat, a ≤ t ∧ t ≤ b ∧ i = .int .i64 t) (fun i => b - (intOf i).toNat)
        case atStart => exact ⟨a, Nat.le_refl _, by omega, rfl⟩
        case round =>
          obtain ⟨t, ht1, ht2, rfl⟩ := hrel
          by_cases htb : t < b
          · obtain ⟨g1, g2⟩ := zip_rN (rs := rs) (cs := classesF ns) (i := t) (by rw [HZ.out]; omega)
            obtain ⟨b7, o7, e7, _, q7⟩ := rcA.addr (by rw [HL1.out]; omega)
            subst e7
            have f7 := q7 t _ g2
            have hin := HOK.out.inside t ht1
            have hone := HOK.out.one
            have hpair := HOK.out.pair
            have hkind : t < b - part ∧ cN (rs.zip (classesF ns)) t ≠ 10 ∨ ¬ t < b - part ∧ cN (rs.zip (classesF ns)) t = 10 ∨ part = 2 ∧ t = b - 1 := by
              by_cases h1 : t < b - part
              · exact .inl ⟨h1, hin h1⟩
              · have h2 : part = 1 ∨ part = 2 := by omega
                rcases h2 with h2 | h2
                · exact .inr (.inl ⟨h1, by rw [show t = b - 1 by omega]; exact (hone h2).1⟩)
                · by_cases h3 : t = b - 1
                  · exact .inr (.inr ⟨h2, h3⟩)
                  · exact .inr (.inl ⟨h1, by rw [show t = b - 2 by omega]; exact (hpair h2).1⟩)
            generalize cN (rs.zip (classesF ns)) t = ct at *
            clear q7 g1 g2 hin hone hpair hrA
            rcases hkind with ⟨k1, k2⟩ | ⟨k1, k2⟩ | ⟨k1, k2⟩
            · have d1 : decide ((t : Int) < (b : Int) - (part : Int)) = true := decide_eq_true (by omega)
              have d2 : (ct == 10) = false := beq_eq_false_iff_ne.2 k2
              clear k1 k2
              go_wp2_with fail
              go_round
              case rel => exact ⟨t + 1, by omega, by omega, by go_num⟩
              case measure => simp [intOf]; omega
            · have d1 : decide ((t : Int) < (b : Int) - (part : Int)) = false := decide_eq_false (by omega)
              have d2 : (ct == 10) = true := beq_iff_eq.2 k2
              clear k1 k2
              go_wp2_with fail
              go_round
              case rel => exact ⟨t + 1, by omega, by omega, by go_num⟩
              case measure => simp [intOf]; omega
            · have d1 : decide ((t : Int) < (b : Int) - (part : Int)) = false := decide_eq_false (by omega)
              have d3 : ((part : Int) == 2) = true := by simp [k1]
              have d4 : ((t : Int) == (b : Int) - 1) = true := beq_iff_eq.2 (by omega)
              clear k1 k2
              cases d2 : ct == 10
              · go_wp2_with fail
                go_round
                case rel => exact ⟨t + 1, by omega, by omega, by go_num⟩
                case measure => simp [intOf]; omega
              · go_wp2_with fail
                go_round
                case rel => exact ⟨t + 1, by omega, by omega, by go_num⟩
                case measure => simp [intOf]; omega
          · have htb' : t = b := by omega
            subst htb'
            have ht1 : 1 ≤ t := by omega
            obtain ⟨z1, _⟩ := zip_rN (rs := rs) (cs := classesF ns) (i := t - 1) (by rw [HZ.out]; omega)
            obtain ⟨b7, o7, e7, _, q7⟩ := hrA.addr (by rw [HN0.out]; omega)
            subst e7
            have f1 := q7 _ _ z1
            have hone := HOK.out.one
            have hpair := HOK.out.pair
            have hnone := HOK.out.none_
            rw [HZ.out] at hone hnone
            have hpart : part = 0 ∨ part = 1 ∨ part = 2 := by omega
            rcases hpart with rfl | rfl | rfl
            · have h0 := hnone rfl
              have d1 : ((t : Int) != (n1 : Int)) = false := by simp [h0]
              clear h0 hone hpair hnone q7 z1 rcA
              go_wp2_with fail
              go_roundg (q - j)
              case measure => have := Hm.out; omega
              case rel => exact ⟨j + 1, t, by omega, by omega, rfl, by go_num, Lib.hid HNX.out, hb'⟩
            · obtain ⟨_, h1⟩ := hone rfl
              rw [show ((1 : Nat) : Int) = 1 from rfl] at f1 q7
              clear hone hpair hnone rcA z1
              by_cases h13 : rN (rs.zip (classesF ns)) (t - 1) = 13
              · rw [h13] at f1
                by_cases htn : t < n1
                · obtain ⟨z2, _⟩ := zip_rN (rs := rs) (cs := classesF ns) (i := t) (by rw [HZ.out]; omega)
                  have f2 := q7 _ _ z2
                  have d2 : (rN (rs.zip (classesF ns)) t == 10) = false := beq_eq_false_iff_ne.2 (fun h => h1 ⟨h13, htn, h⟩)
                  clear h1 h13 q7 z2
                  generalize rN (rs.zip (classesF ns)) t = rt at *
                  go_wp2_with fail
                  go_roundg (q - j)
                  case measure => have := Hm.out; omega
                  case rel => exact ⟨j + 1, t, by omega, by omega, rfl, by go_num, Lib.hid HNX.out, hb'⟩
                · clear h1 h13 q7
                  go_wp2_with fail
                  go_roundg (q - j)
                  case measure => have := Hm.out; omega
                  case rel => exact ⟨j + 1, t, by omega, by omega, rfl, by go_num, Lib.hid HNX.out, hb'⟩
              · have d1 : (rN (rs.zip (classesF ns)) (t - 1) == 13) = false := beq_eq_false_iff_ne.2 h13
                clear h1 h13 q7
                generalize rN (rs.zip (classesF ns)) (t - 1) = rt at *
                go_wp2_with fail
                go_roundg (q - j)
                case measure => have := Hm.out; omega
                case rel => exact ⟨j + 1, t, by omega, by omega, rfl, by go_num, Lib.hid HNX.out, hb'⟩
            · obtain ⟨_, h1, h2⟩ := hpair rfl
              have ht2' : 2 ≤ t := by omega
              rw [show ((2 : Nat) : Int) = 2 from rfl] at f1 q7
              obtain ⟨z2, _⟩ := zip_rN (rs := rs) (cs := classesF ns) (i := t - 2) (by rw [HZ.out]; omega)
              have f2 := q7 _ _ z2
              rw [h2] at f1
              rw [h1] at f2
              clear hone hpair hnone rcA z1 z2 q7 h1 h2
              go_wp2_with fail
              go_roundg (q - j)
              case measure => have := Hm.out; omega
              case rel => exact ⟨j + 1, t, by omega, by omega, rfl, by go_num, Lib.hid HNX.out, hb'⟩
      · have hjq : j = q := by omega
        have han : a = n1 := by
          have h := hch.out
          rw [List.drop_of_length_le (by rw [HQ.out]; omega)] at h
          exact h.trans HZ.out
        have dan : ((a : Int) == (n1 : Int)) = true := by simp [han]
        clear han hch r3
        go_wp2_with fail
        go_ret
        exact ⟨by simp, hb3.trans (hb.mono (by have := b3.size; have := hb2.size; omega))⟩
end Go.Proofs.Ytkdgkjodllgalaa
