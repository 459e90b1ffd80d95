/-
  ParaCount: the walk.
-/
import Derived.Test.YtkdgkjodllgalaaCountPlain
namespace Go.Proofs.Ytkdgkjodllgalaa
open Go.RowKit

theorem own_ne {w : World} {B B' : Nat} {e e' : TypeId} {sz sz' n n' : Nat} {v v' : Value} {xs xs' : List Value} (h : w.ownsRow B e sz v n xs) (h' : w.ownsRow B' e' sz' v' n' xs') (hne : e ≠ e') {g : Nat} (hg : v.ownBlock = some g) : v'.ownBlock ≠ some g := by
  intro hg'
  rcases h.2 with ⟨rfl, _⟩ | ⟨g1, _, _, rfl, _, h1, _⟩
  · simp [Value.ownBlock] at hg
  · rcases h'.2 with ⟨rfl, _⟩ | ⟨g2, _, _, rfl, _, h2, _⟩
    · simp [Value.ownBlock] at hg'
    · simp [Value.ownBlock] at hg hg'
      subst hg
      subst hg'
      rw [h1] at h2
      injection h2 with h2
      injection h2 with _ h2
      exact hne h2
theorem own_kept_ne {w w' : World} {B B' : Nat} {e e' : TypeId} {sz sz' n n' : Nat} {v v' : Value} {xs xs' : List Value} (h : w.ownsRow B e sz v n xs) (h' : w.ownsRow B' e' sz' v' n' xs') (hne : e ≠ e') (hg : w.grownBy w' v'.ownBlock) : w'.ownsRow B e sz v n xs := by
  refine h.kept hg ?_
  cases hv : v.ownBlock with
  | none => exact .inl rfl
  | some g => exact .inr (fun e1 => own_ne h h' hne hv e1.symm)

abbrev OwnR (w : World) (B : Nat) (v : Value) (zs : List Int) : Prop := OwnT 21 .i32 w B v zs
theorem info21 : (Try.prog.info? 21).map (fun i => (i.zero, i.size, i.bytes)) = some (some (.int .i32 0), 1, 4) := by kernel_rfl
theorem splitF_len : ∀ (m : Nat) (z : List (Int × Int)) (k f : Nat), z.length ≤ m → f ≤ k → (splitF z k f).length ≤ z.length + 1
  | _, [], k, f, _, _ => by rw [splitF_nil]; split <;> simp
  | 0, p :: t, k, f, h, _ => by simp at h
  | m + 1, (r, c) :: t, k, f, h, hf => by
    have ht : t.length ≤ m := by simpa using h
    by_cases hc : c = 10
    · subst hc
      by_cases hn : r = 13 ∧ (t.head?.map (·.1)) = some 10
      · match t, ht, hn with
        | [], _, hn => simp at hn
        | (r2, c2) :: t2, ht, hn =>
          have h3 : r2 = 10 := by simpa using hn.2
          have := splitF_len m t2 (k + 2) (k + 2) (by simp at ht; omega) (Nat.le_refl _)
          rw [hn.1, h3, splitF_two]
          simp; omega
      · have := splitF_len m t (k + 1) (k + 1) ht (Nat.le_refl _)
        rw [splitF_one hn]
        simp; omega
    · have := splitF_len m t (k + 1) f ht (by omega)
      rw [splitF_no hc hf]
      simp; omega

/-- the rune ahead of place k is a return -/
def behF (ns : List Int) (k : Nat) : Bool := match k with
  | 0 => false
  | j + 1 => runeF (ns.getD j 0) == 13
theorem behF_next {ns : List Int} {k : Nat} {x : Int} (h : ns[k]? = some x) : behF ns (k + 1) = (runeF x == 13) := by
  simp [behF, List.getD_eq_getElem?_getD, h]
theorem want_next {ns : List Int} {k : Nat} {x : Int} (h : ns[k]? = some x) : wantF (behF ns k) (ns.drop k) = (if classF x = 10 ∧ ¬ (runeF x = 10 ∧ behF ns k = true) then 1 else 0) + wantF (behF ns (k + 1)) (ns.drop (k + 1)) := by
  have hlt := (List.getElem?_eq_some_iff.1 h).1
  have hx : ns[k] = x := (List.getElem?_eq_some_iff.1 h).2
  rw [List.drop_eq_getElem_cons hlt, hx, behF_next h]
  conv => lhs; unfold wantF

/-- the first loop: what has been laid so far -/
def BothRel (ns : List Int) (B n : Nat) (W : World) (m : Nat) (v u i : Value) (wr : World) : Prop :=
  ∃ k : Nat, k ≤ n ∧ m = n - k + 1 ∧ i = .int .i64 k ∧ OwnR wr B v ((ns.take k).map runeF) ∧ OwnC wr B u ((ns.take k).map classF) ∧ Below B W wr

set_option maxHeartbeats 2000000 in
theorem paraCount_walk (A : Option Addr) (n c : Nat) (ns : List Int) (w : World) (hn : ns.length = n) (hr : RdI .u8 w A ns) (hz : Bytes ns) (hsz : n ≤ 1048576) :
    Calls Try.prog 9 #[.slice A n c] w fun e w' => e = .returned (.bool true) ∧ Below w.heap.size w w' := by
  have HN := Lib.hid hn
  clear hn
  go_enter Try.func9, Try.ntmps9
  go_wp2_with fail
  refine (awake08_any _).mono ?_
  rintro e w1 ⟨rfl, b1⟩
  have hs1 := b1.size
  go_wp2_with fail
  go_loopg [3, 4, 18] (n + 1) (fun m v u i wr => BothRel ns w.heap.size n w m v u i wr)
  case atStart => exact ⟨0, Nat.zero_le _, rfl, rfl, OwnT.nil _ _ _ _, OwnT.nil _ _ _ _, b1⟩
  case round =>
    obtain ⟨k, hk, hm, rfl, ho1, ho2, hb⟩ := hrel
    have Hm := Lib.hid hm
    clear hm
    have hbs := hb.size
    by_cases hlt : k < n
    · obtain ⟨b, o, x, rfl, hx, hc⟩ := (hr.below hb).at_ (k := k) (by rw [HN.out]; exact hlt)
      have hxb := u8_bd hz hx
      have hl1 : ((ns.take k).map runeF).length ≤ k := by simp; omega
      have hl2 : ((ns.take k).map classF).length ≤ k := by simp; omega
      have fin : ∀ {v1 u1 : Value} {v2 u2 : Value} {w2 w3 : World} {o1 o2 : Obj}, OwnR wr w.heap.size v1 ((ns.take k).map runeF) → OwnC wr w.heap.size u1 ((ns.take k).map classF) →
          OwnR w2 w.heap.size v2 ((ns.take k).map runeF ++ [runeF x]) → (wr.alloc o1).grownBy w2 v1.ownBlock →
          OwnC w3 w.heap.size u2 ((ns.take k).map classF ++ [classF x]) → (w2.alloc o2).grownBy w3 u1.ownBlock → BothRel ns w.heap.size n w (n - k) v2 u2 (.int .i64 ((k : Int) + 1)) w3 := by
        intro v1 u1 v2 u2 w2 w3 o1 o2 a1 a2 a3 a4 a5 a6
        have a7 : OwnC w2 w.heap.size u1 ((ns.take k).map classF) := own_kept_ne (World.ownsRow.alloc a2 o1) (World.ownsRow.alloc a1 o1) (by decide) a4
        have b2 := below_push hb hbs a1 a4
        refine ⟨k + 1, by omega, by omega, by go_num, ?_, ?_, below_push b2 b2.size a7 a6⟩
        · rw [map_take_snoc runeF hx.out]
          exact own_kept_ne (World.ownsRow.alloc a3 o2) (World.ownsRow.alloc a7 o2) (by decide) a6
        · rw [map_take_snoc classF hx.out]; exact a5
      have h3 : x % 3 = 1 ∨ x % 3 = 0 ∨ x % 3 = 2 := by omega
      rcases h3 with h3 | h3 | h3
      · have hr1 : runeF x = 97 := by unfold runeF; rw [if_pos h3]
        have hc1 : classF x = 0 := by unfold classF; rw [hr1]; rfl
        rw [hr1, hc1] at fin
        have d0 : (x % 3 == 0) = false := by simp [h3]
        have d1 : (x % 3 == 1) = true := by simp [h3]
        clear h3 hr1 hc1
        go_wp2_with (first
          | (at_builtin; refine wpList_push _ rfl _ _ 29 rfl w.heap.size 21 _ 4 Try.underlying29 info21 rfl _ _ _ rfl (ho1.alloc _) wr.heap.size (.int .i32 97) rfl ?c1 ?c2 ?c3 (by omega) ?c5 ?_))
        case c1 => simp
        case c2 => rfl
        case c3 => omega
        case c5 => simp; omega
        intro v' w2 hown' hgrow
        have H1 : OwnR w2 w.heap.size v' ((ns.take k).map runeF ++ [97]) := by unfold OwnR OwnT; simpa using hown'
        have b2 := below_push hb hbs ho1 hgrow
        have h7 : OwnC w2 w.heap.size _ ((ns.take k).map classF) := own_kept_ne (World.ownsRow.alloc ho2 _) (World.ownsRow.alloc ho1 _) (by decide) hgrow
        have hb2s := b2.size
        clear hown'
        go_wp2_with (first
          | (at_builtin; refine wpList_push _ rfl _ _ 28 rfl w.heap.size 25 _ 1 Try.underlying28 info25 rfl _ _ _ rfl (h7.alloc _) w2.heap.size (.int .u8 0) rfl ?c1 ?c2 ?c3 (by omega) ?c5 ?_))
        case c1 => simp
        case c2 => rfl
        case c3 => omega
        case c5 => simp; omega
        intro u' w3 hown' hgrow'
        have H2 : OwnC w3 w.heap.size u' ((ns.take k).map classF ++ [0]) := by unfold OwnC OwnT; simpa using hown'
        clear hown'
        go_wp2_with fail
        go_roundg (n - k)
        · exact fin ho1 ho2 H1 hgrow H2 hgrow'
        · have := Hm.out; omega
      · have hr1 : runeF x = 13 := by unfold runeF; rw [if_neg (by omega), if_pos h3]
        have hc1 : classF x = 10 := by unfold classF; rw [hr1]; rfl
        rw [hr1, hc1] at fin
        have d0 : (x % 3 == 0) = true := by simp [h3]
        have d1 : (x % 3 == 1) = false := by simp [h3]
        clear h3 hr1 hc1
        go_wp2_with (first
          | (at_builtin; refine wpList_push _ rfl _ _ 29 rfl w.heap.size 21 _ 4 Try.underlying29 info21 rfl _ _ _ rfl (ho1.alloc _) wr.heap.size (.int .i32 13) rfl ?c1 ?c2 ?c3 (by omega) ?c5 ?_))
        case c1 => simp
        case c2 => rfl
        case c3 => omega
        case c5 => simp; omega
        intro v' w2 hown' hgrow
        have H1 : OwnR w2 w.heap.size v' ((ns.take k).map runeF ++ [13]) := by unfold OwnR OwnT; simpa using hown'
        have b2 := below_push hb hbs ho1 hgrow
        have h7 : OwnC w2 w.heap.size _ ((ns.take k).map classF) := own_kept_ne (World.ownsRow.alloc ho2 _) (World.ownsRow.alloc ho1 _) (by decide) hgrow
        have hb2s := b2.size
        clear hown'
        go_wp2_with (first
          | (at_builtin; refine wpList_push _ rfl _ _ 28 rfl w.heap.size 25 _ 1 Try.underlying28 info25 rfl _ _ _ rfl (h7.alloc _) w2.heap.size (.int .u8 10) rfl ?c1 ?c2 ?c3 (by omega) ?c5 ?_))
        case c1 => simp
        case c2 => rfl
        case c3 => omega
        case c5 => simp; omega
        intro u' w3 hown' hgrow'
        have H2 : OwnC w3 w.heap.size u' ((ns.take k).map classF ++ [10]) := by unfold OwnC OwnT; simpa using hown'
        clear hown'
        go_wp2_with fail
        go_roundg (n - k)
        · exact fin ho1 ho2 H1 hgrow H2 hgrow'
        · have := Hm.out; omega
      · have hr1 : runeF x = 10 := by unfold runeF; rw [if_neg (by omega), if_neg (by omega)]
        have hc1 : classF x = 10 := by unfold classF; rw [hr1]; rfl
        rw [hr1, hc1] at fin
        have d0 : (x % 3 == 0) = false := by simp [h3]
        have d1 : (x % 3 == 1) = false := by simp [h3]
        clear h3 hr1 hc1
        go_wp2_with (first
          | (at_builtin; refine wpList_push _ rfl _ _ 29 rfl w.heap.size 21 _ 4 Try.underlying29 info21 rfl _ _ _ rfl (ho1.alloc _) wr.heap.size (.int .i32 10) rfl ?c1 ?c2 ?c3 (by omega) ?c5 ?_))
        case c1 => simp
        case c2 => rfl
        case c3 => omega
        case c5 => simp; omega
        intro v' w2 hown' hgrow
        have H1 : OwnR w2 w.heap.size v' ((ns.take k).map runeF ++ [10]) := by unfold OwnR OwnT; simpa using hown'
        have b2 := below_push hb hbs ho1 hgrow
        have h7 : OwnC w2 w.heap.size _ ((ns.take k).map classF) := own_kept_ne (World.ownsRow.alloc ho2 _) (World.ownsRow.alloc ho1 _) (by decide) hgrow
        have hb2s := b2.size
        clear hown'
        go_wp2_with (first
          | (at_builtin; refine wpList_push _ rfl _ _ 28 rfl w.heap.size 25 _ 1 Try.underlying28 info25 rfl _ _ _ rfl (h7.alloc _) w2.heap.size (.int .u8 10) rfl ?c1 ?c2 ?c3 (by omega) ?c5 ?_))
        case c1 => simp
        case c2 => rfl
        case c3 => omega
        case c5 => simp; omega
        intro u' w3 hown' hgrow'
        have H2 : OwnC w3 w.heap.size u' ((ns.take k).map classF ++ [10]) := by unfold OwnC OwnT; simpa using hown'
        clear hown'
        go_wp2_with fail
        go_roundg (n - k)
        · exact fin ho1 ho2 H1 hgrow H2 hgrow'
        · have := Hm.out; omega
    · have hkk : k = n := by omega
      subst hkk
      have e1 : ns.take k = ns := List.take_of_length_le (by rw [HN.out]; exact Nat.le_refl _)
      rw [e1] at ho1 ho2
      have hl1 : (ns.map runeF).length = k := by rw [List.length_map]; exact HN.out
      have hl2 : (ns.map classF).length = k := by rw [List.length_map]; exact HN.out
      obtain ⟨A1, c1, rfl, _, r1⟩ := ho1.open_
      obtain ⟨A2, c2, rfl, _, r2⟩ := ho2.open_
      rw [hl1, hl2]
      have HL1 := Lib.hid hl1
      have HL2 := Lib.hid hl2
      obtain ⟨wo, rfl⟩ : ∃ wo : World, wo = wr := ⟨_, rfl⟩
      clear e1 hl1 hl2 ho1 ho2 hr b1
      go_wp2_with fail
      go_loop [9, 41] (fun s i => ∃ (j : Nat) (a : Int), j ≤ k ∧ s = .int .i64 a ∧ i = .int .i64 j ∧ 0 ≤ a ∧ a ≤ j ∧ Hid (wantF false ns = a + wantF (behF ns j) (ns.drop j))) (fun _ i => k - (intOf i).toNat)
      case atStart => exact ⟨0, 0, Nat.zero_le _, rfl, rfl, Int.le_refl _, Int.le_refl _, Lib.hid (by simp [behF])⟩
      case round =>
        obtain ⟨j, a, hj, rfl, rfl, ha1, ha2, hw⟩ := hrel
        by_cases hlt : j < k
        · have hx : ∃ x, ns[j]? = some x := ⟨_, List.getElem?_eq_getElem (by rw [HN.out]; exact hlt)⟩
          obtain ⟨x, hx⟩ := hx
          obtain ⟨b3, o3, e3, _, q3⟩ := r1.addr (by rw [HL1.out]; omega)
          obtain ⟨b4, o4, e4, _, q4⟩ := r2.addr (by rw [HL2.out]; omega)
          subst e3
          subst e4
          have f3 := q3 j (runeF x) (by simp [hx])
          have f4 := q4 j (classF x) (by simp [hx])
          have hnx := Lib.hid (want_next hx)
          have HX := Lib.hid hx
          clear hx
          rcases rune_cases x with ⟨h1, h2⟩ | ⟨h1, h2⟩ | ⟨h1, h2⟩
          all_goals rw [h1] at f3
          all_goals rw [h2] at f4
          · have H := Lib.hid (And.intro h1 h2)
            clear h1 h2 q3 q4 r1 r2
            go_wp2_with fail
            go_round
            case rel => exact ⟨j + 1, a, by omega, rfl, by go_num, ha1, by omega, Lib.hid (by rw [hw.out, hnx.out, H.out.2]; simp)⟩
            case measure => simp [intOf]; omega
          · have H := Lib.hid (And.intro h1 h2)
            clear h1 h2
            by_cases hj0 : j = 0
            · have dj : decide ((0 : Int) < (j : Int)) = false := decide_eq_false (by omega)
              have dj' : decide (0 < j) = false := decide_eq_false (by omega)
              clear hj0 q3 q4 r1 r2
              go_wp2_with fail
              go_round
              case rel => exact ⟨j + 1, a + 1, by omega, by go_num, by go_num, by omega, by omega, Lib.hid (by rw [hw.out, hnx.out, H.out.2, H.out.1]; simp; omega)⟩
              case measure => simp [intOf]; omega
            · have dj : decide ((0 : Int) < (j : Int)) = true := decide_eq_true (by omega)
              have dj' : decide (0 < j) = true := decide_eq_true (by omega)
              clear hj0 q3 q4 r1 r2
              go_wp2_with fail
              go_round
              case rel => exact ⟨j + 1, a + 1, by omega, by go_num, by go_num, by omega, by omega, Lib.hid (by rw [hw.out, hnx.out, H.out.2, H.out.1]; simp; omega)⟩
              case measure => simp [intOf]; omega
          · have H := Lib.hid (And.intro h1 h2)
            clear h1 h2
            by_cases hj0 : j = 0
            · have dj : decide ((0 : Int) < (j : Int)) = false := decide_eq_false (by omega)
              have dj' : decide (0 < j) = false := decide_eq_false (by omega)
              have HB : Hid (behF ns j = false) := Lib.hid (by rw [hj0]; rfl)
              clear hj0 q3 q4 r1 r2
              go_wp2_with fail
              go_round
              case rel => exact ⟨j + 1, a + 1, by omega, by go_num, by go_num, by omega, by omega, Lib.hid (by rw [hw.out, hnx.out, H.out.2, H.out.1, HB.out]; simp; omega)⟩
              case measure => simp [intOf]; omega
            · have dj : decide ((0 : Int) < (j : Int)) = true := decide_eq_true (by omega)
              have dj' : decide (0 < j) = true := decide_eq_true (by omega)
              obtain ⟨p, hp⟩ : ∃ p, j = p + 1 := ⟨j - 1, by omega⟩
              have hy : ∃ y, ns[p]? = some y := ⟨_, List.getElem?_eq_getElem (by rw [HN.out]; omega)⟩
              obtain ⟨y, hy⟩ := hy
              have f5 := q3 p (runeF y) (by simp [hy])
              have HB : Hid (behF ns j = (runeF y == 13)) := Lib.hid (by rw [hp, behF_next hy])
              have hpi : (j : Int) - 1 = (p : Int) := by omega
              have HPI := Lib.hid hpi
              have hpj : p = j - 1 := by omega
              have hj1 : 1 ≤ j := by omega
              rw [hpj] at f5
              generalize runeF y = ry at *
              clear hj0 q3 q4 r1 r2 hp hpi hpj hy
              cases dy : ry == 13
              · go_wp2_with fail
                go_round
                case rel => exact ⟨j + 1, a + 1, by omega, by go_num, by go_num, by omega, by omega, Lib.hid (by rw [hw.out, hnx.out, H.out.2, H.out.1, HB.out, dy]; simp; omega)⟩
                case measure => simp [intOf]; omega
              · go_wp2_with fail
                go_round
                case rel => exact ⟨j + 1, a, by omega, rfl, by go_num, ha1, by omega, Lib.hid (by rw [hw.out, hnx.out, H.out.2, H.out.1, HB.out, dy]; simp)⟩
                case measure => simp [intOf]; omega
        · have hjj : j = k := by omega
          subst hjj
          have HW : Hid (wantF false ns = a) := Lib.hid (by rw [hw.out, List.drop_of_length_le (by rw [HN.out]; exact Nat.le_refl _)]; simp [wantF])
          clear hw
          go_wp2_with fail
          refine (split_any _ _ _ (ns.map runeF) _ _ _ (ns.map classF) _ HL1.out HL2.out r1 r2 (by omega) (by omega)).mono ?_
          rintro e w4 ⟨v, rfl, hownp, b4⟩
          have hgot := count_eq ns.length ns 0 0 (Nat.le_refl _) (Nat.le_refl _)
          have hlen := splitF_len _ ((ns.map runeF).zip (ns.map classF)) 0 0 (Nat.le_refl _) (Nat.le_refl _)
          rw [List.length_zip, HL1.out, HL2.out, Nat.min_self] at hlen
          rw [← zip_zipF, HW.out] at hgot
          generalize splitF ((ns.map runeF).zip (ns.map classF)) 0 0 = ps at *
          have HG := Lib.hid hgot
          obtain ⟨A3, c3, rfl, _, r3⟩ := hownp.open_
          obtain ⟨q, hq⟩ : ∃ q, ps.length = q := ⟨_, rfl⟩
          rw [hq]
          rw [hq] at hlen
          have HQ := Lib.hid hq
          have hb4 := hb.trans (b4.mono hbs)
          have hb4s := b4.size
          clear hgot hownp hq r1 r2
          go_wp2_with fail
          go_loopg [11, 76] (q + 1) (fun m s i wr => ∃ (j2 : Nat) (g : Int), j2 ≤ q ∧ m = q - j2 + 1 ∧ s = .int .i64 g ∧ i = .int .i64 j2 ∧ 0 ≤ g ∧ g ≤ j2 ∧ Hid (gotF (ps.take j2) = g) ∧ Below w4.heap.size w4 wr)
          case atStart => exact ⟨0, 0, Nat.zero_le _, rfl, rfl, rfl, Int.le_refl _, Int.le_refl _, Lib.hid rfl, Below.refl _ _⟩
          case round =>
            obtain ⟨j2, g, hj2, hm, rfl, rfl, hg1, hg2, hg, hb5⟩ := hrel
            have Hm := Lib.hid hm
            clear hm
            have hb5s := hb5.size
            by_cases hlt : j2 < q
            · have hp : ∃ p, ps[j2]? = some p := ⟨_, List.getElem?_eq_getElem (by rw [HQ.out]; exact hlt)⟩
              obtain ⟨p, hp⟩ := hp
              obtain ⟨b6, e6, _, x0, x1, x2⟩ := (r3.below hb5) j2 p hp
              subst e6
              have hgn : gotF (ps.take (j2 + 1)) = g + (if 0 < p.2.2 then 1 else 0) := by
                rw [take_snoc hp]
                unfold gotF
                rw [List.foldl_append]
                have := hg.out
                unfold gotF at this
                rw [this]
                simp only [List.foldl_cons, List.foldl_nil]
                split <;> omega
              have HGN := Lib.hid hgn
              obtain ⟨p0, p1, p2⟩ := p
              simp only at x0 x1 x2 HGN
              clear hp r3 hgn
              by_cases h0 : 0 < p2
              · have d0 : decide (0 < p2) = true := decide_eq_true h0
                have H0 := Lib.hid h0
                clear h0
                go_wp2_with fail
                go_roundg (q - j2)
                case measure => have := Hm.out; omega
                case rel => exact ⟨j2 + 1, g + 1, by omega, by omega, by go_num, by go_num, by omega, by omega, Lib.hid (by rw [HGN.out, if_pos H0.out]), hb5.alloc hb5s _⟩
              · have d0 : decide (0 < p2) = false := decide_eq_false h0
                have H0 := Lib.hid h0
                clear h0
                go_wp2_with fail
                go_roundg (q - j2)
                case measure => have := Hm.out; omega
                case rel => exact ⟨j2 + 1, g, by omega, by omega, rfl, by go_num, by omega, by omega, Lib.hid (by rw [HGN.out, if_neg (by have := H0.out; omega), Int.add_zero]), hb5.alloc hb5s _⟩
            · have hga : g = a := by
                rw [← hg.out, ← HG.out, List.take_of_length_le (by rw [HQ.out]; omega)]
              have dga : (g == a) = true := beq_iff_eq.2 hga
              clear hga r3
              go_wp2_with fail
              go_ret
              exact ⟨by simp, hb4.trans (hb5.mono (by omega))⟩
end Go.Proofs.Ytkdgkjodllgalaa
