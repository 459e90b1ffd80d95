/-
  The walks of OrderBoth, OrderParts and OrderBack.
-/
import Derived.Test.YtamfjmonpbojnaaOrderFacts
namespace Go.Proofs.Ytamfjmonpbojnaa
open Go.RowKit

/-- what leads back of a line's own order -/
theorem back_visual (L : List Int) : ∃ out, backF (visualF L) L.length = some out ∧ out.length = L.length ∧
    ∀ (k : Nat) (l : Int), L[k]? = some l → (l = -1 ∧ out[k]? = some (-1)) ∨ (l ≠ -1 ∧ ∃ i : Nat, out[k]? = some (i : Int) ∧ (visualF L)[i]? = some (k : Int)) := by
  obtain ⟨out, h1, h2, h3, h4⟩ := back_ok (visualF L) 0 (List.replicate L.length (-1)) (visual_nodup L) (fun p hp => by
    obtain ⟨q, rfl, hq⟩ := visual_mem hp
    exact ⟨q, rfl, by rw [List.getElem?_replicate, if_pos hq]⟩)
  refine ⟨out, h1, by simpa using h2, fun k l hl => ?_⟩
  have hk := (List.getElem?_eq_some_iff.1 hl).1
  by_cases hl1 : l = -1
  · refine .inl ⟨hl1, ?_⟩
    rw [h4 k (fun h => by
      obtain ⟨l', a, b⟩ := mem_visual.1 h
      rw [hl] at a
      exact b ((Option.some.inj a).symm.trans hl1)), List.getElem?_replicate, if_pos hk]
  · refine .inr ⟨hl1, ?_⟩
    have hm : (k : Int) ∈ visualF L := mem_visual.2 ⟨l, hl, hl1⟩
    obtain ⟨i, hi, e⟩ := List.mem_iff_getElem.1 hm
    have hi' : (visualF L)[i]? = some (k : Int) := by rw [List.getElem?_eq_getElem hi, e]
    exact ⟨i, by rw [h3 i k hi', Nat.zero_add], hi'⟩

set_option maxHeartbeats 2000000 in
theorem orderBoth_walk (A : Option Addr) (n c : Nat) (zs : List Int) (w : World) (hn : zs.length = n) (hr : RdI .u8 w A zs) (hz : Bytes zs) (hsz : n ≤ 1048576) :
    Calls Try.prog 16 #[.slice A n c] w fun e w' => e = .returned (.bool true) ∧ Below w.heap.size w w' := by
  have HN := Lib.hid hn
  clear hn
  go_enter Try.func16, Try.ntmps16
  go_wp2_with fail
  refine (awake25_any _).mono ?_
  rintro e w1 ⟨rfl, hb1⟩
  go_wp2_with fail
  refine (levels_any _ n _ zs _ HN.out (hr.below hb1) hz (by omega)).mono ?_
  rintro e w2 ⟨v, rfl, hown, hb2⟩
  have hb12 := hb1.trans (hb2.mono hb1.size)
  obtain ⟨A1, c1, rfl, _, hs2⟩ := hown.open_
  rw [len_levels, HN.out]
  have HL : Hid ((levelsF zs).length = n) := Lib.hid (by rw [len_levels, HN.out])
  clear hown hb1 hb2 hr
  generalize levelsF zs = L at *
  go_wp2_with fail
  refine (visual_any _ n _ L _ HL.out hs2 (by omega)).mono ?_
  rintro e w3 ⟨v, rfl, hown, hb3⟩
  obtain ⟨A2, c2, rfl, _, hv3⟩ := hown.open_
  have hs3 := hs2.below hb3
  have hb13 := hb12.trans (hb3.mono hb12.size)
  have hvl : (visualF L).length ≤ n := by have := visual_len L; rw [HL.out] at this; exact this
  clear hown hb3 hs2 hb12
  go_wp2_with fail
  refine (back_any _ _ _ (visualF L) _ n _ _ rfl hv3 (by omega) (by omega)).mono ?_
  rintro e w4 h4
  obtain ⟨out, ho1, ho2, ho3⟩ := back_visual L
  rw [HL.out] at ho1 ho2
  obtain ⟨A3, c3, rfl, _, _, hd4, hb4⟩ := backPost_some h4 ho1
  have hs4 := hs3.below hb4
  have hv4 := hv3.below hb4
  have hb := hb13.trans (hb4.mono hb13.size)
  have HO := Lib.hid ho3
  have HO2 := Lib.hid ho2
  rw [ho2]
  clear h4 ho1 ho2 ho3 hb4 hs3 hv3 hb13
  generalize visualF L = V at *
  have hne : ((n : Int) != n) = false := by simp
  go_wp2_with fail
  clear hne
  go_loop [32] (fun i => ∃ k : Nat, k ≤ n ∧ i = .int .i64 k) (fun i => n - (intOf i).toNat)
  case atStart => exact ⟨0, Nat.zero_le _, rfl⟩
  case round =>
    obtain ⟨k, hk, rfl⟩ := hrel
    by_cases hlt : k < n
    · obtain ⟨b, o, rfl, _, hc⟩ := hs4.addr (by rw [HL.out]; omega)
      obtain ⟨l, hl⟩ : ∃ l, L[k]? = some l := ⟨_, List.getElem?_eq_getElem (by rw [HL.out]; exact hlt)⟩
      have f1 := hc k l hl
      obtain ⟨b', o', rfl, _, hc'⟩ := hd4.addr (by rw [HO2.out]; omega)
      rcases HO.out k l hl with ⟨h1, h2⟩ | ⟨h1, i, h2, h3⟩
      · have f2 := hc' k _ h2
        subst h1
        clear hc hc' hl h2
        go_wp2_with fail
        go_round
        case rel => exact ⟨k + 1, by omega, by go_num⟩
        case measure => simp [intOf]; omega
      · have f2 := hc' k _ h2
        obtain ⟨b2, o2, rfl, _, hc2⟩ := hv4.addr (by have := (List.getElem?_eq_some_iff.1 h3).1; omega)
        have f3 := hc2 i _ h3
        have hi := (List.getElem?_eq_some_iff.1 h3).1
        have g1 : ((i : Int) == -1) = false := beq_eq_false_iff_ne.2 (by omega)
        have g2 : (l == -1) = false := by simp [h1]
        have g3 : ((i : Int) != -1) = true := bne_iff_ne.2 (by omega)
        have g4 : decide ((i : Int) < 0) = false := by simp
        have g5 : ((k : Int) != k) = false := by simp
        clear hc hc' hc2 hl h2 h3 h1
        generalize V.length = vl at *
        have g6 : decide ((vl : Int) ≤ i) = false := decide_eq_false (by omega)
        go_wp2_with fail
        go_round
        case rel => exact ⟨k + 1, by omega, by go_num⟩
        case measure => simp [intOf]; omega
    · go_wp2_with fail
      go_ret
      exact ⟨rfl, hb⟩

theorem own_same {w w' : World} {B : Nat} {v : Value} {zs : List Int} (h : Own w B v zs) (hb : ∀ g, v.ownBlock = some g → w'.heap[g]? = w.heap[g]?) : Own w' B v zs := by
  refine ⟨h.1, ?_⟩
  rcases h.2 with hn | ⟨g, cap, cur, rfl, hg, hh, rest⟩
  · exact .inl hn
  · exact .inr ⟨g, cap, cur, rfl, hg, by rw [hb g rfl]; exact hh, rest⟩

set_option maxHeartbeats 4000000 in
theorem orderParts_walk (A : Option Addr) (n c : Nat) (zs : List Int) (A' : Option Addr) (n' c' : Nat) (zs' : List Int) (w : World) (hn : zs.length = n) (hr : RdI .u8 w A zs) (hz : Bytes zs) (hsz : n ≤ 1048576)
    (hn' : zs'.length = n') (hr' : RdI .u8 w A' zs') (hz' : Bytes zs') (hsz' : n' ≤ 1048576) :
    Calls Try.prog 18 #[.slice A n c, .slice A' n' c'] w fun e w' => e = .returned (.bool true) ∧ Below w.heap.size w w' := by
  have HN := Lib.hid hn
  have HN' := Lib.hid hn'
  clear hn hn'
  go_enter Try.func18, Try.ntmps18
  go_wp2_with fail
  refine (awake25_any _).mono ?_
  rintro e w1 ⟨rfl, hb1⟩
  go_wp2_with fail
  refine (levels_any _ n _ zs _ HN.out (hr.below hb1) hz (by omega)).mono ?_
  rintro e w2 ⟨v, rfl, hown, hb2⟩
  have hb12 := hb1.trans (hb2.mono hb1.size)
  obtain ⟨A1, c1, rfl, _, hs2⟩ := hown.open_
  rw [len_levels, HN.out]
  go_wp2_with fail
  refine (levels_any _ n' _ zs' _ HN'.out (hr'.below hb12) hz' (by omega)).mono ?_
  rintro e w3 ⟨v, rfl, hown', hb3⟩
  have hb13 := hb12.trans (hb3.mono hb12.size)
  obtain ⟨A2, c2, rfl, _, ht3⟩ := hown'.open_
  rw [len_levels, HN'.out]
  have hs3 := hs2.below hb3
  have HL : Hid ((levelsF zs).length = n) := Lib.hid (by rw [len_levels, HN.out])
  have HL' : Hid ((levelsF zs').length = n') := Lib.hid (by rw [len_levels, HN'.out])
  clear hown hown' hb1 hb2 hb3 hr hr' hs2 hb12
  generalize levelsF zs = L at *
  generalize levelsF zs' = M at *
  -- all := append(append(append(nil, a...), 0), b...)
  go_wp2_with (first
    | (at_builtin; refine wpList_catI _ rfl (.const (.slice none 0 0)) (.tmp 17) rfl w3.heap.size _ [] rfl (OwnT.nil _ _ _ _) A1 n c1 L rfl HL.out hs3 (by simp; omega) (Nat.le_refl _) ?_))
  intro v4 w4 hown4 hgrow4
  have hb4 : Below w3.heap.size w3 w4 := below_cat (Below.refl _ _) (Nat.le_refl _) (OwnT.nil 3 .i64 w3 w3.heap.size) hgrow4
  have hz4 := hb4.size
  go_wp2_with (first
    | (at_builtin; refine wpList_pushI _ rfl (.tmp 18) (.tmp 19) rfl w3.heap.size v4 L rfl (hown4.alloc _) w4.heap.size 0 rfl (by simp) (by rw [HL.out]; omega) (by simp; omega) ?_))
  intro v5 w5 hown5 hgrow5
  have hb5 : Below w3.heap.size w3 w5 := below_push hb4 hz4 hown4 hgrow5
  have hz5 := hb5.size
  have ht5 := ht3.below hb5
  go_wp2_with (first
    | (at_builtin; refine wpList_catI _ rfl (.tmp 20) (.tmp 21) rfl w3.heap.size v5 (L ++ [0]) rfl hown5 A2 n' c2 M rfl HL'.out ht5 (by rw [List.length_append, HL.out]; simp; omega) hz5 ?_))
  intro v6 w6 hown6 hgrow6
  have hb6 : Below w3.heap.size w3 w6 := below_cat hb5 hz5 hown5 hgrow6
  have hz6 := hb6.size
  have hs6 := hs3.below hb6
  have ht6 := ht3.below hb6
  have HA : Hid ((L ++ 0 :: M).length = n + 1 + n') := Lib.hid (by rw [List.length_append, List.length_cons, HL.out, HL'.out]; omega)
  obtain ⟨A6, c6, rfl, _, hu6⟩ := hown6.open_
  rw [HA.out]
  clear hown4 hown5 hown6 hgrow4 hgrow5 hgrow6 hb4 hb5 hz4 hz5 ht5
  -- want := append(append(nil, Visual(a)...), len(a))
  go_wp2_with fail
  refine (visual_any _ n _ L _ HL.out hs6 (by omega)).mono ?_
  rintro e w7 ⟨v7, rfl, hown7, hb7⟩
  obtain ⟨A7, c7, rfl, _, hv7⟩ := hown7.open_
  have hvl : (visualF L).length ≤ n := by have := visual_len L; rw [HL.out] at this; exact this
  have hA6 : ∀ ad, A6 = some ad → ad.block < w7.heap.size := fun ad e => by
    obtain ⟨b, o, e2, h2, _⟩ := hu6.addr (by rw [HA.out]; omega)
    rw [e2] at e
    injection e with e
    subst e
    have := hb7.size
    exact Nat.lt_of_lt_of_le h2 this
  have HA6 := Lib.hid hA6
  clear hA6
  have hu7 := hu6.below hb7
  have ht7 := ht6.below hb7
  have hb37 := hb6.trans (hb7.mono hz6)
  clear hown7 hu6 ht6 hs6 hb7 hb6
  go_wp2_with (first
    | (at_builtin; refine wpList_catI _ rfl (.const (.slice none 0 0)) (.tmp 24) rfl w7.heap.size _ [] rfl (OwnT.nil _ _ _ _) A7 _ c7 (visualF L) rfl rfl hv7 (by simp; omega) (Nat.le_refl _) ?_))
  intro v8 w8 hown8 hgrow8
  have hb8 : Below w7.heap.size w7 w8 := below_cat (Below.refl _ _) (Nat.le_refl _) (OwnT.nil 3 .i64 w7 w7.heap.size) hgrow8
  have hz8 := hb8.size
  go_wp2_with (first
    | (at_builtin; refine wpList_pushI _ rfl (.tmp 25) (.tmp 28) rfl w7.heap.size v8 (visualF L) rfl (hown8.alloc _) w8.heap.size n rfl (by simp) (by omega) (by simp; omega) ?_))
  intro v9 w9 hown9 hgrow9
  have hb9 : Below w7.heap.size w7 w9 := below_push hb8 hz8 hown8 hgrow9
  have hu9 := hu7.below hb9
  have ht9 := ht7.below hb9
  have hb39 := hb37.trans (hb9.mono hb37.size)
  have hb79 : Below w7.heap.size w7 w9 := hb9
  have hw37 : w3.heap.size ≤ w7.heap.size := hb37.size
  clear hown8 hgrow8 hgrow9 hb8 hz8 hv7 hu7 ht7 hb37 hb9
  go_wp2_with fail
  refine (visual_any _ n' _ M _ HL'.out ht9 (by omega)).mono ?_
  rintro e w10 ⟨v10, rfl, hown10, hb10⟩
  obtain ⟨A10, c10, rfl, _, hv10⟩ := hown10.open_
  have hvl' : (visualF M).length ≤ n' := by have := visual_len M; rw [HL'.out] at this; exact this
  have hu10 := hu9.below hb10
  have hown910 := hown9.below hb10 (Nat.le_refl _)
  have hb310 := hb39.trans (hb10.mono hb39.size)
  have hvm : Hid (∀ p ∈ visualF M, ∃ q : Nat, p = q ∧ q < n') := Lib.hid (fun p hp => by obtain ⟨q, a, b⟩ := visual_mem hp; exact ⟨q, a, by rw [← HL'.out]; exact b⟩)
  have hcut : Hid (visualF (L ++ 0 :: M) = visualF L ++ (n : Int) :: (visualF M).map (fun q => (n : Int) + 1 + q)) := Lib.hid (by rw [visual_cut, HL.out])
  have hS9 := hb10.size
  have hg9 := Lib.hid (fun (g : Nat) (hg : v9.ownBlock = some g) => hown9.lt g hg)
  have h10ge := Lib.hid (fun (g : Nat) (hg : (Value.slice A10 (visualF M).length c10).ownBlock = some g) => hown10.ge g hg)
  have h10lt := Lib.hid (fun (g : Nat) (hg : (Value.slice A10 (visualF M).length c10).ownBlock = some g) => hown10.lt g hg)
  have hw79 : w7.heap.size ≤ w9.heap.size := hb79.size
  clear hown9 hb10 hu9 hb39 ht9 hv10
  go_wp2_with fail
  go_loopg [33, 8] ((visualF M).length + 1) (fun m i v wr => ∃ k : Nat, k ≤ (visualF M).length ∧ m = (visualF M).length - k + 1 ∧ i = .int .i64 k ∧ Own wr w7.heap.size v (visualF L ++ (n : Int) :: ((visualF M).take k).map (fun q => (n : Int) + 1 + q)) ∧
      Hid (∀ g, v.ownBlock = some g → g < w9.heap.size ∨ w10.heap.size ≤ g) ∧ Hid (∀ g, w9.heap.size ≤ g → g < w10.heap.size → wr.heap[g]? = w10.heap[g]?) ∧ Below w3.heap.size w3 wr ∧ w10.heap.size ≤ wr.heap.size ∧ RdI .i64 wr A6 (L ++ 0 :: M))
  case atStart => exact ⟨0, Nat.zero_le _, rfl, rfl, by simpa using hown910, Lib.hid (fun g hg => .inl (hg9.out g hg)), Lib.hid (fun g _ _ => rfl), hb310, Nat.le_refl _, hu10⟩
  case round =>
    obtain ⟨k, hk, hm, rfl, hown, hblk, hkept, hb, hsz10, hu⟩ := hrel
    have Hm := Lib.hid hm
    have hV : Own wr w9.heap.size (.slice A10 (visualF M).length c10) (visualF M) := own_same hown10 (fun g hg => hkept.out g (h10ge.out g hg) (h10lt.out g hg))
    clear hm hown910 hb310 hu10
    by_cases hlt : k < (visualF M).length
    · obtain ⟨b, o, p, rfl, hx, hc⟩ := hV.rd.at_ hlt
      obtain ⟨q, rfl, hq⟩ := hvm.out p (List.mem_of_getElem? hx.out)
      have hbs := hb.size
      obtain ⟨Wn, hWn⟩ : ∃ Wn, Wn = visualF L ++ (n : Int) :: ((visualF M).take k).map (fun q => (n : Int) + 1 + q) := ⟨_, rfl⟩
      have hol : Wn.length ≤ 4294967296 := by rw [hWn]; simp; omega
      rw [← hWn] at hown
      have HWn := Lib.hid hWn
      have hwz := hown.lt
      have HWZ := Lib.hid hwz
      have HGE := Lib.hid hown.ge
      clear hV hWn hwz
      go_wp2_with (first
        | (at_builtin; refine wpList_push_at _ rfl (.tmp 37) (.tmp 43) 24 rfl w7.heap.size 3 _ 8 Try.underlying24 info3 rfl _ _ _ rfl (World.ownsRow.alloc hown _) wr.heap.size (.int .i64 (n + 1 + q)) rfl (by simp) rfl hol (by omega) (by simp; omega) ?_))
      intro v11 w11 hown11 hgrow11 hat11
      have Hown11 : Own w11 w7.heap.size v11 (Wn ++ [(n : Int) + 1 + q]) := by unfold Own OwnT; simpa using hown11
      have hb11 : Below w3.heap.size w3 w11 := (hb.alloc (by omega) (.cells #[.int .i64 (n + 1 + q)] 3)).grown hgrow11 (by simp; omega) (fun g hg => by have := HGE.out g hg; omega)
      have hblk11 : Hid (∀ g, v11.ownBlock = some g → g < w9.heap.size ∨ w10.heap.size ≤ g) := Lib.hid (fun g hg => by
        rcases hat11 with h | h
        · rw [h] at hg; exact hblk.out g hg
        · rw [h] at hg
          simp at hg
          exact .inr (by omega))
      have hkept11 : Hid (∀ g, w9.heap.size ≤ g → g < w10.heap.size → w11.heap[g]? = w10.heap[g]?) := Lib.hid (fun g h1 h2 => by
        rw [hgrow11.block g (by simp; omega) (fun e => by rcases hblk.out g e.symm with h | h <;> omega), Below.heap_alloc _ _ _ (by omega)]
        exact hkept.out g h1 h2)
      have hu11 : RdI .i64 w11 A6 (L ++ 0 :: M) := hu.keepB (B := w7.heap.size) HA6.out (((Below.refl _ _).alloc (by omega) (.cells #[.int .i64 (n + 1 + q)] 3)).grown hgrow11 (by simp; omega) HGE.out)
      have hs11 : w10.heap.size ≤ w11.heap.size := by have := hgrow11.size; simp at this; omega
      clear hgrow11 hown11 hat11 hown
      go_wp2_with fail
      go_roundg ((visualF M).length - k)
      case measure => have := Hm.out; omega
      case rel =>
        refine ⟨k + 1, by omega, by omega, by go_num, Hown11.of_eq ?_, hblk11, hkept11, hb11, hs11, hu11⟩
        rw [HWn.out, map_take_snoc (fun q => (n : Int) + 1 + q) hx.out]
        simp
    · have e1 : (visualF M).take k = visualF M := List.take_of_length_le (by omega)
      rw [e1, ← hcut.out] at hown
      obtain ⟨A12, c12, rfl, _, hw12⟩ := hown.open_
      have hvs := visual_len (L ++ 0 :: M)
      rw [HA.out] at hvs
      clear hV
      go_wp2_with fail
      refine (visual_any _ (n + 1 + n') _ (L ++ 0 :: M) _ HA.out hu (by omega)).mono ?_
      rintro e w13 ⟨v13, rfl, hown13, hb13'⟩
      obtain ⟨A13, c13, rfl, _, hv13⟩ := hown13.open_
      have hb14 := hb.trans (hb13'.mono hb.size)
      go_wp2_with fail
      refine (same_any _ _ _ (visualF (L ++ 0 :: M)) _ _ _ (visualF (L ++ 0 :: M)) _ rfl rfl hv13 (hw12.below hb13') (by omega)).mono ?_
      rintro e w14 ⟨rfl, hb15⟩
      rw [sameB_self]
      have hb16 := hb14.trans (hb15.mono hb14.size)
      go_wp2_with fail
      go_ret
      exact ⟨rfl, hb13.trans (hb16.mono hb13.size)⟩
end Go.Proofs.Ytamfjmonpbojnaa
