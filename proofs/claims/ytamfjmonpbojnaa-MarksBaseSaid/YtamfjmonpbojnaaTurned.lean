/-
  The contract of order.turned: one level by the contract of the next one; all levels by induction.
-/
import Derived.Test.YtamfjmonpbojnaaOrderPlain
import Derived.Deep.QuietTactic
import Derived.BigQuiet
import Derived.WalkSmall
namespace Go.Proofs.Ytamfjmonpbojnaa
open Go.RowKit

theorem RdI.keepB {K : IntKind} {w w' : World} {B : Nat} {A : Option Addr} {zs : List Int} (h : RdI K w A zs) (hA : ∀ ad, A = some ad → ad.block < B) (hb : Below B w w') : RdI K w' A zs := fun k u hu => by
  obtain ⟨ad, e, hc⟩ := h k u hu
  exact ⟨ad, e, (hb.cell (p := ad.add k) (by rw [block_add]; exact hA ad e)).trans hc⟩
theorem RowOk.below {w w' : World} {B : Nat} {h : Value} {r : List Int} (hr : RowOk w B h r) (hb : Below w.heap.size w w') : RowOk w' B h r := by
  rcases hr with ho | ⟨A, c, rfl, hc, hrd, hA⟩
  · exact .inl (ho.below hb (Nat.le_refl _))
  · exact .inr ⟨A, c, rfl, hc, hrd.below hb, hA⟩
theorem RowOk.pushed {w w' : World} {B n : Nat} {h v : Value} {r : List Int} {hs : List Value} {o : Obj} (hr : RowOk w B h r) (hB : B ≤ w.heap.size) (h1 : w.ownsRow B 24 1 v n hs) (hg : (w.alloc o).grownBy w' v.ownBlock) : RowOk w' B h r := by
  rcases hr with ho | ⟨A, c, rfl, hc, hrd, hA⟩
  · exact .inl (own_kept_ne (h := ho.alloc o) (h' := h1.alloc o) (by decide) hg)
  · exact .inr ⟨A, c, rfl, hc, hrd.keepB hA (((Below.refl _ _).alloc hB o).grown hg (by simp; omega) (own_ge h1)), hA⟩
theorem Own2.below {w w' : World} {B : Nat} {v : Value} {rows : List (List Int)} (h : Own2 w B v rows) (hb : Below w.heap.size w w') : Own2 w' B v rows := by
  obtain ⟨hs, h1, h2⟩ := h
  exact ⟨hs, own_below h1 hb (own_lt h1), fun i r hr => by obtain ⟨x, a, b⟩ := h2 i r hr; exact ⟨x, a, b.below hb⟩⟩
theorem Own2.added {w w' : World} {B : Nat} {v v' h : Value} {rows : List (List Int)} {r : List Int} {hs : List Value} {o : Obj} (h1 : w.ownsRow B 24 1 v rows.length hs) (h2 : ∀ (i : Nat) (r : List Int), rows[i]? = some r → ∃ h, hs[i]? = some h ∧ RowOk w B h r)
    (hB : B ≤ w.heap.size) (hr : RowOk w B h r) (hown : w'.ownsRow B 24 1 v' (rows.length + 1) (hs ++ [h])) (hg : (w.alloc o).grownBy w' v.ownBlock) : Own2 w' B v' (rows ++ [r]) := by
  have hl := own_len h1
  refine ⟨hs ++ [h], by simpa using hown, fun i q hq => ?_⟩
  by_cases hi : i < rows.length
  · rw [List.getElem?_append_left hi] at hq
    obtain ⟨x, e, ho⟩ := h2 i q hq
    exact ⟨x, by rw [List.getElem?_append_left (by omega)]; exact e, ho.pushed hB h1 hg⟩
  · have hi' : i = rows.length := by
      have := (List.getElem?_eq_some_iff.1 hq).1; simp at this; omega
    subst hi'
    simp at hq
    subst hq
    exact ⟨h, by rw [← hl]; simp, hr.pushed hB h1 hg⟩
theorem Own2.len {w : World} {B : Nat} {v : Value} {rows : List (List Int)} (h : Own2 w B v rows) : ∃ A c, v = .slice A rows.length c := by
  obtain ⟨A, c, e, _⟩ := h.open_
  exact ⟨A, c, e⟩

theorem drop_cons_of {α : Type} {zs : List α} {k : Nat} {l : α} (h : zs[k]? = some l) : zs.drop k = l :: zs.drop (k + 1) := by
  obtain ⟨h1, h2⟩ := List.getElem?_eq_some_iff.1 h
  rw [← h2]
  exact List.drop_eq_getElem_cons h1

/-- the level of a place -/
def lvF (Lv : List Int) (q : Int) : Int := Lv.getD q.toNat 0
def Inside (Lv ps : List Int) : Prop := ∀ q ∈ ps, ∃ k : Nat, q = k ∧ k < Lv.length

def TurnedAt (Lv : List Int) (lev : Int) (rec : List Int → List Int) : Prop :=
  ∀ (A : Option Addr) (n c : Nat) (ps : List Int) (A2 : Option Addr) (n2 c2 : Nat) (w : World), ps.length = n → n ≤ c → RdI .i64 w A ps → Lv.length = n2 → RdI .i64 w A2 Lv → Inside Lv ps → n ≤ 4194304 →
    Calls Try.prog 47 #[.slice A n c, .slice A2 n2 c2, .int .i64 lev] w fun e w' => ∃ v, e = .returned v ∧ Own w' w.heap.size v (rec ps) ∧ Below w.heap.size w w'

set_option maxHeartbeats 4000000 in
set_option maxRecDepth 100000 in
theorem turned_step (Lv : List Int) (hLv : ∀ x ∈ Lv, x ≤ 126) (lev : Int) (rec : List Int → List Int) (hl0 : 0 ≤ lev) (hl1 : lev ≤ 126) (hrec : ∀ g, (rec g).length = g.length) (ih : lev + 1 ≤ 126 → TurnedAt Lv (lev + 1) rec) :
    TurnedAt Lv lev (turnStep (lvF Lv) lev rec) := by
  intro A n c ps A2 n2 c2 w hn hnc hr hn2 hr2 hin hsz
  have HN := Lib.hid hn
  have HN2 := Lib.hid hn2
  have HI := Lib.hid hin
  have IH := Lib.hid ih
  have HL := Lib.hid hLv
  clear hn hn2 hin ih hLv
  go_enter Try.func47, Try.ntmps47
  go_wp2_with fail
  go_loopg [8, 7] (n + 1) (fun m i v wr => ∃ k : Nat, k ≤ n ∧ m = n - k + 1 ∧ i = .int .i64 k ∧ ∃ L : List (List Int), Own2 wr w.heap.size v L ∧ L.length ≤ k ∧ Hid (partsF (fun q => decide (lev < lvF Lv q)) rec ps = L ++ partsF (fun q => decide (lev < lvF Lv q)) rec (ps.drop k)) ∧ Below w.heap.size w wr)
  case atStart => exact ⟨0, Nat.zero_le _, rfl, rfl, [], Own2.nil _ _, Nat.le_refl _, Lib.hid (by simp), Below.refl _ _⟩
  case round =>
    obtain ⟨k, hk, hm, rfl, L, hO, hLk, hparts, hb⟩ := hrel
    have Hm := Lib.hid hm
    clear hm
    have hbs := hb.size
    have hrw := hr.below hb
    have hrw2 := hr2.below hb
    by_cases hlt : k < n
    · obtain ⟨b, o, eA, hbA, _⟩ := hr.addr (by rw [HN.out]; omega)
      subst eA
      obtain ⟨b', o', eA, _, hcA⟩ := hrw.addr (by rw [HN.out]; omega)
      injection eA with eA
      injection eA with eA1 eA2
      subst eA1
      subst eA2
      have HA := Lib.hid hcA
      clear hcA
      go_wp2_with fail
      go_loop [9] (fun q => ∃ e : Nat, k ≤ e ∧ e ≤ n ∧ q = .int .i64 e ∧ Hid (∀ x ∈ (ps.drop k).take (e - k), decide (lev < lvF Lv x) = true)) (fun q => n - (intOf q).toNat)
      case atStart => exact ⟨k, Nat.le_refl _, hk, rfl, Lib.hid (by simp)⟩
      case round =>
        obtain ⟨e, hke, hen, rfl, hhi⟩ := hrel
        have hq : e < n → ∃ qn : Nat, ∃ x : Int, ps[e]? = some (qn : Int) ∧ Lv[qn]? = some x ∧ lvF Lv qn = x := fun he => by
          obtain ⟨pe, hpe⟩ : ∃ pe, ps[e]? = some pe := ⟨_, List.getElem?_eq_getElem (by rw [HN.out]; exact he)⟩
          obtain ⟨qn, h1, h2⟩ := HI.out _ (List.mem_of_getElem? hpe)
          rw [h1] at hpe
          exact ⟨qn, Lv[qn], hpe, List.getElem?_eq_getElem h2, by simp [lvF, h2]⟩
        by_cases hgo : e < n ∧ ∃ x, ps[e]? = some x ∧ lev < lvF Lv x
        · obtain ⟨he, x0, hx0, hlt0⟩ := hgo
          obtain ⟨qn, x, h1, h2, h3⟩ := hq he
          rw [h1] at hx0
          obtain rfl := Option.some.inj hx0
          rw [h3] at hlt0
          have f1 := HA.out e _ h1
          obtain ⟨b2, o2, rfl, _, hc2⟩ := hrw2.addr (by have := (List.getElem?_eq_some_iff.1 h2).1; omega)
          have f2 := hc2 qn x h2
          have hqn2 : qn < n2 := by rw [← HN2.out]; exact (List.getElem?_eq_some_iff.1 h2).1
          have hb1 : decide (lev < x) = true := by simp [hlt0]
          have Hhi : Hid (∀ x ∈ (ps.drop k).take (e + 1 - k), decide (lev < lvF Lv x) = true) := Lib.hid (by
            rw [show e + 1 - k = (e - k) + 1 by omega, take_snoc (show (ps.drop k)[e - k]? = some (qn : Int) by rw [List.getElem?_drop, show k + (e - k) = e by omega]; exact h1)]
            intro y hy
            rcases List.mem_append.1 hy with hy | hy
            · exact hhi.out y hy
            · simp at hy; subst hy; rw [h3]; exact hb1)
          clear hq hhi h1 h2 h3 hc2 hx0
          go_wp2_with fail
          go_round
          case rel => exact ⟨e + 1, by omega, by omega, by go_num, Hhi⟩
          case measure => simp [intOf]; omega
        · have hend : Hid (∀ x, ps[e]? = some x → decide (lev < lvF Lv x) = false) := Lib.hid (fun x hx => by
            have : ¬ lev < lvF Lv x := fun h => hgo ⟨by rw [← HN.out]; exact (List.getElem?_eq_some_iff.1 hx).1, x, hx, h⟩
            simp [this])
          have hcase : (k < e ∧ (n ≤ e ∨ (e < n ∧ ∃ (qn : Nat) (x : Int), wr.cell? ⟨b, o + e, none⟩ = some (.int .i64 (qn : Int)) ∧ (∃ b2 o2, A2 = some ⟨b2, o2, none⟩ ∧ wr.cell? ⟨b2, o2 + qn, none⟩ = some (.int .i64 x)) ∧ qn < n2 ∧ decide (lev < x) = false))) ∨
              (e = k ∧ ∃ (qn : Nat) (x : Int), ps[k]? = some (qn : Int) ∧ wr.cell? ⟨b, o + k, none⟩ = some (.int .i64 (qn : Int)) ∧ (∃ b2 o2, A2 = some ⟨b2, o2, none⟩ ∧ wr.cell? ⟨b2, o2 + qn, none⟩ = some (.int .i64 x)) ∧ qn < n2 ∧ decide (lev < x) = false) := by
            have key : e < n → ∃ (qn : Nat) (x : Int), ps[e]? = some (qn : Int) ∧ wr.cell? ⟨b, o + e, none⟩ = some (.int .i64 (qn : Int)) ∧ (∃ b2 o2, A2 = some ⟨b2, o2, none⟩ ∧ wr.cell? ⟨b2, o2 + qn, none⟩ = some (.int .i64 x)) ∧ qn < n2 ∧ decide (lev < x) = false := fun he => by
              obtain ⟨qn, x, h1, h2, h3⟩ := hq he
              obtain ⟨b2, o2, e2, _, hc2⟩ := hrw2.addr (by have := (List.getElem?_eq_some_iff.1 h2).1; omega)
              exact ⟨qn, x, h1, HA.out e _ h1, ⟨b2, o2, e2, hc2 qn x h2⟩, by rw [← HN2.out]; exact (List.getElem?_eq_some_iff.1 h2).1, by rw [← h3]; exact hend.out _ h1⟩
            rcases Nat.lt_or_ge k e with h | h
            · refine .inl ⟨h, ?_⟩
              rcases Nat.lt_or_ge e n with h' | h'
              · obtain ⟨qn, x, _, h2⟩ := key h'
                exact .inr ⟨h', qn, x, h2⟩
              · exact .inl (by omega)
            · have : e = k := by omega
              subst this
              exact .inr ⟨rfl, key hlt⟩
          clear hq hgo
          rcases hcase with ⟨hkelt, hcase⟩ | ⟨rfl, hcase⟩
          · have hgr := partsF_hi (p := fun q => decide (lev < lvF Lv q)) (rec := rec) hkelt (by rw [HN.out]; exact hen) hhi.out hend.out
            have Hp : Hid (partsF (fun q => decide (lev < lvF Lv q)) rec ps = (L ++ [rec ((ps.drop k).take (e - k))]) ++ partsF (fun q => decide (lev < lvF Lv q)) rec (ps.drop e)) := Lib.hid (by rw [hparts.out, hgr]; simp)
            have hlev : lev + 1 ≤ 126 := by
              obtain ⟨q0, hq0⟩ : ∃ q0, ps[k]? = some q0 := ⟨_, List.getElem?_eq_getElem (by rw [HN.out]; exact hlt)⟩
              obtain ⟨qn, rfl, hqn⟩ := HI.out q0 (List.mem_of_getElem? hq0)
              have h1 := hhi.out qn (by rw [drop_cons_of hq0, show e - k = (e - k - 1) + 1 by omega]; simp)
              have h2 : lvF Lv qn = Lv[qn] := by simp [lvF, hqn]
              have h3 := HL.out Lv[qn] (List.getElem_mem hqn)
              rw [h2] at h1
              simp at h1
              omega
            have hIH := Lib.hid (IH.out hlev)
            have hsub : Hid (((ps.drop k).take (e - k)).length = e - k) := Lib.hid (by simp; rw [HN.out]; omega)
            have hrs : RdI .i64 wr (some ⟨b, o + k, none⟩) ((ps.drop k).take (e - k)) := by
              intro j u hu
              rw [List.getElem?_map, List.getElem?_take] at hu
              refine ⟨_, rfl, ?_⟩
              by_cases hj : j < e - k
              · rw [if_pos hj, List.getElem?_drop] at hu
                obtain ⟨x, hx, rfl⟩ := Option.map_eq_some_iff.1 hu
                rw [Addr.add_lit, Nat.add_assoc]
                exact HA.out _ _ hx
              · rw [if_neg hj] at hu; simp at hu
            have hins : Inside Lv ((ps.drop k).take (e - k)) := fun q hq => HI.out q (List.mem_of_mem_drop (List.mem_of_mem_take hq))
            have HS := Lib.hid hins
            obtain ⟨hs, o1, o2⟩ := hO
            obtain ⟨Ao, co, rfl, hco⟩ := own_open o1
            have O2 := Lib.hid o2
            clear hgr hparts hhi hend hins o2
            rcases hcase with hcase | ⟨hcase, qn, x, f1, ⟨b2, o2', rfl, f2⟩, hqn2, hb1⟩
            all_goals
              go_wp2_with fail
              refine (hIH.out _ _ _ _ _ _ _ _ hsub.out (by omega) hrs HN2.out hrw2 HS.out (by omega)).mono ?_
              rintro er w3 ⟨v3, rfl, hown3, hb3⟩
              obtain ⟨A3, c3, rfl, _, _⟩ := hown3.open_
              have hl3 : (rec ((ps.drop k).take (e - k))).length = e - k := by rw [hrec, hsub.out]
              have hOw : w3.ownsRow w.heap.size 24 1 (.slice Ao L.length co) L.length hs := own_below o1 hb3 (own_lt o1)
              have hb3s := hb3.size
              rw [hl3] at hown3 ⊢
              go_wp2_with (first
                | (at_builtin; refine wpList_push _ rfl (.tmp 37) (.tmp 46) 26 rfl w.heap.size 24 _ 24 Try.underlying26 info24 rfl _ _ _ rfl (World.ownsRow.alloc hOw _) w3.heap.size (.slice A3 (e - k) c3) rfl (by simp) rfl (by omega) (by omega) (by simp; omega) ?_))
              intro v4 w4 hown4 hgrow4
              have hO4 := Own2.added (w := w3) hOw (fun i r hr => by obtain ⟨x, a, bb⟩ := O2.out i r hr; exact ⟨x, a, bb.below hb3⟩) (by omega) (.inl (hown3.mono hbs)) hown4 hgrow4
              have hb4 : Below w.heap.size w w4 := ((hb.trans (hb3.mono hbs)).alloc (by omega) (.cells #[.slice A3 (e - k) c3] 24)).grown hgrow4 (by simp; omega) (own_ge hOw)
              clear hown4 hgrow4 hOw hown3 hb3
              go_wp2_with fail
              go_roundg (n - e + 1)
              case measure => have := Hm.out; omega
              case rel => exact ⟨e, by omega, rfl, rfl, _, hO4, by simp; omega, Hp, hb4⟩
          · obtain ⟨qn, x, h1, f1, ⟨b2, o2, rfl, f2⟩, hqn2, hb1⟩ := hcase
            have hgr := partsF_lo (p := fun q => decide (lev < lvF Lv q)) (rec := rec) h1 (hend.out _ h1)
            have Hp : Hid (partsF (fun q => decide (lev < lvF Lv q)) rec ps = (L ++ [[(qn : Int)]]) ++ partsF (fun q => decide (lev < lvF Lv q)) rec (ps.drop (e + 1))) := Lib.hid (by rw [hparts.out, hgr]; simp)
            have hrow : RowOk wr w.heap.size (.slice (some ⟨b, o + e, none⟩) 1 (c - e)) [(qn : Int)] := .inr ⟨_, _, rfl, by simp; omega, by
              intro j u hu
              match j, hu with
              | 0, hu => simp at hu; subst hu; exact ⟨_, rfl, by simpa [Addr.add] using f1⟩, by
              intro ad had
              injection had with had
              subst had
              exact hbA⟩
            obtain ⟨hs, o1, o2'⟩ := hO
            obtain ⟨Ao, co, rfl, hco⟩ := own_open o1
            have O2 := Lib.hid o2'
            have HR := Lib.hid hrow
            clear hgr hparts hhi hend o2' h1 hrow
            go_wp2_with (first
              | (at_builtin; refine wpList_push _ rfl (.tmp 50) (.tmp 55) 26 rfl w.heap.size 24 _ 24 Try.underlying26 info24 rfl _ _ _ rfl (World.ownsRow.alloc o1 _) wr.heap.size (.slice (some ⟨b, o + e, none⟩) 1 (c - e)) rfl (by simp) rfl (by omega) (by omega) (by simp; omega) ?_))
            intro v4 w4 hown4 hgrow4
            have hO4 := Own2.added o1 O2.out hbs HR.out hown4 hgrow4
            have hb4 : Below w.heap.size w w4 := (hb.alloc hbs (.cells #[.slice (some ⟨b, o + e, none⟩) 1 (c - e)] 24)).grown hgrow4 (by simp; omega) (own_ge o1)
            clear hown4 hgrow4
            go_wp2_with fail
            go_roundg (n - e)
            case measure => have := Hm.out; omega
            case rel => exact ⟨e + 1, by omega, by omega, by go_num, _, hO4, by simp; omega, Hp, hb4⟩
    · have hkn : n ≤ k := by omega
      have HP : Hid (partsF (fun q => decide (lev < lvF Lv q)) rec ps = L) := Lib.hid (by rw [hparts.out, partsF_end (by rw [HN.out]; exact hkn), List.append_nil])
      have hlen : L.flatten.length = n := by rw [← HP.out, partsF_len _ _ hrec, HN.out]
      obtain ⟨Ao, co, rfl, _, hRd⟩ := hO.open_
      clear hparts hO hrw hrw2 hr hr2
      obtain ⟨wo, rfl⟩ : ∃ wo : World, wo = wr := ⟨_, rfl⟩
      have hTS : Hid (turnStep (lvF Lv) lev rec ps = (if lev % 2 = 1 then L.reverse else L).flatten) := Lib.hid (by unfold turnStep; rw [HP.out])
      have hml : ∀ r ∈ L, r.length ≤ n := fun r hr => by
        rw [← hlen]
        obtain ⟨i, hi, e⟩ := List.mem_iff_getElem.1 hr
        have h1 := take_flatten_len L (i + 1)
        rw [take_snoc (show L[i]? = some r by rw [List.getElem?_eq_getElem hi, e]), List.flatten_append, List.length_append, show [r].flatten = r by simp] at h1
        omega
      have HML := Lib.hid hml
      have HLN := Lib.hid hlen
      clear hml hlen HP
      by_cases hodd : lev % 2 = 1
      · have hTS' : Hid (turnStep (lvF Lv) lev rec ps = L.reverse.flatten) := Lib.hid (by rw [hTS.out, if_pos hodd])
        have hb1 : (lev % 2 == 1) = true := by simp [hodd]
        clear hTS hodd
        go_wp2_with fail
        go_loopg [60, 10] (L.length + 1) (fun m i v wq => ∃ j : Nat, j ≤ L.length ∧ m = L.length - j + 1 ∧ i = .int .i64 j ∧ Own wq wo.heap.size v ((L.reverse.take j).flatten) ∧ Below wo.heap.size wo wq)
        case atStart => exact ⟨0, Nat.zero_le _, rfl, rfl, OwnT.nil _ _ _ _, Below.refl _ _⟩
        case round =>
          obtain ⟨j, hj, hm2, rfl, hown, hbq⟩ := hrel
          have Hm2 := Lib.hid hm2
          clear hm2
          by_cases hlt2 : j < L.length
          · obtain ⟨r, hr⟩ : ∃ r, L[L.length - 1 - j]? = some r := ⟨_, List.getElem?_eq_getElem (by omega)⟩
            have hrr : L.reverse[j]? = some r := by rw [List.getElem?_reverse hlt2]; exact hr
            have hrl := HML.out r (List.mem_of_getElem? hr)
            have hol : ((L.reverse.take j).flatten).length ≤ n := by
              have := take_flatten_len L.reverse j
              rw [flatten_reverse_len, HLN.out] at this
              exact this
            obtain ⟨bo, oo, A', c', rfl, hcell, hcr, hrd⟩ := (hRd.below hbq).at_ hr
            have Hrr := Lib.hid hrr
            clear hr hrr
            go_wp2_with (first
              | (at_builtin; refine wpList_catI _ rfl (.tmp 71) (.tmp 75) rfl wo.heap.size _ _ rfl hown A' _ c' r rfl rfl hrd ?m1 ?m2 ?_))
            case m1 => omega
            case m2 => exact hbq.size
            intro v5 w5 hown5 hgrow5
            have hb5 := below_cat hbq hbq.size hown hgrow5
            go_wp2_with fail
            go_roundg (L.length - j)
            case measure => have := Hm2.out; omega
            case rel => exact ⟨j + 1, by omega, by omega, by go_num, hown5.of_eq (by rw [take_snoc Hrr.out]; simp), hb5⟩
          · have e1 : L.reverse.take j = L.reverse := List.take_of_length_le (by simp; omega)
            go_wp2_with fail
            go_ret
            refine ⟨_, rfl, ?_, hb.trans (hbq.mono hb.size)⟩
            rw [hTS'.out, ← e1]
            exact hown.mono hb.size
      · have hTS' : Hid (turnStep (lvF Lv) lev rec ps = L.flatten) := Lib.hid (by rw [hTS.out, if_neg hodd])
        have hb1 : (lev % 2 == 1) = false := by simp [hodd]
        clear hTS hodd
        go_wp2_with fail
        go_loopg [60, 10] (L.length + 1) (fun m i v wq => ∃ j : Nat, j ≤ L.length ∧ m = L.length - j + 1 ∧ i = .int .i64 j ∧ Own wq wo.heap.size v ((L.take j).flatten) ∧ Below wo.heap.size wo wq)
        case atStart => exact ⟨0, Nat.zero_le _, rfl, rfl, OwnT.nil _ _ _ _, Below.refl _ _⟩
        case round =>
          obtain ⟨j, hj, hm2, rfl, hown, hbq⟩ := hrel
          have Hm2 := Lib.hid hm2
          clear hm2
          by_cases hlt2 : j < L.length
          · obtain ⟨r, hr⟩ : ∃ r, L[j]? = some r := ⟨_, List.getElem?_eq_getElem (by omega)⟩
            have hrl := HML.out r (List.mem_of_getElem? hr)
            have hol : ((L.take j).flatten).length ≤ n := by
              have := take_flatten_len L j
              rw [HLN.out] at this
              exact this
            obtain ⟨bo, oo, A', c', rfl, hcell, hcr, hrd⟩ := (hRd.below hbq).at_ hr
            have Hrr := Lib.hid hr
            clear hr
            go_wp2_with (first
              | (at_builtin; refine wpList_catI _ rfl (.tmp 71) (.tmp 75) rfl wo.heap.size _ _ rfl hown A' _ c' r rfl rfl hrd ?k1 ?k2 ?_))
            case k1 => omega
            case k2 => exact hbq.size
            intro v5 w5 hown5 hgrow5
            have hb5 := below_cat hbq hbq.size hown hgrow5
            go_wp2_with fail
            go_roundg (L.length - j)
            case measure => have := Hm2.out; omega
            case rel => exact ⟨j + 1, by omega, by omega, by go_num, hown5.of_eq (by rw [take_snoc Hrr.out]; simp), hb5⟩
          · have e1 : L.take j = L := List.take_of_length_le (by omega)
            go_wp2_with fail
            go_ret
            refine ⟨_, rfl, ?_, hb.trans (hbq.mono hb.size)⟩
            rw [hTS'.out, ← e1]
            exact hown.mono hb.size

theorem turned_any (Lv : List Int) (hLv : ∀ x ∈ Lv, x ≤ 126) : ∀ f : Nat, f ≤ 126 → TurnedAt Lv (126 - (f : Int)) (turnF (lvF Lv) f) := by
  intro f
  induction f with
  | zero =>
    intro _
    exact turned_step Lv hLv 126 id (by omega) (by omega) (fun _ => rfl) (fun h => by omega)
  | succ f ih =>
    intro hf
    refine turned_step Lv hLv (126 - ((f + 1 : Nat) : Int)) (turnF (lvF Lv) f) (by omega) (by omega) (turnF_len _ f) (fun _ => ?_)
    have e : (126 : Int) - ((f + 1 : Nat) : Int) + 1 = 126 - (f : Int) := by omega
    rw [e]
    exact ih (by omega)
end Go.Proofs.Ytamfjmonpbojnaa
