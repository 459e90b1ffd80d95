/-
  The contract of runs.Of: what it makes of a list of levels, up to 2^32 of them.
-/
import Derived.Test.YtamfjmonpbojnaaRowsMem
namespace Go.Proofs.Ytamfjmonpbojnaa
open Go.RowKit

def runsStep (s : List (List Int) × Int) (k : Nat) (l : Int) : List (List Int) × Int :=
  if l = -1 then s else if l ≠ s.2 ∨ s.1 = [] then (s.1 ++ [[(k : Int)]], l) else (s.1.dropLast ++ [(s.1.getLast?.getD []) ++ [(k : Int)]], l)
def runsTo (zs : List Int) : Nat → List (List Int) × Int
  | 0 => ([], -1)
  | k + 1 => match zs[k]? with
    | some l => runsStep (runsTo zs k) k l
    | none => runsTo zs k
def runsF (zs : List Int) : List (List Int) := (runsTo zs zs.length).1
theorem runsTo_succ {zs : List Int} {k : Nat} {l : Int} (h : zs[k]? = some l) : runsTo zs (k + 1) = runsStep (runsTo zs k) k l := by rw [runsTo, h]

set_option maxHeartbeats 2000000 in
theorem runs_any (A : Option Addr) (n c : Nat) (zs : List Int) (w : World) (hn : zs.length = n) (hr : RdI .i64 w A zs) (hsz : n ≤ 4294967295) :
    Calls Try.prog 25 #[.slice A n c] w fun e w' => ∃ v, e = .returned v ∧ Own2 w' w.heap.size v (runsF zs) ∧ (runsF zs).length ≤ n ∧ Below w.heap.size w w' := by
  have HN := Lib.hid hn
  clear hn
  go_enter Try.func25, Try.ntmps25
  go_wp2_with fail
  go_loopg [9, 3, 4] (n + 1) (fun m i v l wr => ∃ k : Nat, k ≤ n ∧ m = n - k + 1 ∧ i = .int .i64 k ∧ ∃ (rs : List (List Int)) (last : Int), l = .int .i64 last ∧ Hid (runsTo zs k = (rs, last)) ∧ OwnL wr w.heap.size v rs ∧ rs.length ≤ k ∧ Hid (∀ r ∈ rs, r.length ≤ k) ∧ Below w.heap.size w wr)
  case atStart => exact ⟨0, Nat.zero_le _, rfl, rfl, [], -1, rfl, Lib.hid rfl, OwnL.nil _ _, Nat.le_refl _, Lib.hid (by simp), Below.refl _ _⟩
  case round =>
    obtain ⟨k, hk, hm, rfl, rs, last, rfl, hto, hL, hrl, hrows, hb⟩ := hrel
    have Hm := Lib.hid hm
    clear hm
    by_cases hlt : k < n
    · obtain ⟨b, o, l, rfl, hx, hc⟩ := (hr.below hb).at_ (k := k) (by rw [HN.out]; exact hlt)
      have hbs := hb.size
      by_cases h1 : l = -1
      · have hb1 : (l == -1) = true := by simp [h1]
        have Hto : Hid (runsTo zs (k + 1) = (rs, last)) := Lib.hid (by rw [runsTo_succ hx.out, hto.out, runsStep, if_pos h1])
        clear h1
        go_wp2_with fail
        go_roundg (n - k)
        case measure => have := Hm.out; omega
        case rel => exact ⟨k + 1, by omega, by omega, by go_num, rs, last, rfl, Hto, hL, by omega, Lib.hid (fun r hr => by have := hrows.out r hr; omega), hb⟩
      · have hb1 : (l == -1) = false := by simp [h1]
        by_cases h2 : l ≠ last ∨ rs = []
        · have Hto : Hid (runsTo zs (k + 1) = (rs ++ [[(k : Int)]], l)) := Lib.hid (by rw [runsTo_succ hx.out, hto.out, runsStep, if_neg h1, if_pos h2])
          have hb2 : (l != last) = true ∨ ((l != last) = false ∧ ((rs.length : Int) == 0) = true) := by
            rcases h2 with h2 | h2
            · exact .inl (by simp [h2])
            · by_cases h3 : l = last
              · exact .inr ⟨by simp [h3], by simp [h2]⟩
              · exact .inl (by simp [h3])
          clear h1 h2
          obtain ⟨hs, o1, o2, o3⟩ := hL
          obtain ⟨Ao, co, rfl, hco⟩ := own_open o1
          rcases hb2 with hb2 | ⟨hb2, hb3⟩
          all_goals
            go_wp2_with (first
              | (at_builtin; refine wpList_push _ rfl (.tmp 26) (.tmp 27) 26 rfl w.heap.size 24 _ 24 Try.underlying26 info24 rfl _ _ _ rfl (World.ownsRow.alloc o1 _) wr.heap.size (.slice none 0 0) rfl (by simp) rfl (by omega) (by omega) (by simp; omega) ?_))
            intro v1 w1 hown1 hgrow1
            have hb1w := (hb.alloc hbs (.cells #[.slice none 0 0] 24)).grown hgrow1 (by simp; omega) (own_ge (World.ownsRow.alloc o1 (.cells #[.slice none 0 0] 24)))
            have hL1 := OwnL.add o1 o2 hown1 hgrow1
            obtain ⟨g, cg, Ah, ch, rfl, hg, hcg, hcell, hol, hfin⟩ := hL1.last
            have hbs1 := hb1w.size
            simp only [List.length_nil] at hcell hfin hol
            go_wp2_with (first
              | (at_builtin; refine wpList_push_at _ rfl (.tmp 38) (.tmp 40) 24 rfl w.heap.size 3 _ 8 Try.underlying24 info3 rfl _ _ _ rfl (World.ownsRow.alloc hol _) w1.heap.size (.int .i64 k) rfl (by simp) rfl (by simp) (by omega) (by simp; omega) ?_))
            intro v2 w2 hown2 hgrow2 hat2
            have Hown2 : Own w2 w.heap.size v2 ([] ++ [(k : Int)]) := by unfold Own OwnT; simpa using hown2
            have hb2w := (hb1w.alloc hbs1 (.cells #[.int .i64 k] 3)).grown hgrow2 (by simp; omega) (own_ge (World.ownsRow.alloc hol (.cells #[.int .i64 k] 3)))
            obtain ⟨q1, q2, q3⟩ := hfin w2 v2 _ _ hgrow2 Hown2 (by simpa using hat2)
            obtain ⟨A2, c2, rfl, _, _⟩ := Hown2.open_
            simp only [List.length_append, List.length_singleton, List.length_nil, Nat.zero_add] at q3
            have Q3 := Lib.hid q3
            clear q3 hfin hown2 hgrow2 hat2
            go_wp2_with fail
            go_roundg (n - k)
            case measure => have := Hm.out; omega
            case rel =>
              exact ⟨k + 1, by omega, by omega, by go_num, rs ++ [[(k : Int)]], l, rfl, Hto, Q3.out, by simp; omega, Lib.hid (fun r hr => by
                rcases List.mem_append.1 hr with h | h
                · have := hrows.out r h; omega
                · simp at h; subst h; simp), hb2w.setCell hg _⟩
        · have h3 : l = last := by
            by_cases h3 : l = last
            · exact h3
            · exact absurd (.inl h3) h2
          have h4 : rs ≠ [] := fun h => h2 (.inr h)
          subst h3
          obtain ⟨r, rs', rfl⟩ : ∃ r rs', rs = rs' ++ [r] := ⟨rs.getLast h4, rs.dropLast, (List.dropLast_concat_getLast h4).symm⟩
          have Hto : Hid (runsTo zs (k + 1) = (rs' ++ [r ++ [(k : Int)]], l)) := Lib.hid (by rw [runsTo_succ hx.out, hto.out, runsStep, if_neg h1, if_neg h2]; simp)
          have hb2 : (l != l) = false := by simp
          have hrk : r.length ≤ k := hrows.out r (by simp)
          simp only [List.length_append, List.length_singleton] at hrl
          have hb3 : (((rs'.length : Int) + 1) == 0) = false := by simp; omega
          clear h1 h2 h4
          obtain ⟨g, cg, Ah, ch, rfl, hg, hcg, hcell, hol, hfin⟩ := hL.last
          go_wp2_with (first
            | (at_builtin; refine wpList_push_at _ rfl (.tmp 38) (.tmp 40) 24 rfl w.heap.size 3 _ 8 Try.underlying24 info3 rfl _ _ _ rfl (World.ownsRow.alloc hol _) wr.heap.size (.int .i64 k) rfl (by simp) rfl (by omega) (by omega) (by simp; omega) ?_))
          intro v2 w2 hown2 hgrow2 hat2
          have Hown2 : Own w2 w.heap.size v2 (r ++ [(k : Int)]) := by unfold Own OwnT; simpa using hown2
          have hb2w := (hb.alloc hbs (.cells #[.int .i64 k] 3)).grown hgrow2 (by simp; omega) (own_ge (World.ownsRow.alloc hol (.cells #[.int .i64 k] 3)))
          obtain ⟨q1, q2, q3⟩ := hfin w2 v2 _ _ hgrow2 Hown2 (by simpa using hat2)
          obtain ⟨A2, c2, rfl, _, _⟩ := Hown2.open_
          simp only [List.length_append, List.length_singleton] at q3
          have Q3 := Lib.hid q3
          clear q3 hfin hown2 hgrow2 hat2
          go_wp2_with fail
          go_roundg (n - k)
          case measure => have := Hm.out; omega
          case rel =>
            exact ⟨k + 1, by omega, by omega, by go_num, rs' ++ [r ++ [(k : Int)]], l, rfl, Hto, Q3.out, by simp; omega, Lib.hid (fun r1 hr => by
              rcases List.mem_append.1 hr with h | h
              · have := hrows.out r1 (by simp [h]); omega
              · simp at h; subst h; simp; omega), hb2w.setCell hg _⟩
    · go_wp2_with fail
      go_ret
      have hkn : k = n := by omega
      have e : runsF zs = rs := by unfold runsF; rw [HN.out, ← hkn, hto.out]
      rw [e]
      exact ⟨_, rfl, hL.own2, by omega, hb⟩
end Go.Proofs.Ytamfjmonpbojnaa
