/-
  The contract of selects.Bands.
-/
import Derived.Test.YtamfjmonpbojnaaPlacesWalk
namespace Go.Proofs.Ytamfjmonpbojnaa
open Go.RowKit

theorem OwnB.drewN {w : World} {B a : Nat} {v : Value} {ps : List Bnd} (h : OwnB w B v ps) : OwnB (w.drewN a) B v ps := own_below h (below_drewN (Below.refl w.heap.size w) a) (own_lt h)
theorem below_pushB {W w w1 : World} {B : Nat} {o : Obj} {v : Value} {ps : List Bnd} (hb : Below B W w) (hB : B ≤ w.heap.size) (hown : OwnB w B v ps) (hg : (w.alloc o).grownBy w1 v.ownBlock) : Below B W w1 :=
  (hb.alloc hB o).grown hg (by simp; omega) hown.ge
/-- what has been laid so far -/
def outB (done : List Bnd) (cur : Option Bnd) : List Bnd := done ++ cur.toList

set_option maxRecDepth 100000 in
set_option maxHeartbeats 4000000 in
theorem bands_any (A0 : Option Addr) (n c0 : Nat) (V : List Int) (A1 : Option Addr) (c1 : Nat) (W : List Nat) (f t : Int) (w : World)
    (h0 : V.length = n) (h1 : W.length = n) (r0 : RdI .i64 w A0 V) (r1 : RdI .i64 w A1 (upI W)) (hW : ∀ x ∈ W, x ≤ 2) (b1 : n ≤ 2097152) (hc1 : n ≤ c1) :
    Calls Try.prog 29 #[.slice A0 n c0, .slice A1 n c1, .int .i64 f, .int .i64 t] w fun e w' => ∃ v, e = .returned v ∧ OwnB w' w.heap.size v (bandsG f t none 0 (V.zip W)) ∧ Below w.heap.size w w' := by
  have hmin := min2_run n n n (by omega)
  have H0 := Lib.hid h0
  have H1 := Lib.hid h1
  have K1 : Hid ((upI W).length = n) := Lib.hid (by rw [upI_len, h1])
  have hS : Hid (∀ k, k < n → (startsF (upI W))[k]? = some (sF W k : Int)) := Lib.hid (fun k hk => by
    rw [starts_up hW (by omega), starts_get (by omega)])
  have hSl : Hid ((startsF (upI W)).length = n) := Lib.hid (by unfold startsF; rw [List.length_map, List.length_range, K1.out])
  have HZ : Hid ((V.zip W).length = n) := Lib.hid (by rw [List.length_zip, h0, h1]; omega)
  have HW := Lib.hid hW
  clear h0 h1 hW
  go_enter Try.func29, Try.ntmps29
  go_wp2_with fail
  refine (starts_any _ n _ (upI W) _ K1.out r1 (by omega)).mono ?_
  rintro e w2 ⟨v, rfl, hown, hb⟩
  obtain ⟨As, cs, rfl, _, ds⟩ := hown.open_
  rw [hSl.out]
  clear hown
  generalize startsF (upI W) = ST at *
  have r0 := r0.below hb
  have r1 := r1.below hb
  go_wp2_with fail
  clear hmin
  go_loopg [30, 12] (n + 1) (fun m i v wr => ∃ (k : Nat) (done : List Bnd) (cur : Option Bnd), k ≤ n ∧ m = n - k + 1 ∧ i = .int .i64 k ∧ Hid (cur = none → done = []) ∧ Hid (bandsG f t none 0 (V.zip W) = done ++ bandsG f t cur (sF W k) ((V.zip W).drop k)) ∧ Hid ((outB done cur).length ≤ k) ∧ OwnB wr w2.heap.size v (outB done cur) ∧ Below w2.heap.size w2 wr)
  case atStart => exact ⟨0, [], none, Nat.zero_le _, rfl, rfl, Lib.hid (fun _ => rfl), Lib.hid rfl, Lib.hid (Nat.le_refl _), OwnB.nil _ _, Below.refl _ _⟩
  case round =>
    obtain ⟨k, done, cur, hk, hm, rfl, hcn, hbd, hlen, hown, hbw⟩ := hrel
    have Hm := Lib.hid hm
    clear hm
    have hbs := hbw.size
    by_cases hlt : k < n
    · obtain ⟨b, o, p, rfl, hx, f0⟩ := (r0.below hbw).at_ (k := k) (by rw [H0.out]; omega)
      obtain ⟨wd, hwd⟩ : ∃ wd, W[k]? = some wd := ⟨_, List.getElem?_eq_getElem (by rw [H1.out]; omega)⟩
      obtain ⟨b1', o1, rfl, _, hA1⟩ := (r1.below hbw).addr (by rw [K1.out]; omega)
      have f1 := hA1 k _ (upI_get hwd)
      obtain ⟨b2, o2, rfl, _, hA2⟩ := (ds.below hbw).addr (by rw [hSl.out]; omega)
      have f2 := hA2 k _ (hS.out k hlt)
      have hsl := sF_le HW.out k
      rw [H1.out] at hsl
      have hwd2 := HW.out wd (List.mem_of_getElem? hwd)
      have hz : Hid ((V.zip W).drop k = (p, wd) :: (V.zip W).drop (k + 1)) := Lib.hid (drop_cons_of (by rw [List.getElem?_zip_eq_some]; exact ⟨hx.out, hwd⟩))
      have hsn : Hid (sF W (k + 1) = sF W k + wd) := Lib.hid (sF_succ hwd)
      obtain ⟨S1, hS1⟩ : ∃ S1, S1 = sF W k + wd := ⟨_, rfl⟩
      have hw : IntKind.i64.wrap ((sF W k : Int) + (wd : Int)) = (S1 : Int) := by
        rw [hS1, IntWalk.i64_in _ (by omega)]; omega
      have HS1 := Lib.hid hS1
      have hout : Hid (¬ (inB f t p = true ∧ 0 < wd) → bandsG f t none 0 (V.zip W) = done ++ bandsG f t cur (sF W (k + 1)) ((V.zip W).drop (k + 1))) := Lib.hid (fun h => by
        rw [hbd.out, hz.out, bandsG_out h, hsn.out])
      clear hA1 hA2 hwd hS1
      by_cases g1 : p < f
      · have d1 : decide (p < f) = true := decide_eq_true g1
        have hb2 : Hid (bandsG f t none 0 (V.zip W) = done ++ bandsG f t cur (sF W (k + 1)) ((V.zip W).drop (k + 1))) := Lib.hid (hout.out (by unfold inB; simp; omega))
        go_wp2_with fail
        go_roundg (n - k)
        case measure => have := Hm.out; omega
        case rel => exact ⟨k + 1, done, cur, by omega, by omega, by go_num, hcn, hb2, Lib.hid (by have := hlen.out; omega), hown, hbw⟩
      · have d1 : decide (p < f) = false := decide_eq_false g1
        by_cases g2 : t ≤ p
        · have d2 : decide (t ≤ p) = true := decide_eq_true g2
          have hb2 : Hid (bandsG f t none 0 (V.zip W) = done ++ bandsG f t cur (sF W (k + 1)) ((V.zip W).drop (k + 1))) := Lib.hid (hout.out (by unfold inB; simp; omega))
          go_wp2_with fail
          go_roundg (n - k)
          case measure => have := Hm.out; omega
          case rel => exact ⟨k + 1, done, cur, by omega, by omega, by go_num, hcn, hb2, Lib.hid (by have := hlen.out; omega), hown, hbw⟩
        · have d2 : decide (t ≤ p) = false := decide_eq_false g2
          by_cases g3 : wd = 0
          · have hb2 : Hid (bandsG f t none 0 (V.zip W) = done ++ bandsG f t cur (sF W (k + 1)) ((V.zip W).drop (k + 1))) := Lib.hid (hout.out (by omega))
            subst g3
            go_wp2_with fail
            go_roundg (n - k)
            case measure => have := Hm.out; omega
            case rel => exact ⟨k + 1, done, cur, by omega, by omega, by go_num, hcn, hb2, Lib.hid (by have := hlen.out; omega), hown, hbw⟩
          · have d3 : decide ((wd : Int) ≤ 0) = false := decide_eq_false (by omega)
            have d3' : decide (wd ≤ 0) = false := decide_eq_false (by omega)
            have hin : Hid (inB f t p = true ∧ 0 < wd) := Lib.hid ⟨by unfold inB; simp; omega, by omega⟩
            have hwd0 : 0 < wd := by omega
            clear g1 g2 g3 hout
            cases cur with
            | none =>
              obtain rfl : done = [] := hcn.out rfl
              have hown0 : OwnB wr w2.heap.size _ [] := hown
              obtain ⟨Av, cv, rfl, _⟩ := own_open hown0
              have Hx : Hid (bandsG f t none 0 (V.zip W) = [] ++ bandsG f t (some (sF W k, S1)) (sF W (k + 1)) ((V.zip W).drop (k + 1))) := Lib.hid (by rw [hbd.out, hz.out, bandsG_new hin.out, hsn.out, HS1.out])
              clear hown
              generalize sF W k = sk at *
              go_wp2_with fail
              go_quiet (fail)
              go_wp2_with (first
                | (at_builtin; refine wpList_pushB _ rfl (.tmp 86) (.tmp 90) rfl w2.heap.size _ [] rfl ((hown0.drewN).alloc _) wr.heap.size sk S1 rfl (heap_alloc_new _ _) (by simp) (by simp; omega) ?_))
              intro v3 w3 hown3 hgrow3
              have hb3 := below_pushB (below_drewN hbw _) (by simpa using hbs) hown0.drewN hgrow3
              clear hgrow3
              go_wp2_with fail
              go_roundg (n - k)
              case measure => have := Hm.out; omega
              case rel => exact ⟨k + 1, [], some (sk, S1), by omega, by omega, by go_num, Lib.hid (fun h => by cases h), Hx, Lib.hid (by simp [outB]), hown3, hb3⟩
            | some q =>
              obtain ⟨a, b⟩ := q
              obtain ⟨g, cg, rfl, hgB, hgl, hgc, ca, cb, cfr, cst⟩ := OwnB.last (ps := done) (a := a) (b := b) hown
              have hlen' := hlen.out
              unfold outB at hlen'
              simp only [Option.toList_some, List.length_append, List.length_singleton] at hlen'
              obtain ⟨Ld, hLd⟩ : ∃ Ld, Ld = done.length := ⟨_, rfl⟩
              rw [← hLd] at ca cb cfr cst hgc hlen' ⊢
              have HLd := Lib.hid hLd
              have Hcst := Lib.hid cst
              have Hown := Lib.hid hown
              clear hLd cst hown
              by_cases hbs2 : b = sF W k
              · have Hx : Hid (bandsG f t none 0 (V.zip W) = done ++ bandsG f t (some (a, S1)) (sF W (k + 1)) ((V.zip W).drop (k + 1))) := Lib.hid (by rw [hbd.out, hz.out, hbs2, bandsG_on hin.out, hsn.out, HS1.out])
                generalize sF W k = sk at *
                subst hbs2
                have dbs : ((b : Int) == (b : Int)) = true := by simp
                go_wp2_with fail
                go_quiet (fail)
                go_wp2_with fail
                go_roundg (n - k)
                case measure => have := Hm.out; omega
                case rel => exact ⟨k + 1, done, some (a, S1), by omega, by omega, by go_num, Lib.hid (fun h => by cases h), Hx, Lib.hid (by have := HLd.out; unfold outB; simp; omega), (Hcst.out S1).drewN, below_drewN (hbw.setCell hgB _) _⟩
              · have Hx : Hid (bandsG f t none 0 (V.zip W) = (done ++ [(a, b)]) ++ bandsG f t (some (sF W k, S1)) (sF W (k + 1)) ((V.zip W).drop (k + 1))) := Lib.hid (by rw [hbd.out, hz.out, bandsG_next hin.out hbs2, hsn.out, HS1.out]; simp)
                generalize sF W k = sk at *
                have dbs : ((b : Int) == (sk : Int)) = false := beq_eq_false_iff_ne.2 (by omega)
                clear hbs2
                have hown1 : OwnB wr w2.heap.size (.slice (some ⟨g, 0, none⟩) (Ld + 1) cg) (done ++ [(a, b)]) := by rw [HLd.out]; exact Hown.out
                have hl1 : (done ++ [(a, b)]).length ≤ 4294967296 := by have := HLd.out; simp; omega
                go_wp2_with fail
                go_quiet (fail)
                go_wp2_with (first
                  | (at_builtin; refine wpList_pushB _ rfl (.tmp 86) (.tmp 90) rfl w2.heap.size _ (done ++ [(a, b)]) rfl ((hown1.drewN).alloc _) wr.heap.size sk S1 rfl (heap_alloc_new _ _) hl1 (by simp; omega) ?_))
                intro v3 w3 hown3 hgrow3
                have hb3 := below_pushB (below_drewN hbw _) (by simpa using hbs) hown1.drewN hgrow3
                clear hgrow3
                go_wp2_with fail
                go_roundg (n - k)
                case measure => have := Hm.out; omega
                case rel => exact ⟨k + 1, done ++ [(a, b)], some (sk, S1), by omega, by omega, by go_num, Lib.hid (fun h => by cases h), Hx, Lib.hid (by have := HLd.out; unfold outB; simp; omega), by simpa [outB] using hown3, hb3⟩
    · obtain rfl : n = k := by omega
      have hE : Hid (bandsG f t none 0 (V.zip W) = outB done cur) := Lib.hid (by rw [hbd.out, List.drop_of_length_le (by rw [HZ.out]; exact Nat.le_refl _), bandsG_nil]; rfl)
      go_wp2_with fail
      go_ret
      exact ⟨_, rfl, by rw [hE.out]; exact hown.mono hb.size, hb.trans (hbw.mono hb.size)⟩
end Go.Proofs.Ytamfjmonpbojnaa
