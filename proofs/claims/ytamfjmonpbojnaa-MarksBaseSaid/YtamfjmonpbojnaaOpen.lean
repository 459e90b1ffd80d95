/-
  What an argument that is a slice of integers gives: that it reads as a list, its numbers fit their kind, and how long it is at most (the bound of the given row, or the form's own reach).
-/
import Derived.Test.YtamfjmonpbojnaaBase
import Derived.JoinedCond
import Derived.SizedLaws
import Derived.ShutString
import Derived.ChangeOld
namespace Go.Proofs.Ytamfjmonpbojnaa
open Go.ChangeShapes Go.WideShapes Go.ChangeAt Go.RowKit

theorem own : ownKnob Try.prog.godebug = none := by kernel_rfl
/-! ### The head line of the translation, word by word: so that the closed facts that read it are cheap -/
theorem words_cut (w r : List Char) (h : w.all (fun c => c != Char.ofNat 32) = true) : wordsSigns (w ++ Char.ofNat 32 :: r) = w :: wordsSigns r := by
  induction w with
  | nil => rfl
  | cons c w ih =>
    rw [List.all_cons, Bool.and_eq_true] at h
    have hc : c ≠ Char.ofNat 32 := by simpa using h.1
    rw [List.cons_append, wordsSigns, ih h.2]
    exact hc
def headA : List Char := [104, 97, 114, 110, 101, 115, 115].map Char.ofNat
def headB : List Char := [100, 48, 54, 50, 100, 99, 55, 55, 102, 50, 57, 98, 48, 53, 54, 56, 55, 54, 101, 48, 56, 53, 52, 55, 52, 100, 57, 49, 98, 98, 98, 52, 51, 50, 57, 97, 53, 101, 55, 102, 48, 55, 101, 100, 97, 99, 55, 49, 55, 102, 54, 56, 52, 50, 52, 54, 56, 101, 98, 53, 56, 50, 101, 99].map Char.ofNat
def headC : List Char := [99, 117, 116].map Char.ofNat
def headD : List Char := [97, 116, 32, 98, 111, 117, 115, 116, 114, 111, 112, 104, 101, 100, 111, 110, 47, 98, 111, 117, 115, 116, 114, 111, 112, 104, 101, 100, 111, 110, 108, 97, 119, 49, 50, 46, 82, 117, 110, 115, 67, 117, 116, 32, 98, 111, 117, 115, 116, 114, 111, 112, 104, 101, 100, 111, 110, 47, 98, 111, 117, 115, 116, 114, 111, 112, 104, 101, 100, 111, 110, 108, 97, 119, 49, 50, 46, 82, 117, 110, 115, 69, 118, 101, 110, 32, 98, 111, 117, 115, 116, 114, 111, 112, 104, 101, 100, 111, 110, 47, 98, 111, 117, 115, 116, 114, 111, 112, 104, 101, 100, 111, 110, 108, 97, 119, 49, 50, 46, 82, 117, 110, 115, 67, 111, 117, 110, 116, 32, 98, 111, 117, 115, 116, 114, 111, 112, 104, 101, 100, 111, 110, 47, 98, 111, 117, 115, 116, 114, 111, 112, 104, 101, 100, 111, 110, 108, 97, 119, 51, 53, 46, 83, 101, 108, 101, 99, 116, 115, 66, 97, 110, 100, 115, 32, 98, 111, 117, 115, 116, 114, 111, 112, 104, 101, 100, 111, 110, 47, 98, 111, 117, 115, 116, 114, 111, 112, 104, 101, 100, 111, 110, 108, 97, 119, 50, 56, 46, 67, 101, 108, 108, 115, 83, 116, 97, 114, 116, 115, 32, 98, 111, 117, 115, 116, 114, 111, 112, 104, 101, 100, 111, 110, 47, 98, 111, 117, 115, 116, 114, 111, 112, 104, 101, 100, 111, 110, 108, 97, 119, 51, 53, 46, 83, 101, 108, 101, 99, 116, 115, 87, 104, 111, 108, 101, 32, 98, 111, 117, 115, 116, 114, 111, 112, 104, 101, 100, 111, 110, 47, 98, 111, 117, 115, 116, 114, 111, 112, 104, 101, 100, 111, 110, 108, 97, 119, 50, 56, 46, 67, 101, 108, 108, 115, 72, 105, 116, 32, 98, 111, 117, 115, 116, 114, 111, 112, 104, 101, 100, 111, 110, 47, 98, 111, 117, 115, 116, 114, 111, 112, 104, 101, 100, 111, 110, 108, 97, 119, 50, 56, 46, 67, 101, 108, 108, 115, 65, 108, 108, 32, 98, 111, 117, 115, 116, 114, 111, 112, 104, 101, 100, 111, 110, 47, 98, 111, 117, 115, 116, 114, 111, 112, 104, 101, 100, 111, 110, 108, 97, 119, 50, 56, 46, 67, 101, 108, 108, 115, 80, 97, 114, 116, 115, 32, 98, 111, 117, 115, 116, 114, 111, 112, 104, 101, 100, 111, 110, 47, 98, 111, 117, 115, 116, 114, 111, 112, 104, 101, 100, 111, 110, 108, 97, 119, 50, 54, 46, 77, 97, 114, 107, 115, 82, 97, 119, 32, 98, 111, 117, 115, 116, 114, 111, 112, 104, 101, 100, 111, 110, 47, 98, 111, 117, 115, 116, 114, 111, 112, 104, 101, 100, 111, 110, 108, 97, 119, 51, 53, 46, 83, 101, 108, 101, 99, 116, 115, 80, 108, 97, 99, 101, 115, 32, 98, 111, 117, 115, 116, 114, 111, 112, 104, 101, 100, 111, 110, 47, 98, 111, 117, 115, 116, 114, 111, 112, 104, 101, 100, 111, 110, 108, 97, 119, 50, 53, 46, 79, 114, 100, 101, 114, 86, 105, 115, 117, 97, 108, 32, 98, 111, 117, 115, 116, 114, 111, 112, 104, 101, 100, 111, 110, 47, 98, 111, 117, 115, 116, 114, 111, 112, 104, 101, 100, 111, 110, 108, 97, 119, 50, 53, 46, 79, 114, 100, 101, 114, 66, 97, 99, 107, 32, 98, 111, 117, 115, 116, 114, 111, 112, 104, 101, 100, 111, 110, 47, 98, 111, 117, 115, 116, 114, 111, 112, 104, 101, 100, 111, 110, 108, 97, 119, 50, 53, 46, 79, 114, 100, 101, 114, 66, 111, 116, 104, 32, 98, 111, 117, 115, 116, 114, 111, 112, 104, 101, 100, 111, 110, 47, 98, 111, 117, 115, 116, 114, 111, 112, 104, 101, 100, 111, 110, 108, 97, 119, 50, 53, 46, 79, 114, 100, 101, 114, 84, 119, 111, 32, 98, 111, 117, 115, 116, 114, 111, 112, 104, 101, 100, 111, 110, 47, 98, 111, 117, 115, 116, 114, 111, 112, 104, 101, 100, 111, 110, 108, 97, 119, 50, 53, 46, 79, 114, 100, 101, 114, 80, 97, 114, 116, 115, 32, 98, 111, 117, 115, 116, 114, 111, 112, 104, 101, 100, 111, 110, 47, 98, 111, 117, 115, 116, 114, 111, 112, 104, 101, 100, 111, 110, 108, 97, 119, 50, 54, 46, 77, 97, 114, 107, 115, 70, 105, 120, 32, 98, 111, 117, 115, 116, 114, 111, 112, 104, 101, 100, 111, 110, 47, 98, 111, 117, 115, 116, 114, 111, 112, 104, 101, 100, 111, 110, 108, 97, 119, 50, 54, 46, 77, 97, 114, 107, 115, 66, 97, 115, 101, 32, 98, 111, 117, 115, 116, 114, 111, 112, 104, 101, 100, 111, 110, 47, 98, 111, 117, 115, 116, 114, 111, 112, 104, 101, 100, 111, 110, 108, 97, 119, 50, 54, 46, 77, 97, 114, 107, 115, 75, 101, 101, 112, 32, 98, 111, 117, 115, 116, 114, 111, 112, 104, 101, 100, 111, 110, 47, 98, 111, 117, 115, 116, 114, 111, 112, 104, 101, 100, 111, 110, 108, 97, 119, 51, 53, 46, 83, 101, 108, 101, 99, 116, 115, 66, 97, 99, 107].map Char.ofNat
theorem head_eq : Try.prog.initOrder = String.ofList (headA ++ Char.ofNat 32 :: (headB ++ Char.ofNat 32 :: (headC ++ Char.ofNat 32 :: headD))) := by kernel_rfl
theorem head_gen {s : String} {a b c d : List Char} (h : s = String.ofList (a ++ Char.ofNat 32 :: (b ++ Char.ofNat 32 :: (c ++ Char.ofNat 32 :: d)))) (ha : a.all (fun c => c != Char.ofNat 32) = true) (hb : b.all (fun c => c != Char.ofNat 32) = true) (hc : c.all (fun c => c != Char.ofNat 32) = true)
    (hm : (a == "harness".toList) = true) (hs : isSumSigns b = true) : ∃ r, behindMainWord (wordsSigns s.toList) = c :: r := by
  refine ⟨wordsSigns d, ?_⟩
  rw [h, String.toList_ofList, words_cut _ _ ha, words_cut _ _ hb, words_cut _ _ hc]
  simp only [behindMainWord, hm, hs, Bool.true_or, Bool.true_and, if_true]
theorem head_words : ∃ r, behindMainWord (wordsSigns Try.prog.initOrder.toList) = headC :: r :=
  head_gen head_eq (by kernel_rfl) (by kernel_rfl) (by kernel_rfl) (by kernel_rfl) (by kernel_rfl)
theorem enter_gen (P : Program) (c : List Char) (r : List (List Char)) (hr : behindMainWord (wordsSigns P.initOrder.toList) = c :: r) (h4 : P.laysLater = false) (h5 : P.bearsReflect = false) (h6 : P.doorFits [] = true)
    (a3 : stripLifts liftWords (c :: r) = ([], c :: r)) (b4 : (some c == some "cut".toList) = true) : P.mayEnter = true := by
  unfold Program.mayEnter
  rw [hr]
  simp only [a3, h4, h5, h6, List.head?_cons, b4]
  simp
theorem lifts_gen (P : Program) (c : List Char) (r : List (List Char)) (hr : behindMainWord (wordsSigns P.initOrder.toList) = c :: r)
    (a3 : stripLifts liftWords (c :: r) = ([], c :: r)) (b4 : (some c == some "cut".toList) = true) (b5 : (some c == some "carried".toList) = false) : P.liftsFinal = false := by
  unfold Program.liftsFinal Program.headLifts
  rw [hr]
  simp only [a3, List.head?_cons, b4, b5]
  simp
theorem make_gen (P : Program) (c : List Char) (r : List (List Char)) (hr : behindMainWord (wordsSigns P.initOrder.toList) = c :: r)
    (b1 : (c == "gc".toList) = false) (b2 : (c == "spec".toList) = false) (b3 : (c == "cut".toList) = true) : P.make = some .cut := by
  unfold Program.make
  rw [hr]
  simp only [b1, b2, b3]
  simp
theorem strip_cut (r : List (List Char)) : stripLifts liftWords (headC :: r) = ([], headC :: r) := by kernel_rfl
theorem enter_ok : Try.prog.mayEnter = true := by
  obtain ⟨r, hr⟩ := head_words
  exact enter_gen Try.prog _ r hr (by kernel_rfl) (by kernel_rfl) (by kernel_rfl) (strip_cut r) (by kernel_rfl)
theorem lifts_ok : Try.prog.liftsFinal = false := by
  obtain ⟨r, hr⟩ := head_words
  exact lifts_gen Try.prog _ r hr (strip_cut r) (by kernel_rfl) (by kernel_rfl)
theorem make_ok : Try.prog.make = some .cut := by
  obtain ⟨r, hr⟩ := head_words
  exact make_gen Try.prog _ r hr (by kernel_rfl) (by kernel_rfl) (by kernel_rfl)
/-- The closed facts of a row, those that read the head line taken from above. -/
theorem closed_gen {P : Program} {f : FuncId} {fn : Func} {s : ChangeSpec} {c : OpenClaim} (he : P.mayEnter = true) (hl : P.liftsFinal = false) (hm : P.make = some .cut)
    (h1 : (c.wf (OpenSpec.ofChange s) && laidOutB P && mapsRowed P && fn.params.all (P.readableRec ·) && namedTie P c.named s.vars && (c.stops == []) && (P.stops == []) && (c.knobs == []) && (P.stopKnobs == [])) = true)
    (h2 : (c.inPlace == P.inPlace f) = true) (h3 : (c.unfollowed == P.unfollowed f) = true) (h4 : (c.recurses == P.recurses f) = true) (h5 : (c.named == P.varsNamed f) = true)
    (h6 : ((c.maps == (fn.params.toList ++ s.plain.varTypes P).any (P.mapsRec ·)) && (c.ifaces == (fn.params.toList ++ s.plain.varTypes P).any (P.ifacesRec ·)) && (c.mapsOut == P.mapsAmong fn.resultTypes.toList) &&
      (c.loops == (fn.params.toList ++ s.plain.varTypes P).any (P.loopsFrom ·)) && (c.wideKeys == (fn.params.toList ++ s.plain.varTypes P ++ fn.resultTypes.toList).any (P.wideKeysFrom ·)) &&
      s.vars.all (P.varReadable ·) && fn.resultTypes.all (fun t => P.readableRec t && decide (t < P.types.size)) && (c.ifacesOut == fn.resultTypes.toList.any (P.ifacesRec ·)) && (c.loopsOut == fn.resultTypes.toList.any (P.loopsFrom ·)) && (c.plainKeys == P.plainKeys) && c.shortTexts.isNone && P.stopsHeard) = true)
    (h7 : ((c.lifted == false) && ((some Make.cut) == some c.make)) = true)
    (h8 : ((c.kinds == (if c.domain.isEmpty then [] else fn.params.toList.map fun t => match P.underlying t with | some (.int k) => some k | _ => none)) && (c.pinned == c.pinnedBy) &&
      (c.veiled == (fn.params.toList ++ s.plain.varTypes P ++ fn.resultTypes.toList).any (P.veiledRec ·)) && c.veiledFits P fn.params.toList (fn.params.toList ++ s.plain.varTypes P ++ fn.resultTypes.toList)) = true) :
    joinedFacts P f fn s c = true := by
  unfold joinedFacts
  simp only [Bool.and_eq_true, and_assoc] at h1 h6 h7 h8 ⊢
  obtain ⟨a1, a2, a3, a4, a5, a6, a7, a8, a9⟩ := h1
  obtain ⟨b1, b2, b3, b4, b5, b6, b7, b8, b9, b10, b11, b12⟩ := h6
  obtain ⟨d1, d2, d3, d4⟩ := h8
  exact ⟨a1, a2, a3, a4, a5, a6, a7, a8, a9, h2, h3, h4, h5, b1, b2, b3, b4, b5, b6, b7, b8, b9, b10, b11, b12, he, by rw [hl]; exact h7.1, by rw [hm]; exact h7.2, d1, d2, d3, d4⟩

theorem laidOut : laidOutB Try.prog = true := by kernel_rfl

theorem bulk_one {H : Type} (d : DataW H) : 1 ≤ Rows.uptoBulk d := by
  cases d with
  | lit l => cases l <;> simp [Rows.uptoBulk]
  | nil => simp [Rows.uptoBulk]
  | ptr d => simp [Rows.uptoBulk]
  | slice elems spare => simp [Rows.uptoBulk]
  | agg parts => simp [Rows.uptoBulk]
  | iface t d => simp [Rows.uptoBulk]
  | map entries => simp [Rows.uptoBulk]
  | held h => simp [Rows.uptoBulk]
theorem bulk_length {H : Type} (l : List (DataW H)) : l.length ≤ Rows.uptoBulkAll l := by
  induction l with
  | nil => simp
  | cons x r ih => have := bulk_one x; simp only [Rows.uptoBulkAll, List.length_cons]; omega

theorem bytes_of_wf {zs : List Int} (h : ∀ x ∈ zs, (Lit.int .u8 x).wf = true) : ∀ x ∈ zs, 0 ≤ x ∧ x ≤ 255 := fun x hx => by
  have := h x hx
  simpa [Lit.wf, IntKind.min, IntKind.max, IntKind.signed, IntKind.bits] using this
theorem i64s_of_wf {zs : List Int} (h : ∀ x ∈ zs, (Lit.int .i64 x).wf = true) : ∀ x ∈ zs, -9223372036854775808 ≤ x ∧ x ≤ 9223372036854775807 := fun x hx => by
  have := h x hx
  simpa [Lit.wf, IntKind.min, IntKind.max, IntKind.signed, IntKind.bits] using this
theorem i32s_of_wf {zs : List Int} (h : ∀ x ∈ zs, (Lit.int .i32 x).wf = true) : ∀ x ∈ zs, -2147483648 ≤ x ∧ x ≤ 2147483647 := fun x hx => by
  have := h x hx
  simpa [Lit.wf, IntKind.min, IntKind.max, IntKind.signed, IntKind.bits] using this
theorem u8_of_wf {x : Int} (h : (Lit.int .u8 x).wf = true) : 0 ≤ x ∧ x ≤ 255 := by
  simpa [Lit.wf, IntKind.min, IntKind.max, IntKind.signed, IntKind.bits] using h
theorem i64_of_wf {x : Int} (h : (Lit.int .i64 x).wf = true) : -9223372036854775808 ≤ x ∧ x ≤ 9223372036854775807 := by
  simpa [Lit.wf, IntKind.min, IntKind.max, IntKind.signed, IntKind.bits] using h
theorem i32_of_wf {x : Int} (h : (Lit.int .i32 x).wf = true) : -2147483648 ≤ x ∧ x ≤ 2147483647 := by
  simpa [Lit.wf, IntKind.min, IntKind.max, IntKind.signed, IntKind.bits] using h

/-- Opening a slice of integers. -/
theorem open_rd {H : Type} {enc : TypeId × Value → H} {P : Program} {W : World} {t e : TypeId} {K : IntKind} {base : Nat} (ht : P.underlying t = some (.slice e)) (he : P.underlying e = some (.int K)) (hc : P.cellsOf e = 1)
    {v : Value} {d : DataW H} {p : List MemPlace} (hv : Value.okWide P W .any base t v) (h : DataW.Trod enc P W 0 (fun _ => true) true t v d p) :
    ∃ A n c zs, v = .slice A n c ∧ zs.length = n ∧ n ≤ c ∧ RdI K W A zs ∧ (∀ x ∈ zs, (Lit.int K x).wf = true) ∧ n + 1 ≤ Rows.uptoBulk d ∧
      (n = 0 ∨ ∃ el sp, d = .slice el sp ∧ n ≤ el.length + sp.length) := by
  obtain ⟨A, n, c, rfl⟩ := okWide_slice ht hv
  obtain ⟨fuel, hf⟩ := h
  rcases open_ints ht he hc hf with ⟨hcs, hx⟩ | ⟨x, l, c', zs, hcs, _, hl, hm, hz, hx, hcell, hwz⟩
  · simp [Value.cells] at hcs
    obtain ⟨rfl, rfl, rfl⟩ := hcs
    exact ⟨none, 0, 0, [], rfl, rfl, Nat.le_refl _, RdI.nil _ _ _, by simp, by simpa using bulk_one d, .inl rfl⟩
  · simp [Value.cells] at hcs
    obtain ⟨rfl, rfl, rfl⟩ := hcs
    simp only [if_true] at hz
    simp only [Prod.mk.injEq] at hx
    obtain ⟨rfl, rfl⟩ := hx
    have hlen : (zs.take n).length = n := by simp; omega
    refine ⟨some x, n, c, zs.take n, rfl, hlen, hl, ?_, fun y hy => hwz y (List.mem_of_mem_take hy), ?_, ?_⟩
    · intro k u hu
      have hk : k < n := by have := (List.getElem?_eq_some_iff.1 hu).1; rw [List.length_map, hlen] at this; exact this
      have h1 := hcell k (by omega)
      have hu' : u = .int K (zs.getD k 0) := by
        rw [List.getElem?_map, List.getElem?_take, if_pos hk] at hu
        rw [List.getD_eq_getElem?_getD]
        cases hz' : zs[k]? with
        | none => rw [hz'] at hu; simp at hu
        | some y => rw [hz'] at hu; simp at hu; simp [hu]
      subst hu'
      exact ⟨x, rfl, h1⟩
    · have h1 := bulk_length (H := H) (lits K (zs.take n))
      have h2 : (lits (H := H) K (zs.take n)).length = n := by rw [lits, List.length_map, hlen]
      simp only [Rows.uptoBulk]
      omega
    · exact .inr ⟨_, _, rfl, by simp [lits]; omega⟩

theorem bulk_of {H : Type} {l : List (DataW H)} (hk : Rows.uptoSmall H l = true) : Rows.uptoBulkAll l ≤ 1048576 := of_decide_eq_true hk
theorem bytes3 : Try.prog.bytesOf 3 = 8 := by kernel_rfl
/-- The form's own reach: a slice of int has at most 2^44 elements. -/
theorem reach_int {H : Type} {ts : List TypeId} {ds : List (DataW H)} (h : (DataW.weightsEach Try.prog ts ds).all (· ≤ reachBytes) = true) {j : Nat} {t : TypeId} {d : DataW H} (ht : ts[j]? = some t) (hd : ds[j]? = some d) (hu : Try.prog.underlying t = some (.slice 3))
    {n : Nat} (hn : n = 0 ∨ ∃ el sp, d = .slice el sp ∧ n ≤ el.length + sp.length) : n ≤ 17592186044416 := by
  rcases hn with rfl | ⟨el, sp, rfl, hn⟩
  · omega
  · have := sized_slice h ht hd hu
    rw [bytes3] at this
    simp only [reachBytes] at this
    omega
end Go.Proofs.Ytamfjmonpbojnaa
