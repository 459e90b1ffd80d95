/-
  The walk of ParaJoins.
-/
import Derived.Test.YtkdgkjodllgalaaJoinPlain
import Derived.Test.YtkdgkjodllgalaaSplitsPlain
import Derived.Test.YtkdgkjodllgalaaParaCountWalk
import Derived.Deep.RegionWith
import Derived.Deep.DeepCutAuto
import Derived.Deep.QuietTactic
import Derived.BigQuiet
import Derived.WalkSmall
namespace Go.Proofs.Ytkdgkjodllgalaa
open Go.RowKit

theorem min2_run (n1 n2 N : Nat) (h : N = min n1 n2) : ∀ (w : World) (ts : Array TypeId) (t : TypeId), (Builtin.min_ ts t #[.int .i64 (n1 : Int), .int .i64 (n2 : Int)]).run Try.prog w = .ok (.int .i64 (N : Int)) w := by
  intro w ts t
  simp [Builtin.min_, Builtin.min2]
  split <;> omega
theorem RdI.take {K : IntKind} {w : World} {A : Option Addr} {zs : List Int} (h : RdI K w A zs) (k : Nat) : RdI K w A (zs.take k) := by
  intro j u hu
  refine h j u ?_
  rw [List.map_take, List.getElem?_take] at hu
  split at hu
  · exact hu
  · cases hu
/-- append of a whole slice of numbers to a row of the call's own. -/
theorem wpList_catT (w : World) {ops : Array Oper} {rest : List Oper} {o : Oper} {a : Act} {Q : Exit → Act → World → Prop} (hgd : o.guard = none) (s x : Operand) (t : TypeId)
    (ho : o.op = .call { callee := .builtin .append, args := #[s, x], argTypes := #[t, t] })
    (B : Nat) (e : TypeId) (K : IntKind) (bytes : Nat) (ht : Try.prog.underlying t = some (.slice e)) (hinfo : (Try.prog.info? e).map (fun i => (i.zero, i.size, i.bytes)) = some (some (.int K 0), 1, bytes)) (hbytes : bytes ≤ 24)
    (v : Value) (zs : List Int) (hs : a.eval s = v) (hown : OwnT e K w B v zs)
    (A : Option Addr) (m c : Nat) (ys : List Int) (hx : a.eval x = .slice A m c) (hm : ys.length = m) (hr : RdI K w A ys)
    (hn : zs.length + m ≤ 4294967296) (hbase : B ≤ w.heap.size)
    (h : ∀ v' w', OwnT e K w' B v' (zs ++ ys) → w.grownBy w' v.ownBlock → wpList Try.prog ops Q rest (a.put o.dst v') w') : wpList Try.prog ops Q (o :: rest) a w :=
  wpList_cat w hgd s x t ho B e _ bytes ht hinfo rfl v _ _ hs hown A m c _ hx (by simpa using hm) hr (by intro u hu; obtain ⟨y, _, rfl⟩ := List.mem_map.1 hu; rfl) hn hbytes hbase fun v' w' h1 h2 => h v' w' (by unfold OwnT; simpa [hm] using h1) h2
/-- append of one number to a row of the call's own. -/
theorem wpList_pushT (w : World) {ops : Array Oper} {rest : List Oper} {o : Oper} {a : Act} {Q : Exit → Act → World → Prop} (hgd : o.guard = none) (s x : Operand) (t : TypeId)
    (ho : o.op = .call { callee := .builtin .append, args := #[s, x], argTypes := #[t, t] })
    (B : Nat) (e : TypeId) (K : IntKind) (bytes : Nat) (ht : Try.prog.underlying t = some (.slice e)) (hinfo : (Try.prog.info? e).map (fun i => (i.zero, i.size, i.bytes)) = some (some (.int K 0), 1, bytes)) (hbytes : bytes ≤ 24)
    (v : Value) (zs : List Int) (hs : a.eval s = v) (hown : OwnT e K w B v zs)
    (g : Nat) (u : Int) (hx : a.eval x = .slice (some ⟨g, 0, none⟩) 1 1) (hu : w.cell? ⟨g, 0, none⟩ = some (.int K u))
    (hn : zs.length ≤ 4294967296) (hbase : B ≤ w.heap.size)
    (h : ∀ v' w', OwnT e K w' B v' (zs ++ [u]) → w.grownBy w' v.ownBlock → wpList Try.prog ops Q rest (a.put o.dst v') w') : wpList Try.prog ops Q (o :: rest) a w :=
  wpList_push w hgd s x t ho B e _ bytes ht hinfo rfl v _ _ hs hown g _ hx hu rfl hn hbytes hbase fun v' w' h1 h2 => h v' w' (by unfold OwnT; simpa using h1) h2
theorem chain_at {z : List (Int × Int)} : ∀ {ps : List Par} {a : Nat}, Chain z a ps → ∀ p ∈ ps, ∃ b c part : Nat, p = ((b : Int), (c : Int), (part : Int)) ∧ c ≤ z.length ∧ b ≤ z.length ∧ part ≤ 2
  | [], _, _, p, hp => by cases hp
  | q :: r, a, h, p, hp => by
    obtain ⟨b, part, rfl, hok, hnext⟩ := h
    rcases List.mem_cons.1 hp with rfl | hp
    · exact ⟨a, b, part, rfl, hok.le, by have := hok.lt; have := hok.le; omega, hok.two⟩
    · exact chain_at hnext p hp
theorem splits_len2 (z : List (Int × Int)) : ∀ (ps : List Par) (a : Nat), Chain z a ps → ps.length + a ≤ z.length
  | [], a, h => by have : a = z.length := h; simp; omega
  | p :: r, a, h => by
    obtain ⟨b, part, _, hok, hr⟩ := h
    have := splits_len2 z r b hr
    have := hok.lt
    simp; omega
theorem zip_snoc {us bs : List Int} (h : us.length = bs.length) (x y : Int) (cs ds : List Int) : (us ++ x :: cs).zip (bs ++ y :: ds) = us.zip bs ++ (x, y) :: cs.zip ds := by
  rw [List.zip_append h]; rfl

set_option maxRecDepth 100000 in
set_option maxHeartbeats 4000000 in
theorem paraJoins_walk (A0 : Option Addr) (n0 c0 : Nat) (rs : List Int) (A1 : Option Addr) (n1 c1 : Nat) (ns : List Int) (A2 : Option Addr) (n2 c2 : Nat) (more : List Int) (A3 : Option Addr) (n3 c3 : Nat) (ms : List Int) (w : World)
    (h0 : rs.length = n0) (h1 : ns.length = n1) (h2 : more.length = n2) (h3 : ms.length = n3) (r0 : RdI .i32 w A0 rs) (r1 : RdI .u8 w A1 ns) (r2 : RdI .i32 w A2 more) (r3 : RdI .u8 w A3 ms)
    (z1 : Bytes ns) (z3 : Bytes ms) (b0 : n0 ≤ 1048576) (b1 : n1 ≤ 1048576) (b2 : n2 ≤ 1048576) (b3 : n3 ≤ 1048576) (hc0 : n0 ≤ c0) (hc2 : n2 ≤ c2) :
    Calls Try.prog 7 #[.slice A0 n0 c0, .slice A1 n1 c1, .slice A2 n2 c2, .slice A3 n3 c3] w fun e w' => e = .returned (.bool true) ∧ Below w.heap.size w w' := by
  obtain ⟨N, hN⟩ : ∃ N, N = min n0 n1 := ⟨_, rfl⟩
  obtain ⟨M, hM⟩ : ∃ M, M = min n2 n3 := ⟨_, rfl⟩
  have hmin := min2_run n0 n1 N hN
  have hmin2 := min2_run n2 n3 M hM
  have H0 := Lib.hid h0
  have H1 := Lib.hid h1
  have H2 := Lib.hid h2
  have H3 := Lib.hid h3
  have hN0 : N ≤ n0 := by omega
  have hN1 : N ≤ n1 := by omega
  have hM2 : M ≤ n2 := by omega
  have hM3 : M ≤ n3 := by omega
  have K1 : Hid ((rs.take N).length = N) := Lib.hid (by simp; omega)
  have K2 : Hid (((classesF ns).take N).length = N) := Lib.hid (by simp [classesF]; omega)
  have K3 : Hid ((more.take M).length = M) := Lib.hid (by simp; omega)
  have K4 : Hid (((classesF ms).take M).length = M) := Lib.hid (by simp [classesF]; omega)
  have J1 : Hid ((classesF ns).length = n1) := Lib.hid (by simp [classesF]; omega)
  have J2 : Hid ((classesF ms).length = n3) := Lib.hid (by simp [classesF]; omega)
  clear h0 h1 h2 h3 hN hM
  go_enter Try.func7, Try.ntmps7
  go_wp2_with fail
  refine (awake08_any _).mono ?_
  rintro e w1 ⟨rfl, hb1⟩
  go_wp2_with fail
  refine (classes_any _ n1 _ ns _ H1.out (r1.below hb1) z1 (by omega)).mono ?_
  rintro e w2 ⟨v, rfl, hown, hb2⟩
  have bb2 := hb1.trans (hb2.mono hb1.size)
  obtain ⟨Aa, ca, rfl, hca, da⟩ := hown.open_
  rw [J1.out] at hca ⊢
  clear hown hb1 hb2
  go_wp2_with fail
  refine (classes_any _ n3 _ ms _ H3.out (r3.below bb2) z3 (by omega)).mono ?_
  rintro e w3 ⟨v, rfl, hown, hb3⟩
  have bb3 := bb2.trans (hb3.mono bb2.size)
  obtain ⟨Ab, cb, rfl, hcb, db⟩ := hown.open_
  rw [J2.out] at hcb ⊢
  have da := (da.below hb3).take N
  have db := db.take M
  have r0 := (r0.below bb3).take N
  have r2 := (r2.below bb3).take M
  clear hown hb3 bb2 r1 r3
  generalize rs.take N = R1 at *
  generalize (classesF ns).take N = C1 at *
  generalize more.take M = R2 at *
  generalize (classesF ms).take M = C2 at *
  go_wp2_with (first
    | (at_builtin; refine wpList_catT _ rfl (.tmp 36) (.tmp 39) 29 rfl w3.heap.size 21 .i32 4 Try.underlying29 info21 (by omega) _ [] rfl (OwnT.nil _ _ _ _) A0 N c0 R1 rfl K1.out r0 (by simp; omega) (Nat.le_refl _) ?_))
  intro v4 w4 oA gr
  have hb4 : Below w3.heap.size w3 w4 := below_cat (Below.refl _ _) (Nat.le_refl _) (OwnT.nil 21 .i32 w3 w3.heap.size) gr
  have s4 := hb4.size
  clear gr
  have da4 := da.below hb4
  go_wp2_with (first
    | (at_builtin; refine wpList_catT _ rfl (.tmp 41) (.tmp 44) 28 rfl w3.heap.size 25 .u8 1 Try.underlying28 info25 (by omega) _ [] rfl (OwnT.nil _ _ _ _) Aa N ca C1 rfl K2.out da4 (by simp; omega) s4 ?_))
  intro v5 w5 oC gr
  have hb5 : Below w3.heap.size w3 w5 := below_cat hb4 s4 (OwnT.nil 25 .u8 w4 w3.heap.size) gr
  have oA5 : OwnT 21 .i32 w5 w3.heap.size v4 R1 := own_kept_ne oA (OwnT.nil 25 .u8 w4 w3.heap.size) (by decide) gr
  have s5 := hb5.size
  have oA5 : OwnT 21 .i32 w5 w3.heap.size v4 R1 := oA5
  clear gr oA da4 hb4 s4
  have l1 : ([] ++ R1).length ≤ 1048576 := by simp [K1.out]; omega
  have l2 : ([] ++ C1).length ≤ 1048576 := by simp [K2.out]; omega
  go_wp2_with (first
    | (at_builtin; refine wpList_pushT _ rfl (.tmp 46) (.tmp 47) 29 rfl w3.heap.size 21 .i32 4 Try.underlying29 info21 (by omega) _ _ rfl (oA5.alloc _) w5.heap.size 10 rfl (by simp) (by rw [K1.out]; omega) (by simp; omega) ?_))
  intro v6 w6 oA6 gr
  have hb6 : Below w3.heap.size w3 w6 := below_push hb5 s5 oA5 gr
  have oC6 : OwnT 25 .u8 w6 w3.heap.size v5 ([] ++ C1) := own_kept_ne (oC.alloc _) (oA5.alloc _) (by decide) gr
  have s6 := hb6.size
  clear gr oA5 oC hb5 s5
  go_wp2_with (first
    | (at_builtin; refine wpList_pushT _ rfl (.tmp 49) (.tmp 50) 28 rfl w3.heap.size 25 .u8 1 Try.underlying28 info25 (by omega) _ _ rfl (oC6.alloc _) w6.heap.size 10 rfl (by simp) (by omega) (by simp; omega) ?_))
  intro v7 w7 oC7 gr
  have hb7 : Below w3.heap.size w3 w7 := below_push hb6 s6 oC6 gr
  have oA7 : OwnT 21 .i32 w7 w3.heap.size v6 (R1 ++ [10]) := own_kept_ne (oA6.alloc _) (oC6.alloc _) (by decide) gr
  have oC7 : OwnT 25 .u8 w7 w3.heap.size v7 (C1 ++ [10]) := oC7
  have s7 := hb7.size
  have L1 : Hid ((R1 ++ [10]).length = N + 1) := Lib.hid (by simp [K1.out])
  have L2 : Hid ((C1 ++ [10]).length = N + 1) := Lib.hid (by simp [K2.out])
  have hfirst : Hid ((R1 ++ [10]).zip (C1 ++ [10]) = R1.zip C1 ++ [(10, 10)]) := Lib.hid (by rw [zip_snoc (by rw [K1.out, K2.out])]; rfl)
  have hwhole : Hid ((R1 ++ [10] ++ R2).zip (C1 ++ [10] ++ C2) = R1.zip C1 ++ (10, 10) :: R2.zip C2) := Lib.hid (by rw [List.append_assoc, List.append_assoc, List.singleton_append, List.singleton_append, zip_snoc (by rw [K1.out, K2.out])])
  have L3 : Hid ((R1 ++ [10] ++ R2).length = N + 1 + M) := Lib.hid (by simp [K1.out, K3.out]; omega)
  have L4 : Hid ((C1 ++ [10] ++ C2).length = N + 1 + M) := Lib.hid (by simp [K2.out, K4.out]; omega)
  have hzl : Hid ((R1.zip C1).length = N) := Lib.hid (by rw [List.length_zip, K1.out, K2.out]; omega)
  clear gr oA6 oC6 hb6 s6 l1 l2
  obtain ⟨RA, hRA⟩ : ∃ RA, RA = R1 ++ [10] := ⟨_, rfl⟩
  obtain ⟨CA, hCA⟩ : ∃ CA, CA = C1 ++ [10] := ⟨_, rfl⟩
  rw [← hRA] at oA7 L1 L3 hfirst hwhole
  rw [← hCA] at oC7 L2 L4 hfirst hwhole
  clear hRA hCA
  obtain ⟨A7, ca7, rfl, hca7, dA7⟩ := oA7.open_
  obtain ⟨C7, cc7, rfl, hcc7, dC7⟩ := oC7.open_
  rw [L1.out] at oA7 hca7 ⊢
  rw [L2.out] at oC7 hcc7 ⊢
  go_wp2_with fail
  refine (split_any _ (N + 1) _ RA _ (N + 1) _ CA _ L1.out L2.out dA7 dC7 (by omega) (by omega)).mono ?_
  rintro e w8 ⟨v8, rfl, oF, hb8⟩
  rw [hfirst.out] at oF
  have hb78 := hb7.trans (hb8.mono s7)
  have oA8 := oA7.below hb8 (Nat.le_refl _)
  have oC8 := oC7.below hb8 (Nat.le_refl _)
  have s8 := hb78.size
  have oF := oF.mono s7
  have r28 := r2.below hb78
  clear hb8 oA7 oC7 hb7 dA7 dC7
  go_wp2_with (first
    | (at_builtin; refine wpList_catT _ rfl (.tmp 55) (.tmp 58) 29 rfl w3.heap.size 21 .i32 4 Try.underlying29 info21 (by omega) _ RA rfl oA8 A2 M c2 R2 rfl K3.out r28 (by rw [L1.out]; omega) s8 ?_))
  intro v9 w9 oA9 gr
  have hb9 : Below w3.heap.size w3 w9 := below_cat hb78 s8 oA8 gr
  have oC9 : OwnT 25 .u8 w9 w3.heap.size _ CA := own_kept_ne oC8 oA8 (by decide) gr
  have oF9 : OwnP w9 w3.heap.size v8 _ := own_kept_ne oF oA8 (by decide) gr
  have s9 := hb9.size
  have db9 := db.below hb9
  clear gr oA8 oC8 oF hb78 s8 s7 r28
  go_wp2_with (first
    | (at_builtin; refine wpList_catT _ rfl (.tmp 60) (.tmp 63) 28 rfl w3.heap.size 25 .u8 1 Try.underlying28 info25 (by omega) _ CA rfl oC9 Ab M cb C2 rfl K4.out db9 (by rw [L2.out]; omega) s9 ?_))
  intro v10 w10 oC10 gr
  have hb10 : Below w3.heap.size w3 w10 := below_cat hb9 s9 oC9 gr
  have oA10 : OwnT 21 .i32 w10 w3.heap.size v9 (RA ++ R2) := own_kept_ne oA9 oC9 (by decide) gr
  have oF10 : OwnP w10 w3.heap.size v8 _ := own_kept_ne oF9 oC9 (by decide) gr
  have s10 := hb10.size
  have r210 := r2.below hb10
  have db10 := db.below hb10
  clear gr oA9 oC9 oF9 hb9 s9 db9
  obtain ⟨RW, hRW⟩ : ∃ RW, RW = RA ++ R2 := ⟨_, rfl⟩
  obtain ⟨CW, hCW⟩ : ∃ CW, CW = CA ++ C2 := ⟨_, rfl⟩
  rw [← hRW] at oA10 L3 hwhole
  rw [← hCW] at oC10 L4 hwhole
  clear hRW hCW
  obtain ⟨A10, ca10, rfl, _, dA10⟩ := oA10.open_
  obtain ⟨C10, cc10, rfl, _, dC10⟩ := oC10.open_
  obtain ⟨AF, cF, rfl, _, dF⟩ := oF10.open_
  rw [L3.out, L4.out]
  have hW : Hid (splitF (RW.zip CW) 0 0 = splitF (R1.zip C1 ++ [(10, 10)]) 0 0 ++ (splitF (R2.zip C2) 0 0).map (shiftP (N + 1))) := Lib.hid (by rw [hwhole.out, split_both, hzl.out])
  have hSat : Hid (∀ p ∈ splitF (R2.zip C2) 0 0, ∃ b c part : Nat, p = ((b : Int), (c : Int), (part : Int)) ∧ c ≤ M ∧ b ≤ M ∧ part ≤ 2) := Lib.hid (fun p hp => by
    obtain ⟨b, c, part, e, h1, h2, h3⟩ := chain_at (chain_all _) p hp
    have hl : (R2.zip C2).length = M := by rw [List.length_zip, K3.out, K4.out]; omega
    rw [hl] at h1 h2
    exact ⟨b, c, part, e, h1, h2, h3⟩)
  have KW : ∀ w', Below w10.heap.size w10 w' → Calls Try.prog 19 #[.slice A10 (N + 1 + M) ca10, .slice C10 (N + 1 + M) cc10] w' fun e w'' => ∃ v, e = .returned v ∧ OwnP w'' w10.heap.size v (splitF (R1.zip C1 ++ [(10, 10)]) 0 0 ++ (splitF (R2.zip C2) 0 0).map (shiftP (N + 1))) ∧ Below w10.heap.size w10 w'' ∧ Below w'.heap.size w' w'' := fun w' hb =>
    (split_any _ (N + 1 + M) _ RW _ (N + 1 + M) _ CW _ L3.out L4.out (dA10.below hb) (dC10.below hb) (by omega) (by omega)).mono fun e w'' ⟨v, e1, e2, e3⟩ => ⟨v, e1, by rw [← hW.out]; exact e2.mono hb.size, hb.trans (e3.mono hb.size), e3⟩
  have KS : ∀ w', Below w10.heap.size w10 w' → Calls Try.prog 19 #[.slice A2 M c2, .slice Ab M cb] w' fun e w'' => ∃ v, e = .returned v ∧ OwnP w'' w10.heap.size v (splitF (R2.zip C2) 0 0) ∧ Below w10.heap.size w10 w'' ∧ Below w'.heap.size w' w'' := fun w' hb =>
    (split_any _ M _ R2 _ M _ C2 _ K3.out K4.out (r210.below hb) (db10.below hb) (by omega) (by omega)).mono fun e w'' ⟨v, e1, e2, e3⟩ => ⟨v, e1, e2.mono hb.size, hb.trans (e3.mono hb.size), e3⟩
  have HKW := Lib.hid KW
  have HKS := Lib.hid KS
  clear KW KS
  generalize splitF (R1.zip C1 ++ [(10, 10)]) 0 0 = F at *
  generalize splitF (R2.zip C2) 0 0 = S at *
  have HFl : Hid (F.length = F.length) := Lib.hid rfl
  have q0 := Below.refl w10.heap.size w10
  have i1 : (0 : Int) ≤ (M : Int) := by omega
  have i2 : (M : Int) ≤ (c2 : Int) := by omega
  have i3 : (M : Int) ≤ (cb : Int) := by omega
  go_wp2_with fail
  go_upto_region 14 with (fail)
  go_cut [16, 17] (fun s1 s2 wy => ∃ (wx : World) (AW : Option Addr) (cW : Nat) (AS : Option Addr) (cS : Nat), wx = wy ∧ s1 = .slice AW (F.length + S.length) cW ∧ s2 = .slice AS S.length cS ∧ RdP wx AW (F ++ S.map (shiftP (N + 1))) ∧ RdP wx AS S ∧ Below w10.heap.size w10 wx)
  case first =>
    go_region_with (first
      | (go_at_call_of 19 A10; refine (HKW.out _ ?_).mono ?_; (first | assumption | exact below_drew q0 | exact below_drew (by assumption)); rintro e w11 ⟨v11, rfl, oW11, bW11, bb11⟩)
      | (go_at_call_of 19 Ab; refine (HKS.out _ ?_).mono ?_; (first | assumption | exact below_drew q0 | exact below_drew (by assumption)); rintro e w12 ⟨v12, rfl, oS12, bS12, bb12⟩))
    all_goals
      obtain ⟨AW, cW, rfl, _, dW⟩ := oW11.open_
      obtain ⟨AS, cS, rfl, _, dS⟩ := oS12.open_
      go_wp2_with fail
      go_meet
      first
        | exact ⟨_, AW, cW, AS, cS, rfl, by simp, rfl, dW.below bb12, dS, bS12⟩
        | exact ⟨_, AW, cW, AS, cS, rfl, by simp, rfl, dW, dS.below bb11, bW11⟩
  case rest =>
    obtain ⟨wx, AW, cW, AS, cS, rfl, rfl, rfl, dW, dS, bx⟩ := hcut
    have dF := dF.below bx
    have bb := bb3.trans (hb10.mono bb3.size)
    have bbx := bb.trans (bx.mono bb.size)
    clear dA10 dC10 oA10 oC10 oF10 HKW HKS q0 hb10 bx bb r210 db10 HFl
    obtain ⟨nf, hnf⟩ : ∃ nf, F.length = nf := ⟨_, rfl⟩
    obtain ⟨nn, hnn⟩ : ∃ nn, S.length = nn := ⟨_, rfl⟩
    have HNF := Lib.hid hnf
    have HNN := Lib.hid hnn
    have hfl := splits_len2 _ _ _ (chain_all (RW.zip CW))
    rw [hW.out, List.length_append, List.length_map, List.length_zip, L3.out, L4.out, hnf, hnn] at hfl
    have hnfb : nf + nn ≤ 4194304 := by omega
    rw [hnf, hnn]
    clear hnf hnn hfl
    go_wp2_with fail
    go_loopg [85] (nf + nn + 1) (fun m i wr => ∃ k : Nat, k ≤ nf + nn ∧ m = nf + nn - k + 1 ∧ i = .int .i64 k ∧ Below wx.heap.size wx wr)
    case atStart => exact ⟨0, Nat.zero_le _, rfl, rfl, Below.refl _ _⟩
    case round =>
      obtain ⟨k, hk, hm, rfl, hb⟩ := hrel
      have Hm := Lib.hid hm
      clear hm
      have hbs := hb.size
      by_cases hlt : k < nf + nn
      · by_cases hkf : k < nf
        · obtain ⟨p, hp⟩ : ∃ p, F[k]? = some p := ⟨_, List.getElem?_eq_getElem (by rw [HNF.out]; exact hkf)⟩
          obtain ⟨b, e1, _, x0, x1, x2⟩ := (dW.below hb) k p (by rw [List.getElem?_append_left (by rw [HNF.out]; exact hkf)]; exact hp)
          obtain ⟨b', e2, _, y0, y1, y2⟩ := (dF.below hb) k p hp
          subst e1
          subst e2
          obtain ⟨p0, p1, p2⟩ := p
          simp only at x0 x1 x2 y0 y1 y2
          have d1 : decide (k < nf) = true := decide_eq_true hkf
          have d2 : decide (nf ≤ k) = false := decide_eq_false (by omega)
          clear hp dW dF dS
          go_wp2_with fail
          go_quiet (fail)
          go_wp2_with fail
          go_roundg (nf + nn - k)
          case measure => have := Hm.out; omega
          case rel => exact ⟨k + 1, by omega, by omega, by go_num, below_drewN (hb.alloc hbs _) _⟩
        · obtain ⟨p, hp⟩ : ∃ p, S[k - nf]? = some p := ⟨_, List.getElem?_eq_getElem (by rw [HNN.out]; omega)⟩
          obtain ⟨s0, s1, s2, rfl, hs1, hs0, hs2⟩ := hSat.out p (List.mem_of_getElem? hp)
          obtain ⟨b, e1, _, x0, x1, x2⟩ := (dW.below hb) k (shiftP (N + 1) ((s0 : Int), (s1 : Int), (s2 : Int))) (by rw [List.getElem?_append_right (by rw [HNF.out]; omega), HNF.out, List.getElem?_map, hp]; rfl)
          obtain ⟨b', e2, _, y0, y1, y2⟩ := (dS.below hb) (k - nf) _ hp
          subst e1
          subst e2
          simp only [shiftP] at x0 x1 x2 y0 y1 y2
          obtain ⟨P0, hP0⟩ : ∃ P0 : Int, P0 = (s0 : Int) + ((N + 1 : Nat) : Int) := ⟨_, rfl⟩
          obtain ⟨P1, hP1⟩ : ∃ P1 : Int, P1 = (s1 : Int) + ((N + 1 : Nat) : Int) := ⟨_, rfl⟩
          rw [← hP0] at x0
          rw [← hP1] at x1
          have t0 : (P0 - (N : Int) - 1 != (s0 : Int)) = false := by simp; omega
          have t1 : (P1 - (N : Int) - 1 != (s1 : Int)) = false := by simp; omega
          have q0 : 0 ≤ P0 ∧ P0 ≤ 4294967296 := by omega
          have q1 : 0 ≤ P1 ∧ P1 ≤ 4294967296 := by omega
          obtain ⟨q01, q02⟩ := q0
          obtain ⟨q11, q12⟩ := q1
          have d1 : decide (k < nf) = false := decide_eq_false hkf
          have d2 : decide (nf ≤ k) = true := decide_eq_true (by omega)
          have hkn : nf ≤ k := by omega
          clear hp dW dF dS hP0 hP1
          go_wp2_with fail
          go_quiet (fail)
          go_wp2_with fail
          go_roundg (nf + nn - k)
          case measure => have := Hm.out; omega
          case rel => exact ⟨k + 1, by omega, by omega, by go_num, below_drewN (hb.alloc hbs _) _⟩
      · go_wp2_with fail
        go_ret
        exact ⟨rfl, bbx.trans (hb.mono bbx.size)⟩
end Go.Proofs.Ytkdgkjodllgalaa