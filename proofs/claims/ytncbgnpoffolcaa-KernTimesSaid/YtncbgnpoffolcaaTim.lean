/-
  KernTimes: the walk of the law.
-/
import Derived.Test.YtncbgnpoffolcaaWn
import Derived.Test.YtncbgnpoffolcaaSb
import Derived.Test.YtncbgnpoffolcaaTimP
namespace Go.Proofs.Ytncbgnpoffolcaa
open Go.RowKit
def timD (l1 l2 : List Int) (n1 i : Nat) : Int := if i < n1 then prOf l1 i else prOf l2 (i - n1)
theorem timD_lo {l1 l2 : List Int} {n1 i : Nat} (h : i < n1) : timD l1 l2 n1 i = prOf l1 i := if_pos h
theorem timD_hi {l1 l2 : List Int} {n1 i : Nat} : timD l1 l2 n1 (n1 + i) = prOf l2 i := by
  unfold timD
  rw [if_neg (by omega), Nat.add_sub_cancel_left]
/-- What holds of the first j numbers. -/
def TimOk (D : Nat → Int) (j lt : Nat) : Prop := (∀ i, i < j → 0 ≤ D i ∧ D i ≤ 1000 ∧ D i ≤ lt) ∧ lt ≤ 1000 ∧ (lt = 0 ∨ ∃ i, i < j ∧ D i = lt)
theorem TimOk.more {D : Nat → Int} {j lt lt' : Nat} {v : Int} (h : TimOk D j lt) (e1 : D j = v) (h3 : 0 ≤ v) (h4 : v ≤ 1000) (hm : (v ≤ lt ∧ lt' = lt) ∨ ((lt : Int) < v ∧ (lt' : Int) = v)) : TimOk D (j + 1) lt' := by
  obtain ⟨a, b, c⟩ := h
  refine ⟨fun i hi => ?_, by clear a c; omega, ?_⟩
  · by_cases e : i = j
    · clear a c
      subst e
      rw [e1]
      omega
    · have := a i (by clear a c; omega)
      clear a c
      omega
  · rcases hm with ⟨q, rfl⟩ | ⟨q, q2⟩
    · rcases c with c | ⟨i, hi, e⟩
      · exact .inl c
      · exact .inr ⟨i, by omega, e⟩
    · exact .inr ⟨j, by clear a c; omega, by rw [e1, q2]⟩
theorem timesF_lo {D : Nat → Int} {ns i : Nat} {v : Int} (h : i < ns) (e : D i = v) : Kn.timesF D ns i = ⟨(i : Int), [⟨2, v, 0⟩]⟩ := by
  unfold Kn.timesF Kn.timesPr
  rw [if_pos h, if_pos h, e]
theorem timesF_hi {D : Nat → Int} {ns i : Nat} {v : Int} (h : ¬ i < ns) (e : D i = v) : Kn.timesF D ns i = ⟨31, [⟨3, 0, v⟩]⟩ := by
  unfold Kn.timesF Kn.timesPr
  rw [if_neg h, if_neg h, e]
theorem times_fits' {D : Nat → Int} {ns n : Nat} (h1 : 1 ≤ n) (h2 : n ≤ 30) (hp : ∀ i, i < n → 0 ≤ D i ∧ D i ≤ 1000) : (Kn.timesT D ns n).fits = true := by
  unfold Kn.Table.fits Kn.timesT
  simp only [Bool.and_eq_true, decide_eq_true_eq, List.all_eq_true, List.length_map, List.length_range]
  refine ⟨⟨⟨by simp; omega, by simp⟩, by simp⟩, ?_⟩
  intro x hx
  obtain ⟨i, hi, rfl⟩ := List.mem_map.1 hx
  have := hp i (List.mem_range.1 hi)
  have := List.mem_range.1 hi
  by_cases q : i < ns
  · rw [timesF_lo q rfl]
    simp [Kn.Task.fits, Kn.opsFit, Kn.Op.fits, Kn.bounds]
    omega
  · rw [timesF_hi q rfl]
    simp [Kn.Task.fits, Kn.opsFit, Kn.Op.fits, Kn.bounds]
    omega
set_option maxRecDepth 100000 in
set_option maxHeartbeats 16000000 in
theorem kernTimes_any {l1 l2 : List Int} {A1 A2 : Option Addr} {c1 c2 : Nat} {w : World} (hr1 : Reads w w.heap.size 1 A1 l1.length (intV l1)) (hm1 : l1.length ≤ maxLen) (hr2 : Reads w w.heap.size 1 A2 l2.length (intV l2)) (hm2 : l2.length ≤ maxLen) (limit : Int) : Calls Try.prog 5 #[.slice A1 l1.length c1, .slice A2 l2.length c2, .int .i64 limit] w fun r w' => r = .returned (.bool true) ∧ Below w.heap.size w w' := by
  have HR1 := Lib.hid hr1
  have HR2 := Lib.hid hr2
  clear hr1 hr2
  unfold maxLen at hm1 hm2
  obtain ⟨i0, hi, iz0, iz1, iz2⟩ := info_parts info29
  by_cases bw : 9223372036854775807 < (l1.length : Int) + l2.length
  · as_aux_lemma =>
      have hwr : IntKind.i64.wrap ((l1.length : Int) + l2.length) = (l1.length : Int) + l2.length - 18446744073709551616 := by rw [IntKind.wrap_i64]; omega
      have hlt1 : (l1.length : Int) + l2.length - 18446744073709551616 < 1 := by omega
      go_enter Try.func5, Try.ntmps5
      go_wp2_with fail
      refine (alive_any w).mono ?_
      rintro e w1 ⟨rfl, hb1⟩
      go_wp2_with fail
      go_ret
      exact ⟨rfl, hb1⟩
  have hwr : IntKind.i64.wrap ((l1.length : Int) + l2.length) = (l1.length : Int) + l2.length := by rw [IntKind.wrap_i64]; omega
  by_cases b0 : (l1.length : Int) + l2.length < 1
  · as_aux_lemma =>
      go_enter Try.func5, Try.ntmps5
      go_wp2_with fail
      refine (alive_any w).mono ?_
      rintro e w1 ⟨rfl, hb1⟩
      go_wp2_with fail
      go_ret
      exact ⟨rfl, hb1⟩
  by_cases b1 : 30 < (l1.length : Int) + l2.length
  · as_aux_lemma =>
      go_enter Try.func5, Try.ntmps5
      go_wp2_with fail
      refine (alive_any w).mono ?_
      rintro e w1 ⟨rfl, hb1⟩
      go_wp2_with fail
      go_ret
      exact ⟨rfl, hb1⟩
  by_cases b2 : limit < 0
  · as_aux_lemma =>
      go_enter Try.func5, Try.ntmps5
      go_wp2_with fail
      refine (alive_any w).mono ?_
      rintro e w1 ⟨rfl, hb1⟩
      go_wp2_with fail
      go_ret
      exact ⟨rfl, hb1⟩
  by_cases b3 : 2000 < limit
  · as_aux_lemma =>
      go_enter Try.func5, Try.ntmps5
      go_wp2_with fail
      refine (alive_any w).mono ?_
      rintro e w1 ⟨rfl, hb1⟩
      go_wp2_with fail
      go_ret
      exact ⟨rfl, hb1⟩
  obtain ⟨N1, hN⟩ : ∃ N, N = l1.length := ⟨_, rfl⟩
  obtain ⟨N2, hN2⟩ : ∃ N, N = l2.length := ⟨_, rfl⟩
  obtain ⟨L, rfl⟩ : ∃ L : Nat, limit = L := ⟨limit.toNat, by omega⟩
  rw [← hN] at b0 b1 hwr HR1
  rw [← hN2] at b0 b1 hwr HR2
  rw [← hN, ← hN2]
  have HN := Lib.hid hN
  have HN2 := Lib.hid hN2
  clear hN hN2 hm1 hm2 bw
  go_enter Try.func5, Try.ntmps5
  go_wp2_with fail
  refine (alive_any w).mono ?_
  rintro e w1 ⟨rfl, hb1⟩
  have HB1 := Lib.hid hb1
  have hz1 := hb1.size
  clear hb1
  go_wp2_with fail
  clear hwr
  obtain ⟨wS, hwS⟩ : ∃ wS, wS = w1.alloc (.cells #[.int .i64 0] 3) := ⟨_, rfl⟩
  have hsz : wS.heap.size = w1.heap.size + 1 := by rw [hwS, World.size_alloc]
  have HSB := Lib.hid (show Below w1.heap.size w1 wS by rw [hwS]; exact (Below.refl _ _).alloc (Nat.le_refl _) _)
  have HSW := Lib.hid (show Whole wS w1.heap.size 3 #[.int .i64 0] by rw [hwS]; exact Whole.made w1 3 _)
  have hnil := Lib.hid (TL.nil wS (.slice (some ⟨w1.heap.size, 0, none⟩) 1 1) (.slice none 0 0) 0)
  rw [← hwS, ← hsz]
  replace HB1 := Lib.hid (HB1.out.trans (HSB.out.mono hz1))
  have hzS : w.heap.size ≤ wS.heap.size := by omega
  have hzs1 : w1.heap.size < wS.heap.size := by omega
  clear hwS hsz HSB
  go_loopg [9, 10] N1 (fun kk z i wr => ∃ (j : Nat) (V : Value) (rs : List (Kn.Task × Option Addr × Nat)) (lt : Nat), j ≤ N1 ∧ i = .int .i64 j ∧ z = .int .i64 lt ∧ TL wS wr V (.slice (some ⟨w1.heap.size, 0, none⟩) 1 1) (.slice none 0 0) 0 rs ∧ rs.map (·.1) = (List.range j).map (Kn.timesF (timD l1 l2 N1) N1) ∧ TimOk (timD l1 l2 N1) j lt ∧ N1 - j ≤ kk)
  case atStart => exact ⟨0, _, [], 0, Nat.zero_le _, rfl, rfl, hnil.out, rfl, ⟨fun i hi => by omega, by omega, .inl rfl⟩, by omega⟩
  case round =>
    obtain ⟨j, V, rs, lt, hj, rfl, rfl, hT, hrs, hok, hkk⟩ := hrel
    by_cases hlt : j < N1
    · have hlt' : (j : Int) < N1 := by omega
      have hll : j < l1.length := by have := HN.out; omega
      have hrl : rs.length = j := by have := congrArg List.length hrs; simpa using this
      have hzr := hT.bel.size
      obtain ⟨ad, eA, hab, hac⟩ := ((HR1.out.below HB1.out (Nat.le_refl _)).below (hT.bel.mono hzS) (Nat.le_refl _)).intAt' (HN.out) hll
      subst eA
      have E := Lib.hid (prOf_at hll)
      have k0 := hT.blk.cell 0
      have k1 := hT.blk.frozen 0
      simp only [List.getElem?_toArray, List.getElem?_cons_zero] at k0
      have habr : ad.block < wr.heap.size := by omega
      have htb := hT.blk.lt
      have hltm := hok.2.1
      have HT := Lib.hid hT
      have HS := Lib.hid hrs
      have HOK := Lib.hid hok
      clear hT hrs hok
      generalize l1[j] = v at *
      by_cases g0 : v < 0
      · as_aux_lemma =>
          go_wp2_with fail
          go_ret
          exact ⟨rfl, HB1.out.trans (HT.out.bel.mono hzS)⟩
      by_cases g1 : 1000 < v
      · as_aux_lemma =>
          go_wp2_with fail
          go_ret
          exact ⟨rfl, HB1.out.trans (HT.out.bel.mono hzS)⟩
      have hadj0 : (ad.add j).block < wr.heap.size := by unfold Addr.add; split <;> exact habr
      have hadk0 : (ad.add j).block < wS.heap.size := by (have h9 : ad.block < wS.heap.size := by omega); unfold Addr.add; split <;> exact h9
      have hS0 := hac
      have HF := Lib.hid (timesF_lo (D := timD l1 l2 N1) (ns := N1) (i := j) (v := v) hlt (by rw [timD_lo hlt]; exact E.out))
      by_cases gm : (lt : Int) < v
      · as_aux_lemma =>
        have HOK2 := Lib.hid (HOK.out.more (lt' := v.toNat) (v := v) (by have := HF.out; rw [timD_lo (by omega)]; exact E.out) (by omega) (by omega) (.inr ⟨gm, by omega⟩))
        go_wp2_with fail
        have hl0 : Addr.block (ad.add j) < wr.heap.size := hadj0
        have hl1 : Addr.block (⟨wS.heap.size, 0, none⟩) < wr.heap.size := htb
        refine wp_region_need (S := fun w' => w'.cell? (ad.add j) = some (.int .i64 v) ∧ w'.cell? (⟨wS.heap.size, 0, none⟩) = some (V)) (need := fun i => i != 13) 14 #[false, false, false, false, false, false, false, false, false, false, false, false, false, false] (by rfl) (by rfl) (by kernel_rfl) ?_ (fun hHeld => ?_)
        · (try dsimp only)
          exact ⟨hS0, k0⟩
        refine wpAnyN_take (i := 0) (v := ?_) (listed' := #[true, false, false, false, false, false, false, false, false, false, false, false, false, false]) rfl (by kernel_rfl) (by kernel_rfl) (by kernel_rfl) (by rfl) (fun _ _ _ h => h) (Or.inl ⟨by rfl, ?_⟩) (by assumption) ?_
        rotate_left
        · intro w hSw
          (try dsimp only at hSw)
          obtain ⟨hS0', hS1'⟩ := hSw
          go_simp
          with_reducible rfl
        try simp only [Act.put, List.getElem_toArray, List.getElem_cons_zero, List.setIfInBounds_toArray, List.set_cons_zero, List.set_cons_succ]
        refine wpAnyN_take (i := 1) (v := ?_) (listed' := #[true, true, false, false, false, false, false, false, false, false, false, false, false, false]) rfl (by kernel_rfl) (by kernel_rfl) (by kernel_rfl) (by rfl) (fun _ _ _ h => h) (Or.inl ⟨by rfl, ?_⟩) (by assumption) ?_
        rotate_left
        · intro w hSw
          (try dsimp only at hSw)
          obtain ⟨hS0', hS1'⟩ := hSw
          go_simp
          with_reducible rfl
        try simp only [Act.put, List.getElem_toArray, List.getElem_cons_zero, List.getElem_cons_succ, List.setIfInBounds_toArray, List.set_cons_zero, List.set_cons_succ]
        refine wpAnyN_take (i := 2) (v := ?_) (listed' := #[true, true, true, false, false, false, false, false, false, false, false, false, false, false]) rfl (by kernel_rfl) (by kernel_rfl) (by kernel_rfl) (by rfl) (fun _ _ _ h => h) (Or.inl ⟨by rfl, ?_⟩) (by assumption) ?_
        rotate_left
        · intro w hSw
          (try dsimp only at hSw)
          obtain ⟨hS0', hS1'⟩ := hSw
          go_simp
          with_reducible rfl
        try simp only [Act.put, List.getElem_toArray, List.getElem_cons_zero, List.getElem_cons_succ, List.setIfInBounds_toArray, List.set_cons_zero, List.set_cons_succ]
        refine wpAnyN_take (i := 3) (v := ?_) (listed' := #[true, true, true, true, false, false, false, false, false, false, false, false, false, false]) rfl (by kernel_rfl) (by kernel_rfl) (by kernel_rfl) (by rfl) (fun _ _ _ h => h) (Or.inl ⟨by rfl, ?_⟩) (by assumption) ?_
        rotate_left
        · intro w hSw
          (try dsimp only at hSw)
          obtain ⟨hS0', hS1'⟩ := hSw
          go_simp
          with_reducible rfl
        try simp only [Act.put, List.getElem_toArray, List.getElem_cons_zero, List.getElem_cons_succ, List.setIfInBounds_toArray, List.set_cons_zero, List.set_cons_succ]
        refine wpAnyN_take (i := 4) (v := ?_) (listed' := #[true, true, true, true, true, false, false, false, false, false, false, false, false, false]) rfl (by kernel_rfl) (by kernel_rfl) (by kernel_rfl) (by rfl) (fun _ _ _ h => h) (Or.inl ⟨by rfl, ?_⟩) (by assumption) ?_
        rotate_left
        · intro w hSw
          (try dsimp only at hSw)
          obtain ⟨hS0', hS1'⟩ := hSw
          go_simp
          with_reducible rfl
        try simp only [Act.put, List.getElem_toArray, List.getElem_cons_zero, List.getElem_cons_succ, List.setIfInBounds_toArray, List.set_cons_zero, List.set_cons_succ]
        refine wpAnyN_take (i := 5) (v := ?_) (listed' := #[true, true, true, true, true, true, false, false, false, false, false, false, false, false]) rfl (by kernel_rfl) (by kernel_rfl) (by kernel_rfl) (by rfl) (fun _ _ _ h => h) (Or.inl ⟨by rfl, ?_⟩) (by assumption) ?_
        rotate_left
        · intro w hSw
          (try dsimp only at hSw)
          obtain ⟨hS0', hS1'⟩ := hSw
          go_simp
          with_reducible rfl
        try simp only [Act.put, List.getElem_toArray, List.getElem_cons_zero, List.getElem_cons_succ, List.setIfInBounds_toArray, List.set_cons_zero, List.set_cons_succ]
        refine wpAnyN_take (i := 6) (v := ?_) (listed' := #[true, true, true, true, true, true, true, false, false, false, false, false, false, false]) rfl (by kernel_rfl) (by kernel_rfl) (by kernel_rfl) (by rfl) (fun _ _ _ h => h) (Or.inl ⟨by rfl, ?_⟩) (by assumption) ?_
        rotate_left
        · intro w hSw
          (try dsimp only at hSw)
          obtain ⟨hS0', hS1'⟩ := hSw
          go_simp
          with_reducible rfl
        try simp only [Act.put, List.getElem_toArray, List.getElem_cons_zero, List.getElem_cons_succ, List.setIfInBounds_toArray, List.set_cons_zero, List.set_cons_succ]
        refine wpAnyN_step (i := 7) (listed' := #[true, true, true, true, true, true, true, true, false, false, false, false, false, false]) (by kernel_rfl) rfl (by rfl) (fun K hK => ?_)
        refine step_o (by rfl) _ _ _ (by rfl) (2) (v) (0) (by rfl) (by rfl) (by rfl) ?_
        intro wo0 hb0
        have hz0' : wr.heap.size ≤ wo0.heap.size := hb0.size
        have T0' := Lib.hid ((HT.out.keep (Below.drew (Below.refl _ _))).keep hb0)
        have hT0' := T0'.out.blk.lt
        refine hK.out _ _ ?_ (fun hHeld => ?_)
        · (try dsimp only)
          exact fun _ => ⟨(hb0.cell (p := ad.add j) hl0).trans hHeld.1, (hb0.cell (p := ⟨wS.heap.size, 0, none⟩) hl1).trans hHeld.2⟩
        clear hK K
        replace hHeld := hHeld rfl
        try simp only [Act.put, List.getElem_toArray, List.getElem_cons_zero, List.getElem_cons_succ, List.setIfInBounds_toArray, List.set_cons_zero, List.set_cons_succ]
        replace hl0 := Nat.lt_of_lt_of_le hl0 hz0'
        replace hl1 := Nat.lt_of_lt_of_le hl1 hz0'
        refine wpAnyN_step (i := 8) (listed' := #[true, true, true, true, true, true, true, true, true, false, false, false, false, false]) (by kernel_rfl) rfl (by rfl) (fun K hK => ?_)
        refine step_ops1 (by rfl) _ (by rfl) (2) (v) (0) (by rfl) ?_
        refine hK.out _ _ ?_ (fun hHeld => ?_)
        · (try dsimp only)
          exact fun _ => ⟨(World.cell?_alloc_lt _ _ _ hl0).trans hHeld.1, (World.cell?_alloc_lt _ _ _ hl1).trans hHeld.2⟩
        clear hK K
        replace hHeld := hHeld rfl
        try simp only [Act.put, List.getElem_toArray, List.getElem_cons_zero, List.getElem_cons_succ, List.setIfInBounds_toArray, List.set_cons_zero, List.set_cons_succ]
        refine wpAnyN_step (i := 9) (listed' := #[true, true, true, true, true, true, true, true, true, true, false, false, false, false]) (by kernel_rfl) rfl (by rfl) (fun K hK => ?_)
        refine step_t (by rfl) _ _ (by rfl) ((j : Int)) (some ⟨wo0.heap.size, 0, none⟩) 1 1 (by rfl) (by rfl) ?_
        intro wT hbt
        have hzT := hbt.size
        have T3 := ((T0'.out).keep ((Below.refl _ _).alloc (Nat.le_refl _) _)).keep hbt
        have X3 : OpsLie wT ((⟨(j : Int), [⟨2, v, 0⟩]⟩ : Kn.Task), some ⟨wo0.heap.size, 0, none⟩, 1) := by (have h9 := (Whole.made wo0 32 #[.int .i64 (2), .int .i64 (v), .int .i64 (0)]).same (hbt.block _ (by simp))); exact .of_whole (Nat.le_of_ble_eq_true rfl) rfl h9
        have T4 := Lib.hid (T3.keep ((Below.refl wT.heap.size wT).alloc (Nat.le_refl _) (.cells #[.int .i64 ((j : Int)), .slice (some ⟨wo0.heap.size, 0, none⟩) 1 1] 29)))
        have X4 := Lib.hid (X3.below ((Below.refl wT.heap.size wT).alloc (Nat.le_refl _) (.cells #[.int .i64 ((j : Int)), .slice (some ⟨wo0.heap.size, 0, none⟩) 1 1] 29)))
        simp only [World.size_alloc] at hzT
        have h3 := T3.blk.lt
        clear T3 X3 T0'
        refine hK.out _ _ ?_ (fun hHeld => ?_)
        · (try dsimp only)
          exact fun _ => ⟨(hbt.cell (p := ad.add j) (lt_alloc hl0 _)).trans hHeld.1, (hbt.cell (p := ⟨wS.heap.size, 0, none⟩) (lt_alloc hl1 _)).trans hHeld.2⟩
        clear hK K
        replace hHeld := hHeld rfl
        try simp only [Act.put, List.getElem_toArray, List.getElem_cons_zero, List.getElem_cons_succ, List.setIfInBounds_toArray, List.set_cons_zero, List.set_cons_succ]
        replace hl0 := Nat.lt_of_lt_of_le (lt_alloc hl0 _) hbt.size
        replace hl1 := Nat.lt_of_lt_of_le (lt_alloc hl1 _) hbt.size
        refine wpAnyN_step (i := 10) (listed' := #[true, true, true, true, true, true, true, true, true, true, true, false, false, false]) (by kernel_rfl) rfl (by rfl) (fun K hK => ?_)
        refine step_task1 (by rfl) _ (by rfl) ((j : Int)) (some ⟨wo0.heap.size, 0, none⟩) 1 1 (by rfl) ?_
        refine hK.out _ _ ?_ (fun hHeld => ?_)
        · (try dsimp only)
          exact fun _ => ⟨(World.cell?_alloc_lt _ _ _ hl0).trans hHeld.1, (World.cell?_alloc_lt _ _ _ hl1).trans hHeld.2⟩
        clear hK K
        replace hHeld := hHeld rfl
        try simp only [Act.put, List.getElem_toArray, List.getElem_cons_zero, List.getElem_cons_succ, List.setIfInBounds_toArray, List.set_cons_zero, List.set_cons_succ]
        refine wpAnyN_step (i := 11) (listed' := #[true, true, true, true, true, true, true, true, true, true, true, true, false, false]) (by kernel_rfl) rfl (by rfl) (fun K hK => ?_)
        refine step_append_lies _ (by rfl) _ _ _ (by rfl) (wS.heap.size + 1) 29 i0 _ 2 32 Try.underlying23 hi iz0 iz1 iz2 rfl (by omega) V rs.length (tkC rs) (by rfl) T4.out.row ⟨wT.heap.size, 0, none⟩ 1 1 [.int .i64 ((j : Int)), .slice (some ⟨wo0.heap.size, 0, none⟩) 1 1] (by rfl) (by rfl) (World.news_of_block (cs := #[.int .i64 ((j : Int)), .slice (some ⟨wo0.heap.size, 0, none⟩) 1 1]) (t := 29) (fr := (0, 0)) (heap_alloc_new _ _)) (by simp [Value.oneCell']) (by omega) (by unfold maxLen; omega) (by omega) (by simp; omega) (wT.heap.size + 1) (by simp) ?_
        intro gg cap w5 hown hgrow hat hlt5
        have hVlt := T4.out.row.lt
        have y := T4.out.blk.grown hgrow (own_block T4.out.row T4.out.blk (by decide))
        have y0 := y.cell 0
        have y1 := y.frozen 0
        simp only [List.getElem?_toArray, List.getElem?_cons_zero] at y0
        have TP := Lib.hid (T4.out.push (x := ((⟨(j : Int), [⟨2, v, 0⟩]⟩ : Kn.Task), some ⟨wo0.heap.size, 0, none⟩, 1)) X4.out (by exact hown) hgrow)
        simp only [hrl] at TP
        clear y hown hat
        refine hK.out _ _ ?_ (fun hHeld => ?_)
        · (try dsimp only)
          exact fun _ => ⟨(hgrow.cell_far (ad.add j) (lt_alloc hl0 _) (fun e => absurd (hVlt _ e.symm).1 (Nat.not_le_of_lt (Nat.lt_succ_of_lt hadk0)))).trans hHeld.1, (hgrow.cell_far (⟨wS.heap.size, 0, none⟩) (lt_alloc hl1 _) (fun e => absurd (hVlt _ e.symm).1 (Nat.not_succ_le_self _))).trans hHeld.2⟩
        clear hK K
        replace hHeld := hHeld rfl
        try simp only [Act.put, List.getElem_toArray, List.getElem_cons_zero, List.getElem_cons_succ, List.setIfInBounds_toArray, List.set_cons_zero, List.set_cons_succ]
        refine wpAnyN_take (i := 12) (v := ?_) (listed' := #[true, true, true, true, true, true, true, true, true, true, true, true, true, false]) rfl (by kernel_rfl) (by kernel_rfl) (by kernel_rfl) (by rfl) (fun _ _ _ h => h) (Or.inl ⟨by rfl, ?_⟩) (by assumption) ?_
        rotate_left
        · intro w hSw
          (try dsimp only at hSw)
          obtain ⟨hS0', hS1'⟩ := hSw
          go_simp
          with_reducible rfl
        try simp only [Act.put, List.getElem_toArray, List.getElem_cons_zero, List.getElem_cons_succ, List.setIfInBounds_toArray, List.set_cons_zero, List.set_cons_succ]
        refine wpAnyN_step (i := 13) (listed' := #[true, true, true, true, true, true, true, true, true, true, true, true, true, true]) (by kernel_rfl) rfl (by rfl) (fun K hK => ?_)
        refine step_store23 (by rfl) _ _ (by rfl) (by rfl) (by rfl) y0 y1 ?_
        refine hK.out _ _ ?_ (fun hHeld => ?_)
        · exact fun h => absurd h (by decide)
        clear hK K
        try simp only [Act.put, List.getElem_toArray, List.getElem_cons_zero, List.getElem_cons_succ]
        refine wpAnyN_done (by kernel_rfl) ?_ _
        go_wp2_with fail
        go_roundg (N1 - (j + 1))
        case measure => omega
        case rel => exact ⟨j + 1, _, rs ++ [((⟨(j : Int), [⟨2, v, 0⟩]⟩ : Kn.Task), some ⟨wo0.heap.size, 0, none⟩, 1)], v.toNat, by omega, by go_num, congrArg _ (by omega), TP.out, by rw [List.map_append, HS.out, List.range_succ, List.map_append, List.map_singleton, List.map_singleton, HF.out], HOK2.out, Nat.le_refl _⟩
      · as_aux_lemma =>
        have HOK2 := Lib.hid (HOK.out.more (lt' := lt) (v := v) (by have := HF.out; rw [timD_lo (by omega)]; exact E.out) (by omega) (by omega) (.inl ⟨by omega, rfl⟩))
        go_wp2_with fail
        have hl0 : Addr.block (ad.add j) < wr.heap.size := hadj0
        have hl1 : Addr.block (⟨wS.heap.size, 0, none⟩) < wr.heap.size := htb
        refine wp_region_need (S := fun w' => w'.cell? (ad.add j) = some (.int .i64 v) ∧ w'.cell? (⟨wS.heap.size, 0, none⟩) = some (V)) (need := fun i => i != 13) 14 #[false, false, false, false, false, false, false, false, false, false, false, false, false, false] (by rfl) (by rfl) (by kernel_rfl) ?_ (fun hHeld => ?_)
        · (try dsimp only)
          exact ⟨hS0, k0⟩
        refine wpAnyN_take (i := 0) (v := ?_) (listed' := #[true, false, false, false, false, false, false, false, false, false, false, false, false, false]) rfl (by kernel_rfl) (by kernel_rfl) (by kernel_rfl) (by rfl) (fun _ _ _ h => h) (Or.inl ⟨by rfl, ?_⟩) (by assumption) ?_
        rotate_left
        · intro w hSw
          (try dsimp only at hSw)
          obtain ⟨hS0', hS1'⟩ := hSw
          go_simp
          with_reducible rfl
        try simp only [Act.put, List.getElem_toArray, List.getElem_cons_zero, List.setIfInBounds_toArray, List.set_cons_zero, List.set_cons_succ]
        refine wpAnyN_take (i := 1) (v := ?_) (listed' := #[true, true, false, false, false, false, false, false, false, false, false, false, false, false]) rfl (by kernel_rfl) (by kernel_rfl) (by kernel_rfl) (by rfl) (fun _ _ _ h => h) (Or.inl ⟨by rfl, ?_⟩) (by assumption) ?_
        rotate_left
        · intro w hSw
          (try dsimp only at hSw)
          obtain ⟨hS0', hS1'⟩ := hSw
          go_simp
          with_reducible rfl
        try simp only [Act.put, List.getElem_toArray, List.getElem_cons_zero, List.getElem_cons_succ, List.setIfInBounds_toArray, List.set_cons_zero, List.set_cons_succ]
        refine wpAnyN_take (i := 2) (v := ?_) (listed' := #[true, true, true, false, false, false, false, false, false, false, false, false, false, false]) rfl (by kernel_rfl) (by kernel_rfl) (by kernel_rfl) (by rfl) (fun _ _ _ h => h) (Or.inl ⟨by rfl, ?_⟩) (by assumption) ?_
        rotate_left
        · intro w hSw
          (try dsimp only at hSw)
          obtain ⟨hS0', hS1'⟩ := hSw
          go_simp
          with_reducible rfl
        try simp only [Act.put, List.getElem_toArray, List.getElem_cons_zero, List.getElem_cons_succ, List.setIfInBounds_toArray, List.set_cons_zero, List.set_cons_succ]
        refine wpAnyN_take (i := 3) (v := ?_) (listed' := #[true, true, true, true, false, false, false, false, false, false, false, false, false, false]) rfl (by kernel_rfl) (by kernel_rfl) (by kernel_rfl) (by rfl) (fun _ _ _ h => h) (Or.inl ⟨by rfl, ?_⟩) (by assumption) ?_
        rotate_left
        · intro w hSw
          (try dsimp only at hSw)
          obtain ⟨hS0', hS1'⟩ := hSw
          go_simp
          with_reducible rfl
        try simp only [Act.put, List.getElem_toArray, List.getElem_cons_zero, List.getElem_cons_succ, List.setIfInBounds_toArray, List.set_cons_zero, List.set_cons_succ]
        refine wpAnyN_take (i := 4) (v := ?_) (listed' := #[true, true, true, true, true, false, false, false, false, false, false, false, false, false]) rfl (by kernel_rfl) (by kernel_rfl) (by kernel_rfl) (by rfl) (fun _ _ _ h => h) (Or.inl ⟨by rfl, ?_⟩) (by assumption) ?_
        rotate_left
        · intro w hSw
          (try dsimp only at hSw)
          obtain ⟨hS0', hS1'⟩ := hSw
          go_simp
          with_reducible rfl
        try simp only [Act.put, List.getElem_toArray, List.getElem_cons_zero, List.getElem_cons_succ, List.setIfInBounds_toArray, List.set_cons_zero, List.set_cons_succ]
        refine wpAnyN_take (i := 5) (v := ?_) (listed' := #[true, true, true, true, true, true, false, false, false, false, false, false, false, false]) rfl (by kernel_rfl) (by kernel_rfl) (by kernel_rfl) (by rfl) (fun _ _ _ h => h) (Or.inl ⟨by rfl, ?_⟩) (by assumption) ?_
        rotate_left
        · intro w hSw
          (try dsimp only at hSw)
          obtain ⟨hS0', hS1'⟩ := hSw
          go_simp
          with_reducible rfl
        try simp only [Act.put, List.getElem_toArray, List.getElem_cons_zero, List.getElem_cons_succ, List.setIfInBounds_toArray, List.set_cons_zero, List.set_cons_succ]
        refine wpAnyN_take (i := 6) (v := ?_) (listed' := #[true, true, true, true, true, true, true, false, false, false, false, false, false, false]) rfl (by kernel_rfl) (by kernel_rfl) (by kernel_rfl) (by rfl) (fun _ _ _ h => h) (Or.inl ⟨by rfl, ?_⟩) (by assumption) ?_
        rotate_left
        · intro w hSw
          (try dsimp only at hSw)
          obtain ⟨hS0', hS1'⟩ := hSw
          go_simp
          with_reducible rfl
        try simp only [Act.put, List.getElem_toArray, List.getElem_cons_zero, List.getElem_cons_succ, List.setIfInBounds_toArray, List.set_cons_zero, List.set_cons_succ]
        refine wpAnyN_step (i := 7) (listed' := #[true, true, true, true, true, true, true, true, false, false, false, false, false, false]) (by kernel_rfl) rfl (by rfl) (fun K hK => ?_)
        refine step_o (by rfl) _ _ _ (by rfl) (2) (v) (0) (by rfl) (by rfl) (by rfl) ?_
        intro wo0 hb0
        have hz0' : wr.heap.size ≤ wo0.heap.size := hb0.size
        have T0' := Lib.hid ((HT.out.keep (Below.drew (Below.refl _ _))).keep hb0)
        have hT0' := T0'.out.blk.lt
        refine hK.out _ _ ?_ (fun hHeld => ?_)
        · (try dsimp only)
          exact fun _ => ⟨(hb0.cell (p := ad.add j) hl0).trans hHeld.1, (hb0.cell (p := ⟨wS.heap.size, 0, none⟩) hl1).trans hHeld.2⟩
        clear hK K
        replace hHeld := hHeld rfl
        try simp only [Act.put, List.getElem_toArray, List.getElem_cons_zero, List.getElem_cons_succ, List.setIfInBounds_toArray, List.set_cons_zero, List.set_cons_succ]
        replace hl0 := Nat.lt_of_lt_of_le hl0 hz0'
        replace hl1 := Nat.lt_of_lt_of_le hl1 hz0'
        refine wpAnyN_step (i := 8) (listed' := #[true, true, true, true, true, true, true, true, true, false, false, false, false, false]) (by kernel_rfl) rfl (by rfl) (fun K hK => ?_)
        refine step_ops1 (by rfl) _ (by rfl) (2) (v) (0) (by rfl) ?_
        refine hK.out _ _ ?_ (fun hHeld => ?_)
        · (try dsimp only)
          exact fun _ => ⟨(World.cell?_alloc_lt _ _ _ hl0).trans hHeld.1, (World.cell?_alloc_lt _ _ _ hl1).trans hHeld.2⟩
        clear hK K
        replace hHeld := hHeld rfl
        try simp only [Act.put, List.getElem_toArray, List.getElem_cons_zero, List.getElem_cons_succ, List.setIfInBounds_toArray, List.set_cons_zero, List.set_cons_succ]
        refine wpAnyN_step (i := 9) (listed' := #[true, true, true, true, true, true, true, true, true, true, false, false, false, false]) (by kernel_rfl) rfl (by rfl) (fun K hK => ?_)
        refine step_t (by rfl) _ _ (by rfl) ((j : Int)) (some ⟨wo0.heap.size, 0, none⟩) 1 1 (by rfl) (by rfl) ?_
        intro wT hbt
        have hzT := hbt.size
        have T3 := ((T0'.out).keep ((Below.refl _ _).alloc (Nat.le_refl _) _)).keep hbt
        have X3 : OpsLie wT ((⟨(j : Int), [⟨2, v, 0⟩]⟩ : Kn.Task), some ⟨wo0.heap.size, 0, none⟩, 1) := by (have h9 := (Whole.made wo0 32 #[.int .i64 (2), .int .i64 (v), .int .i64 (0)]).same (hbt.block _ (by simp))); exact .of_whole (Nat.le_of_ble_eq_true rfl) rfl h9
        have T4 := Lib.hid (T3.keep ((Below.refl wT.heap.size wT).alloc (Nat.le_refl _) (.cells #[.int .i64 ((j : Int)), .slice (some ⟨wo0.heap.size, 0, none⟩) 1 1] 29)))
        have X4 := Lib.hid (X3.below ((Below.refl wT.heap.size wT).alloc (Nat.le_refl _) (.cells #[.int .i64 ((j : Int)), .slice (some ⟨wo0.heap.size, 0, none⟩) 1 1] 29)))
        simp only [World.size_alloc] at hzT
        have h3 := T3.blk.lt
        clear T3 X3 T0'
        refine hK.out _ _ ?_ (fun hHeld => ?_)
        · (try dsimp only)
          exact fun _ => ⟨(hbt.cell (p := ad.add j) (lt_alloc hl0 _)).trans hHeld.1, (hbt.cell (p := ⟨wS.heap.size, 0, none⟩) (lt_alloc hl1 _)).trans hHeld.2⟩
        clear hK K
        replace hHeld := hHeld rfl
        try simp only [Act.put, List.getElem_toArray, List.getElem_cons_zero, List.getElem_cons_succ, List.setIfInBounds_toArray, List.set_cons_zero, List.set_cons_succ]
        replace hl0 := Nat.lt_of_lt_of_le (lt_alloc hl0 _) hbt.size
        replace hl1 := Nat.lt_of_lt_of_le (lt_alloc hl1 _) hbt.size
        refine wpAnyN_step (i := 10) (listed' := #[true, true, true, true, true, true, true, true, true, true, true, false, false, false]) (by kernel_rfl) rfl (by rfl) (fun K hK => ?_)
        refine step_task1 (by rfl) _ (by rfl) ((j : Int)) (some ⟨wo0.heap.size, 0, none⟩) 1 1 (by rfl) ?_
        refine hK.out _ _ ?_ (fun hHeld => ?_)
        · (try dsimp only)
          exact fun _ => ⟨(World.cell?_alloc_lt _ _ _ hl0).trans hHeld.1, (World.cell?_alloc_lt _ _ _ hl1).trans hHeld.2⟩
        clear hK K
        replace hHeld := hHeld rfl
        try simp only [Act.put, List.getElem_toArray, List.getElem_cons_zero, List.getElem_cons_succ, List.setIfInBounds_toArray, List.set_cons_zero, List.set_cons_succ]
        refine wpAnyN_step (i := 11) (listed' := #[true, true, true, true, true, true, true, true, true, true, true, true, false, false]) (by kernel_rfl) rfl (by rfl) (fun K hK => ?_)
        refine step_append_lies _ (by rfl) _ _ _ (by rfl) (wS.heap.size + 1) 29 i0 _ 2 32 Try.underlying23 hi iz0 iz1 iz2 rfl (by omega) V rs.length (tkC rs) (by rfl) T4.out.row ⟨wT.heap.size, 0, none⟩ 1 1 [.int .i64 ((j : Int)), .slice (some ⟨wo0.heap.size, 0, none⟩) 1 1] (by rfl) (by rfl) (World.news_of_block (cs := #[.int .i64 ((j : Int)), .slice (some ⟨wo0.heap.size, 0, none⟩) 1 1]) (t := 29) (fr := (0, 0)) (heap_alloc_new _ _)) (by simp [Value.oneCell']) (by omega) (by unfold maxLen; omega) (by omega) (by simp; omega) (wT.heap.size + 1) (by simp) ?_
        intro gg cap w5 hown hgrow hat hlt5
        have hVlt := T4.out.row.lt
        have y := T4.out.blk.grown hgrow (own_block T4.out.row T4.out.blk (by decide))
        have y0 := y.cell 0
        have y1 := y.frozen 0
        simp only [List.getElem?_toArray, List.getElem?_cons_zero] at y0
        have TP := Lib.hid (T4.out.push (x := ((⟨(j : Int), [⟨2, v, 0⟩]⟩ : Kn.Task), some ⟨wo0.heap.size, 0, none⟩, 1)) X4.out (by exact hown) hgrow)
        simp only [hrl] at TP
        clear y hown hat
        refine hK.out _ _ ?_ (fun hHeld => ?_)
        · (try dsimp only)
          exact fun _ => ⟨(hgrow.cell_far (ad.add j) (lt_alloc hl0 _) (fun e => absurd (hVlt _ e.symm).1 (Nat.not_le_of_lt (Nat.lt_succ_of_lt hadk0)))).trans hHeld.1, (hgrow.cell_far (⟨wS.heap.size, 0, none⟩) (lt_alloc hl1 _) (fun e => absurd (hVlt _ e.symm).1 (Nat.not_succ_le_self _))).trans hHeld.2⟩
        clear hK K
        replace hHeld := hHeld rfl
        try simp only [Act.put, List.getElem_toArray, List.getElem_cons_zero, List.getElem_cons_succ, List.setIfInBounds_toArray, List.set_cons_zero, List.set_cons_succ]
        refine wpAnyN_take (i := 12) (v := ?_) (listed' := #[true, true, true, true, true, true, true, true, true, true, true, true, true, false]) rfl (by kernel_rfl) (by kernel_rfl) (by kernel_rfl) (by rfl) (fun _ _ _ h => h) (Or.inl ⟨by rfl, ?_⟩) (by assumption) ?_
        rotate_left
        · intro w hSw
          (try dsimp only at hSw)
          obtain ⟨hS0', hS1'⟩ := hSw
          go_simp
          with_reducible rfl
        try simp only [Act.put, List.getElem_toArray, List.getElem_cons_zero, List.getElem_cons_succ, List.setIfInBounds_toArray, List.set_cons_zero, List.set_cons_succ]
        refine wpAnyN_step (i := 13) (listed' := #[true, true, true, true, true, true, true, true, true, true, true, true, true, true]) (by kernel_rfl) rfl (by rfl) (fun K hK => ?_)
        refine step_store23 (by rfl) _ _ (by rfl) (by rfl) (by rfl) y0 y1 ?_
        refine hK.out _ _ ?_ (fun hHeld => ?_)
        · exact fun h => absurd h (by decide)
        clear hK K
        try simp only [Act.put, List.getElem_toArray, List.getElem_cons_zero, List.getElem_cons_succ]
        refine wpAnyN_done (by kernel_rfl) ?_ _
        go_wp2_with fail
        go_roundg (N1 - (j + 1))
        case measure => omega
        case rel => exact ⟨j + 1, _, rs ++ [((⟨(j : Int), [⟨2, v, 0⟩]⟩ : Kn.Task), some ⟨wo0.heap.size, 0, none⟩, 1)], lt, by omega, by go_num, by go_num, TP.out, by rw [List.map_append, HS.out, List.range_succ, List.map_append, List.map_singleton, List.map_singleton, HF.out], HOK2.out, Nat.le_refl _⟩
    · have hlt' : ¬ (j : Int) < N1 := by omega
      have hjn : N1 = j := by omega
      subst hjn
      have HT0 := Lib.hid hT
      have HS0 := Lib.hid hrs
      have HOK0 := Lib.hid hok
      clear hT hrs hok hnil
      go_wp2_with fail
      go_loopg [9, 11] N2 (fun kk z i wr => ∃ (j2 : Nat) (V : Value) (rs : List (Kn.Task × Option Addr × Nat)) (lt : Nat), j2 ≤ N2 ∧ i = .int .i64 j2 ∧ z = .int .i64 lt ∧ TL wS wr V (.slice (some ⟨w1.heap.size, 0, none⟩) 1 1) (.slice none 0 0) 0 rs ∧ rs.map (·.1) = (List.range (N1 + j2)).map (Kn.timesF (timD l1 l2 N1) N1) ∧ TimOk (timD l1 l2 N1) (N1 + j2) lt ∧ N2 - j2 ≤ kk)
      case atStart => exact ⟨0, _, rs, lt, Nat.zero_le _, rfl, rfl, HT0.out, HS0.out, HOK0.out, by omega⟩
      case round =>
        clear HT0 HS0 HOK0 hlt hlt' hkk hj
        clear rs lt V
        obtain ⟨j, V, rs, lt, hj, rfl, rfl, hT, hrs, hok, hkk⟩ := hrel
        by_cases hlt : j < N2
        · have hlt' : (j : Int) < N2 := by omega
          have hll : j < l2.length := by have := HN2.out; omega
          have hrl : rs.length = N1 + j := by have := congrArg List.length hrs; simpa using this
          have hzr := hT.bel.size
          obtain ⟨ad, eA, hab, hac⟩ := ((HR2.out.below HB1.out (Nat.le_refl _)).below (hT.bel.mono hzS) (Nat.le_refl _)).intAt' (HN2.out) hll
          subst eA
          have E := Lib.hid (prOf_at hll)
          have k0 := hT.blk.cell 0
          have k1 := hT.blk.frozen 0
          simp only [List.getElem?_toArray, List.getElem?_cons_zero] at k0
          have habr : ad.block < wr.heap.size := by omega
          have htb := hT.blk.lt
          have hltm := hok.2.1
          have HT := Lib.hid hT
          have HS := Lib.hid hrs
          have HOK := Lib.hid hok
          clear hT hrs hok
          generalize l2[j] = v at *
          by_cases g0 : v < 0
          · as_aux_lemma =>
              go_wp2_with fail
              go_ret
              exact ⟨rfl, HB1.out.trans (HT.out.bel.mono hzS)⟩
          by_cases g1 : 1000 < v
          · as_aux_lemma =>
              go_wp2_with fail
              go_ret
              exact ⟨rfl, HB1.out.trans (HT.out.bel.mono hzS)⟩
          have hadj0 : (ad.add j).block < wr.heap.size := by unfold Addr.add; split <;> exact habr
          have hadk0 : (ad.add j).block < wS.heap.size := by (have h9 : ad.block < wS.heap.size := by omega); unfold Addr.add; split <;> exact h9
          have hS0 := hac
          have HF := Lib.hid (timesF_hi (D := timD l1 l2 N1) (ns := N1) (i := N1 + j) (v := v) (by omega) (by rw [timD_hi]; exact E.out))
          by_cases gm : (lt : Int) < v
          · as_aux_lemma =>
            have HOK2 := Lib.hid (HOK.out.more (lt' := v.toNat) (v := v) (by have := HF.out; rw [timD_hi]; exact E.out) (by omega) (by omega) (.inr ⟨gm, by omega⟩))
            go_wp2_with fail
            have hl0 : Addr.block (ad.add j) < wr.heap.size := hadj0
            have hl1 : Addr.block (⟨wS.heap.size, 0, none⟩) < wr.heap.size := htb
            refine wp_region_need (S := fun w' => w'.cell? (ad.add j) = some (.int .i64 v) ∧ w'.cell? (⟨wS.heap.size, 0, none⟩) = some (V)) (need := fun i => i != 12) 13 #[false, false, false, false, false, false, false, false, false, false, false, false, false] (by rfl) (by rfl) (by kernel_rfl) ?_ (fun hHeld => ?_)
            · (try dsimp only)
              exact ⟨hS0, k0⟩
            refine wpAnyN_take (i := 0) (v := ?_) (listed' := #[true, false, false, false, false, false, false, false, false, false, false, false, false]) rfl (by kernel_rfl) (by kernel_rfl) (by kernel_rfl) (by rfl) (fun _ _ _ h => h) (Or.inl ⟨by rfl, ?_⟩) (by assumption) ?_
            rotate_left
            · intro w hSw
              (try dsimp only at hSw)
              obtain ⟨hS0', hS1'⟩ := hSw
              go_simp
              with_reducible rfl
            try simp only [Act.put, List.getElem_toArray, List.getElem_cons_zero, List.setIfInBounds_toArray, List.set_cons_zero, List.set_cons_succ]
            refine wpAnyN_take (i := 1) (v := ?_) (listed' := #[true, true, false, false, false, false, false, false, false, false, false, false, false]) rfl (by kernel_rfl) (by kernel_rfl) (by kernel_rfl) (by rfl) (fun _ _ _ h => h) (Or.inl ⟨by rfl, ?_⟩) (by assumption) ?_
            rotate_left
            · intro w hSw
              (try dsimp only at hSw)
              obtain ⟨hS0', hS1'⟩ := hSw
              go_simp
              with_reducible rfl
            try simp only [Act.put, List.getElem_toArray, List.getElem_cons_zero, List.getElem_cons_succ, List.setIfInBounds_toArray, List.set_cons_zero, List.set_cons_succ]
            refine wpAnyN_take (i := 2) (v := ?_) (listed' := #[true, true, true, false, false, false, false, false, false, false, false, false, false]) rfl (by kernel_rfl) (by kernel_rfl) (by kernel_rfl) (by rfl) (fun _ _ _ h => h) (Or.inl ⟨by rfl, ?_⟩) (by assumption) ?_
            rotate_left
            · intro w hSw
              (try dsimp only at hSw)
              obtain ⟨hS0', hS1'⟩ := hSw
              go_simp
              with_reducible rfl
            try simp only [Act.put, List.getElem_toArray, List.getElem_cons_zero, List.getElem_cons_succ, List.setIfInBounds_toArray, List.set_cons_zero, List.set_cons_succ]
            refine wpAnyN_take (i := 3) (v := ?_) (listed' := #[true, true, true, true, false, false, false, false, false, false, false, false, false]) rfl (by kernel_rfl) (by kernel_rfl) (by kernel_rfl) (by rfl) (fun _ _ _ h => h) (Or.inl ⟨by rfl, ?_⟩) (by assumption) ?_
            rotate_left
            · intro w hSw
              (try dsimp only at hSw)
              obtain ⟨hS0', hS1'⟩ := hSw
              go_simp
              with_reducible rfl
            try simp only [Act.put, List.getElem_toArray, List.getElem_cons_zero, List.getElem_cons_succ, List.setIfInBounds_toArray, List.set_cons_zero, List.set_cons_succ]
            refine wpAnyN_take (i := 4) (v := ?_) (listed' := #[true, true, true, true, true, false, false, false, false, false, false, false, false]) rfl (by kernel_rfl) (by kernel_rfl) (by kernel_rfl) (by rfl) (fun _ _ _ h => h) (Or.inl ⟨by rfl, ?_⟩) (by assumption) ?_
            rotate_left
            · intro w hSw
              (try dsimp only at hSw)
              obtain ⟨hS0', hS1'⟩ := hSw
              go_simp
              with_reducible rfl
            try simp only [Act.put, List.getElem_toArray, List.getElem_cons_zero, List.getElem_cons_succ, List.setIfInBounds_toArray, List.set_cons_zero, List.set_cons_succ]
            refine wpAnyN_take (i := 5) (v := ?_) (listed' := #[true, true, true, true, true, true, false, false, false, false, false, false, false]) rfl (by kernel_rfl) (by kernel_rfl) (by kernel_rfl) (by rfl) (fun _ _ _ h => h) (Or.inl ⟨by rfl, ?_⟩) (by assumption) ?_
            rotate_left
            · intro w hSw
              (try dsimp only at hSw)
              obtain ⟨hS0', hS1'⟩ := hSw
              go_simp
              with_reducible rfl
            try simp only [Act.put, List.getElem_toArray, List.getElem_cons_zero, List.getElem_cons_succ, List.setIfInBounds_toArray, List.set_cons_zero, List.set_cons_succ]
            refine wpAnyN_step (i := 6) (listed' := #[true, true, true, true, true, true, true, false, false, false, false, false, false]) (by kernel_rfl) rfl (by rfl) (fun K hK => ?_)
            refine step_o (by rfl) _ _ _ (by rfl) (3) (0) (v) (by rfl) (by rfl) (by rfl) ?_
            intro wo0 hb0
            have hz0' : wr.heap.size ≤ wo0.heap.size := hb0.size
            have T0' := Lib.hid ((HT.out.keep (Below.drew (Below.refl _ _))).keep hb0)
            have hT0' := T0'.out.blk.lt
            refine hK.out _ _ ?_ (fun hHeld => ?_)
            · (try dsimp only)
              exact fun _ => ⟨(hb0.cell (p := ad.add j) hl0).trans hHeld.1, (hb0.cell (p := ⟨wS.heap.size, 0, none⟩) hl1).trans hHeld.2⟩
            clear hK K
            replace hHeld := hHeld rfl
            try simp only [Act.put, List.getElem_toArray, List.getElem_cons_zero, List.getElem_cons_succ, List.setIfInBounds_toArray, List.set_cons_zero, List.set_cons_succ]
            replace hl0 := Nat.lt_of_lt_of_le hl0 hz0'
            replace hl1 := Nat.lt_of_lt_of_le hl1 hz0'
            refine wpAnyN_step (i := 7) (listed' := #[true, true, true, true, true, true, true, true, false, false, false, false, false]) (by kernel_rfl) rfl (by rfl) (fun K hK => ?_)
            refine step_ops1 (by rfl) _ (by rfl) (3) (0) (v) (by rfl) ?_
            refine hK.out _ _ ?_ (fun hHeld => ?_)
            · (try dsimp only)
              exact fun _ => ⟨(World.cell?_alloc_lt _ _ _ hl0).trans hHeld.1, (World.cell?_alloc_lt _ _ _ hl1).trans hHeld.2⟩
            clear hK K
            replace hHeld := hHeld rfl
            try simp only [Act.put, List.getElem_toArray, List.getElem_cons_zero, List.getElem_cons_succ, List.setIfInBounds_toArray, List.set_cons_zero, List.set_cons_succ]
            refine wpAnyN_step (i := 8) (listed' := #[true, true, true, true, true, true, true, true, true, false, false, false, false]) (by kernel_rfl) rfl (by rfl) (fun K hK => ?_)
            refine step_t (by rfl) _ _ (by rfl) (31) (some ⟨wo0.heap.size, 0, none⟩) 1 1 (by rfl) (by rfl) ?_
            intro wT hbt
            have hzT := hbt.size
            have T3 := ((T0'.out).keep ((Below.refl _ _).alloc (Nat.le_refl _) _)).keep hbt
            have X3 : OpsLie wT ((⟨31, [⟨3, 0, v⟩]⟩ : Kn.Task), some ⟨wo0.heap.size, 0, none⟩, 1) := by (have h9 := (Whole.made wo0 32 #[.int .i64 (3), .int .i64 (0), .int .i64 (v)]).same (hbt.block _ (by simp))); exact .of_whole (Nat.le_of_ble_eq_true rfl) rfl h9
            have T4 := Lib.hid (T3.keep ((Below.refl wT.heap.size wT).alloc (Nat.le_refl _) (.cells #[.int .i64 (31), .slice (some ⟨wo0.heap.size, 0, none⟩) 1 1] 29)))
            have X4 := Lib.hid (X3.below ((Below.refl wT.heap.size wT).alloc (Nat.le_refl _) (.cells #[.int .i64 (31), .slice (some ⟨wo0.heap.size, 0, none⟩) 1 1] 29)))
            simp only [World.size_alloc] at hzT
            have h3 := T3.blk.lt
            clear T3 X3 T0'
            refine hK.out _ _ ?_ (fun hHeld => ?_)
            · (try dsimp only)
              exact fun _ => ⟨(hbt.cell (p := ad.add j) (lt_alloc hl0 _)).trans hHeld.1, (hbt.cell (p := ⟨wS.heap.size, 0, none⟩) (lt_alloc hl1 _)).trans hHeld.2⟩
            clear hK K
            replace hHeld := hHeld rfl
            try simp only [Act.put, List.getElem_toArray, List.getElem_cons_zero, List.getElem_cons_succ, List.setIfInBounds_toArray, List.set_cons_zero, List.set_cons_succ]
            replace hl0 := Nat.lt_of_lt_of_le (lt_alloc hl0 _) hbt.size
            replace hl1 := Nat.lt_of_lt_of_le (lt_alloc hl1 _) hbt.size
            refine wpAnyN_step (i := 9) (listed' := #[true, true, true, true, true, true, true, true, true, true, false, false, false]) (by kernel_rfl) rfl (by rfl) (fun K hK => ?_)
            refine step_task1 (by rfl) _ (by rfl) (31) (some ⟨wo0.heap.size, 0, none⟩) 1 1 (by rfl) ?_
            refine hK.out _ _ ?_ (fun hHeld => ?_)
            · (try dsimp only)
              exact fun _ => ⟨(World.cell?_alloc_lt _ _ _ hl0).trans hHeld.1, (World.cell?_alloc_lt _ _ _ hl1).trans hHeld.2⟩
            clear hK K
            replace hHeld := hHeld rfl
            try simp only [Act.put, List.getElem_toArray, List.getElem_cons_zero, List.getElem_cons_succ, List.setIfInBounds_toArray, List.set_cons_zero, List.set_cons_succ]
            refine wpAnyN_step (i := 10) (listed' := #[true, true, true, true, true, true, true, true, true, true, true, false, false]) (by kernel_rfl) rfl (by rfl) (fun K hK => ?_)
            refine step_append_lies _ (by rfl) _ _ _ (by rfl) (wS.heap.size + 1) 29 i0 _ 2 32 Try.underlying23 hi iz0 iz1 iz2 rfl (by omega) V rs.length (tkC rs) (by rfl) T4.out.row ⟨wT.heap.size, 0, none⟩ 1 1 [.int .i64 (31), .slice (some ⟨wo0.heap.size, 0, none⟩) 1 1] (by rfl) (by rfl) (World.news_of_block (cs := #[.int .i64 (31), .slice (some ⟨wo0.heap.size, 0, none⟩) 1 1]) (t := 29) (fr := (0, 0)) (heap_alloc_new _ _)) (by simp [Value.oneCell']) (by omega) (by unfold maxLen; omega) (by omega) (by simp; omega) (wT.heap.size + 1) (by simp) ?_
            intro gg cap w5 hown hgrow hat hlt5
            have hVlt := T4.out.row.lt
            have y := T4.out.blk.grown hgrow (own_block T4.out.row T4.out.blk (by decide))
            have y0 := y.cell 0
            have y1 := y.frozen 0
            simp only [List.getElem?_toArray, List.getElem?_cons_zero] at y0
            have TP := Lib.hid (T4.out.push (x := ((⟨31, [⟨3, 0, v⟩]⟩ : Kn.Task), some ⟨wo0.heap.size, 0, none⟩, 1)) X4.out (by exact hown) hgrow)
            simp only [hrl] at TP
            clear y hown hat
            refine hK.out _ _ ?_ (fun hHeld => ?_)
            · (try dsimp only)
              exact fun _ => ⟨(hgrow.cell_far (ad.add j) (lt_alloc hl0 _) (fun e => absurd (hVlt _ e.symm).1 (Nat.not_le_of_lt (Nat.lt_succ_of_lt hadk0)))).trans hHeld.1, (hgrow.cell_far (⟨wS.heap.size, 0, none⟩) (lt_alloc hl1 _) (fun e => absurd (hVlt _ e.symm).1 (Nat.not_succ_le_self _))).trans hHeld.2⟩
            clear hK K
            replace hHeld := hHeld rfl
            try simp only [Act.put, List.getElem_toArray, List.getElem_cons_zero, List.getElem_cons_succ, List.setIfInBounds_toArray, List.set_cons_zero, List.set_cons_succ]
            refine wpAnyN_take (i := 11) (v := ?_) (listed' := #[true, true, true, true, true, true, true, true, true, true, true, true, false]) rfl (by kernel_rfl) (by kernel_rfl) (by kernel_rfl) (by rfl) (fun _ _ _ h => h) (Or.inl ⟨by rfl, ?_⟩) (by assumption) ?_
            rotate_left
            · intro w hSw
              (try dsimp only at hSw)
              obtain ⟨hS0', hS1'⟩ := hSw
              go_simp
              with_reducible rfl
            try simp only [Act.put, List.getElem_toArray, List.getElem_cons_zero, List.getElem_cons_succ, List.setIfInBounds_toArray, List.set_cons_zero, List.set_cons_succ]
            refine wpAnyN_step (i := 12) (listed' := #[true, true, true, true, true, true, true, true, true, true, true, true, true]) (by kernel_rfl) rfl (by rfl) (fun K hK => ?_)
            refine step_store23 (by rfl) _ _ (by rfl) (by rfl) (by rfl) y0 y1 ?_
            refine hK.out _ _ ?_ (fun hHeld => ?_)
            · exact fun h => absurd h (by decide)
            clear hK K
            try simp only [Act.put, List.getElem_toArray, List.getElem_cons_zero, List.getElem_cons_succ]
            refine wpAnyN_done (by kernel_rfl) ?_ _
            go_wp2_with fail
            go_roundg (N2 - (j + 1))
            case measure => omega
            case rel => exact ⟨j + 1, _, rs ++ [((⟨31, [⟨3, 0, v⟩]⟩ : Kn.Task), some ⟨wo0.heap.size, 0, none⟩, 1)], v.toNat, by omega, by go_num, congrArg _ (by omega), TP.out, by rw [List.map_append, HS.out, ← Nat.add_assoc, List.range_succ, List.map_append, List.map_singleton, List.map_singleton, HF.out], HOK2.out, Nat.le_refl _⟩
          · as_aux_lemma =>
            have HOK2 := Lib.hid (HOK.out.more (lt' := lt) (v := v) (by have := HF.out; rw [timD_hi]; exact E.out) (by omega) (by omega) (.inl ⟨by omega, rfl⟩))
            go_wp2_with fail
            have hl0 : Addr.block (ad.add j) < wr.heap.size := hadj0
            have hl1 : Addr.block (⟨wS.heap.size, 0, none⟩) < wr.heap.size := htb
            refine wp_region_need (S := fun w' => w'.cell? (ad.add j) = some (.int .i64 v) ∧ w'.cell? (⟨wS.heap.size, 0, none⟩) = some (V)) (need := fun i => i != 12) 13 #[false, false, false, false, false, false, false, false, false, false, false, false, false] (by rfl) (by rfl) (by kernel_rfl) ?_ (fun hHeld => ?_)
            · (try dsimp only)
              exact ⟨hS0, k0⟩
            refine wpAnyN_take (i := 0) (v := ?_) (listed' := #[true, false, false, false, false, false, false, false, false, false, false, false, false]) rfl (by kernel_rfl) (by kernel_rfl) (by kernel_rfl) (by rfl) (fun _ _ _ h => h) (Or.inl ⟨by rfl, ?_⟩) (by assumption) ?_
            rotate_left
            · intro w hSw
              (try dsimp only at hSw)
              obtain ⟨hS0', hS1'⟩ := hSw
              go_simp
              with_reducible rfl
            try simp only [Act.put, List.getElem_toArray, List.getElem_cons_zero, List.setIfInBounds_toArray, List.set_cons_zero, List.set_cons_succ]
            refine wpAnyN_take (i := 1) (v := ?_) (listed' := #[true, true, false, false, false, false, false, false, false, false, false, false, false]) rfl (by kernel_rfl) (by kernel_rfl) (by kernel_rfl) (by rfl) (fun _ _ _ h => h) (Or.inl ⟨by rfl, ?_⟩) (by assumption) ?_
            rotate_left
            · intro w hSw
              (try dsimp only at hSw)
              obtain ⟨hS0', hS1'⟩ := hSw
              go_simp
              with_reducible rfl
            try simp only [Act.put, List.getElem_toArray, List.getElem_cons_zero, List.getElem_cons_succ, List.setIfInBounds_toArray, List.set_cons_zero, List.set_cons_succ]
            refine wpAnyN_take (i := 2) (v := ?_) (listed' := #[true, true, true, false, false, false, false, false, false, false, false, false, false]) rfl (by kernel_rfl) (by kernel_rfl) (by kernel_rfl) (by rfl) (fun _ _ _ h => h) (Or.inl ⟨by rfl, ?_⟩) (by assumption) ?_
            rotate_left
            · intro w hSw
              (try dsimp only at hSw)
              obtain ⟨hS0', hS1'⟩ := hSw
              go_simp
              with_reducible rfl
            try simp only [Act.put, List.getElem_toArray, List.getElem_cons_zero, List.getElem_cons_succ, List.setIfInBounds_toArray, List.set_cons_zero, List.set_cons_succ]
            refine wpAnyN_take (i := 3) (v := ?_) (listed' := #[true, true, true, true, false, false, false, false, false, false, false, false, false]) rfl (by kernel_rfl) (by kernel_rfl) (by kernel_rfl) (by rfl) (fun _ _ _ h => h) (Or.inl ⟨by rfl, ?_⟩) (by assumption) ?_
            rotate_left
            · intro w hSw
              (try dsimp only at hSw)
              obtain ⟨hS0', hS1'⟩ := hSw
              go_simp
              with_reducible rfl
            try simp only [Act.put, List.getElem_toArray, List.getElem_cons_zero, List.getElem_cons_succ, List.setIfInBounds_toArray, List.set_cons_zero, List.set_cons_succ]
            refine wpAnyN_take (i := 4) (v := ?_) (listed' := #[true, true, true, true, true, false, false, false, false, false, false, false, false]) rfl (by kernel_rfl) (by kernel_rfl) (by kernel_rfl) (by rfl) (fun _ _ _ h => h) (Or.inl ⟨by rfl, ?_⟩) (by assumption) ?_
            rotate_left
            · intro w hSw
              (try dsimp only at hSw)
              obtain ⟨hS0', hS1'⟩ := hSw
              go_simp
              with_reducible rfl
            try simp only [Act.put, List.getElem_toArray, List.getElem_cons_zero, List.getElem_cons_succ, List.setIfInBounds_toArray, List.set_cons_zero, List.set_cons_succ]
            refine wpAnyN_take (i := 5) (v := ?_) (listed' := #[true, true, true, true, true, true, false, false, false, false, false, false, false]) rfl (by kernel_rfl) (by kernel_rfl) (by kernel_rfl) (by rfl) (fun _ _ _ h => h) (Or.inl ⟨by rfl, ?_⟩) (by assumption) ?_
            rotate_left
            · intro w hSw
              (try dsimp only at hSw)
              obtain ⟨hS0', hS1'⟩ := hSw
              go_simp
              with_reducible rfl
            try simp only [Act.put, List.getElem_toArray, List.getElem_cons_zero, List.getElem_cons_succ, List.setIfInBounds_toArray, List.set_cons_zero, List.set_cons_succ]
            refine wpAnyN_step (i := 6) (listed' := #[true, true, true, true, true, true, true, false, false, false, false, false, false]) (by kernel_rfl) rfl (by rfl) (fun K hK => ?_)
            refine step_o (by rfl) _ _ _ (by rfl) (3) (0) (v) (by rfl) (by rfl) (by rfl) ?_
            intro wo0 hb0
            have hz0' : wr.heap.size ≤ wo0.heap.size := hb0.size
            have T0' := Lib.hid ((HT.out.keep (Below.drew (Below.refl _ _))).keep hb0)
            have hT0' := T0'.out.blk.lt
            refine hK.out _ _ ?_ (fun hHeld => ?_)
            · (try dsimp only)
              exact fun _ => ⟨(hb0.cell (p := ad.add j) hl0).trans hHeld.1, (hb0.cell (p := ⟨wS.heap.size, 0, none⟩) hl1).trans hHeld.2⟩
            clear hK K
            replace hHeld := hHeld rfl
            try simp only [Act.put, List.getElem_toArray, List.getElem_cons_zero, List.getElem_cons_succ, List.setIfInBounds_toArray, List.set_cons_zero, List.set_cons_succ]
            replace hl0 := Nat.lt_of_lt_of_le hl0 hz0'
            replace hl1 := Nat.lt_of_lt_of_le hl1 hz0'
            refine wpAnyN_step (i := 7) (listed' := #[true, true, true, true, true, true, true, true, false, false, false, false, false]) (by kernel_rfl) rfl (by rfl) (fun K hK => ?_)
            refine step_ops1 (by rfl) _ (by rfl) (3) (0) (v) (by rfl) ?_
            refine hK.out _ _ ?_ (fun hHeld => ?_)
            · (try dsimp only)
              exact fun _ => ⟨(World.cell?_alloc_lt _ _ _ hl0).trans hHeld.1, (World.cell?_alloc_lt _ _ _ hl1).trans hHeld.2⟩
            clear hK K
            replace hHeld := hHeld rfl
            try simp only [Act.put, List.getElem_toArray, List.getElem_cons_zero, List.getElem_cons_succ, List.setIfInBounds_toArray, List.set_cons_zero, List.set_cons_succ]
            refine wpAnyN_step (i := 8) (listed' := #[true, true, true, true, true, true, true, true, true, false, false, false, false]) (by kernel_rfl) rfl (by rfl) (fun K hK => ?_)
            refine step_t (by rfl) _ _ (by rfl) (31) (some ⟨wo0.heap.size, 0, none⟩) 1 1 (by rfl) (by rfl) ?_
            intro wT hbt
            have hzT := hbt.size
            have T3 := ((T0'.out).keep ((Below.refl _ _).alloc (Nat.le_refl _) _)).keep hbt
            have X3 : OpsLie wT ((⟨31, [⟨3, 0, v⟩]⟩ : Kn.Task), some ⟨wo0.heap.size, 0, none⟩, 1) := by (have h9 := (Whole.made wo0 32 #[.int .i64 (3), .int .i64 (0), .int .i64 (v)]).same (hbt.block _ (by simp))); exact .of_whole (Nat.le_of_ble_eq_true rfl) rfl h9
            have T4 := Lib.hid (T3.keep ((Below.refl wT.heap.size wT).alloc (Nat.le_refl _) (.cells #[.int .i64 (31), .slice (some ⟨wo0.heap.size, 0, none⟩) 1 1] 29)))
            have X4 := Lib.hid (X3.below ((Below.refl wT.heap.size wT).alloc (Nat.le_refl _) (.cells #[.int .i64 (31), .slice (some ⟨wo0.heap.size, 0, none⟩) 1 1] 29)))
            simp only [World.size_alloc] at hzT
            have h3 := T3.blk.lt
            clear T3 X3 T0'
            refine hK.out _ _ ?_ (fun hHeld => ?_)
            · (try dsimp only)
              exact fun _ => ⟨(hbt.cell (p := ad.add j) (lt_alloc hl0 _)).trans hHeld.1, (hbt.cell (p := ⟨wS.heap.size, 0, none⟩) (lt_alloc hl1 _)).trans hHeld.2⟩
            clear hK K
            replace hHeld := hHeld rfl
            try simp only [Act.put, List.getElem_toArray, List.getElem_cons_zero, List.getElem_cons_succ, List.setIfInBounds_toArray, List.set_cons_zero, List.set_cons_succ]
            replace hl0 := Nat.lt_of_lt_of_le (lt_alloc hl0 _) hbt.size
            replace hl1 := Nat.lt_of_lt_of_le (lt_alloc hl1 _) hbt.size
            refine wpAnyN_step (i := 9) (listed' := #[true, true, true, true, true, true, true, true, true, true, false, false, false]) (by kernel_rfl) rfl (by rfl) (fun K hK => ?_)
            refine step_task1 (by rfl) _ (by rfl) (31) (some ⟨wo0.heap.size, 0, none⟩) 1 1 (by rfl) ?_
            refine hK.out _ _ ?_ (fun hHeld => ?_)
            · (try dsimp only)
              exact fun _ => ⟨(World.cell?_alloc_lt _ _ _ hl0).trans hHeld.1, (World.cell?_alloc_lt _ _ _ hl1).trans hHeld.2⟩
            clear hK K
            replace hHeld := hHeld rfl
            try simp only [Act.put, List.getElem_toArray, List.getElem_cons_zero, List.getElem_cons_succ, List.setIfInBounds_toArray, List.set_cons_zero, List.set_cons_succ]
            refine wpAnyN_step (i := 10) (listed' := #[true, true, true, true, true, true, true, true, true, true, true, false, false]) (by kernel_rfl) rfl (by rfl) (fun K hK => ?_)
            refine step_append_lies _ (by rfl) _ _ _ (by rfl) (wS.heap.size + 1) 29 i0 _ 2 32 Try.underlying23 hi iz0 iz1 iz2 rfl (by omega) V rs.length (tkC rs) (by rfl) T4.out.row ⟨wT.heap.size, 0, none⟩ 1 1 [.int .i64 (31), .slice (some ⟨wo0.heap.size, 0, none⟩) 1 1] (by rfl) (by rfl) (World.news_of_block (cs := #[.int .i64 (31), .slice (some ⟨wo0.heap.size, 0, none⟩) 1 1]) (t := 29) (fr := (0, 0)) (heap_alloc_new _ _)) (by simp [Value.oneCell']) (by omega) (by unfold maxLen; omega) (by omega) (by simp; omega) (wT.heap.size + 1) (by simp) ?_
            intro gg cap w5 hown hgrow hat hlt5
            have hVlt := T4.out.row.lt
            have y := T4.out.blk.grown hgrow (own_block T4.out.row T4.out.blk (by decide))
            have y0 := y.cell 0
            have y1 := y.frozen 0
            simp only [List.getElem?_toArray, List.getElem?_cons_zero] at y0
            have TP := Lib.hid (T4.out.push (x := ((⟨31, [⟨3, 0, v⟩]⟩ : Kn.Task), some ⟨wo0.heap.size, 0, none⟩, 1)) X4.out (by exact hown) hgrow)
            simp only [hrl] at TP
            clear y hown hat
            refine hK.out _ _ ?_ (fun hHeld => ?_)
            · (try dsimp only)
              exact fun _ => ⟨(hgrow.cell_far (ad.add j) (lt_alloc hl0 _) (fun e => absurd (hVlt _ e.symm).1 (Nat.not_le_of_lt (Nat.lt_succ_of_lt hadk0)))).trans hHeld.1, (hgrow.cell_far (⟨wS.heap.size, 0, none⟩) (lt_alloc hl1 _) (fun e => absurd (hVlt _ e.symm).1 (Nat.not_succ_le_self _))).trans hHeld.2⟩
            clear hK K
            replace hHeld := hHeld rfl
            try simp only [Act.put, List.getElem_toArray, List.getElem_cons_zero, List.getElem_cons_succ, List.setIfInBounds_toArray, List.set_cons_zero, List.set_cons_succ]
            refine wpAnyN_take (i := 11) (v := ?_) (listed' := #[true, true, true, true, true, true, true, true, true, true, true, true, false]) rfl (by kernel_rfl) (by kernel_rfl) (by kernel_rfl) (by rfl) (fun _ _ _ h => h) (Or.inl ⟨by rfl, ?_⟩) (by assumption) ?_
            rotate_left
            · intro w hSw
              (try dsimp only at hSw)
              obtain ⟨hS0', hS1'⟩ := hSw
              go_simp
              with_reducible rfl
            try simp only [Act.put, List.getElem_toArray, List.getElem_cons_zero, List.getElem_cons_succ, List.setIfInBounds_toArray, List.set_cons_zero, List.set_cons_succ]
            refine wpAnyN_step (i := 12) (listed' := #[true, true, true, true, true, true, true, true, true, true, true, true, true]) (by kernel_rfl) rfl (by rfl) (fun K hK => ?_)
            refine step_store23 (by rfl) _ _ (by rfl) (by rfl) (by rfl) y0 y1 ?_
            refine hK.out _ _ ?_ (fun hHeld => ?_)
            · exact fun h => absurd h (by decide)
            clear hK K
            try simp only [Act.put, List.getElem_toArray, List.getElem_cons_zero, List.getElem_cons_succ]
            refine wpAnyN_done (by kernel_rfl) ?_ _
            go_wp2_with fail
            go_roundg (N2 - (j + 1))
            case measure => omega
            case rel => exact ⟨j + 1, _, rs ++ [((⟨31, [⟨3, 0, v⟩]⟩ : Kn.Task), some ⟨wo0.heap.size, 0, none⟩, 1)], lt, by omega, by go_num, by go_num, TP.out, by rw [List.map_append, HS.out, ← Nat.add_assoc, List.range_succ, List.map_append, List.map_singleton, List.map_singleton, HF.out], HOK2.out, Nat.le_refl _⟩
        · have hlt' : ¬ (j : Int) < N2 := by omega
          have hjn : j = N2 := by omega
          have hrl : rs.length = N1 + j := by have := congrArg List.length hrs; simpa using this
          subst hjn
          have HRL := Lib.hid hrl
          obtain ⟨A9, c9, hV⟩ := hT.shape
          rw [hrl] at hV
          subst hV
          have k0 := hT.blk.cell 0
          have k1 := hT.blk.cell 1
          have k2 := hT.blk.cell 2
          have k3 := hT.blk.cell 3
          have kf := hT.blk.frozen 0
          have hlt4 := hT.blk.lt
          simp only [List.getElem?_toArray, List.getElem?_cons_zero, List.getElem?_cons_succ] at k0 k1 k2 k3
          have HT := Lib.hid hT
          have HS := Lib.hid hrs
          have hltm := hok.2.1
          have hf := Lib.hid (times_fits' (D := timD l1 l2 N1) (ns := N1) (n := N1 + j) (by omega) (by omega) (fun i hi => by have := hok.1 i hi; omega))
          have hrun := Kn.times_run (limit := L) hf.out (by omega) (by omega) (fun i hi => (hok.1 i hi).1) (fun i hi => (hok.1 i hi).2.2) hok.2.2
          have HOUT := Lib.hid hrun.1
          have HTK := Lib.hid hrun.2
          clear hT hrs hrl hrun hok
          go_wp2_with fail
          refine (run_at (t := Kn.timesT (timD l1 l2 N1) N1 (N1 + j)) (ticks := L) (ops := 1000) (by simp [Kn.timesT]) rfl rfl rfl rfl rfl ?tab hf.out (by omega) (by omega)).mono ?_
          case tab => exact (HT.out.tab (t := Kn.timesT (timD l1 l2 N1) N1 (N1 + j)) HS.out.symm (by have h8 := HSW.out.same (HT.out.bel.block _ hzs1); exact Reads.of_whole (n := 1) (sz := 1) h8 h8.lt rfl) (Reads.nil _) (by have := HRL.out; omega) (by show (1 : Nat) ≤ 1000; omega) (Nat.zero_le _)).1
          rintro e w9 hRR
          obtain ⟨P9, Q9, R9, pn, pc, qn, qc, rn, rc, rfl, hb9, HRA⟩ := hRR.opened
          clear hRR
          generalize Kn.runT (Kn.timesT (timD l1 l2 N1) N1 (N1 + j)) L 1000 = k at *
          have hbel := HB1.out.trans ((HT.out.bel.trans (hb9.mono HT.out.bel.size)).mono hzS)
          have HBE := Lib.hid (hbel.alloc hbel.size (.cells #[.slice P9 pn pc, .slice Q9 qn qc, .slice R9 rn rc, .int .i64 k.ticks, .int .i64 k.ops] 36))
          have HC := Lib.hid (HRA.out.conv _ ((Below.refl w9.heap.size w9).alloc (Nat.le_refl _) (.cells #[.slice P9 pn pc, .slice Q9 qn qc, .slice R9 rn rc, .int .i64 k.ticks, .int .i64 k.ops] 36)))
          clear hb9 hbel 
          have HPN := HRA.out.len
          have htk := HTK.out
          have HB2 := HBE.out
          have hout := HOUT.out
          rw [hout] at HPN
          have hpn : pn = 0 := HPN
          subst hpn
          rw [htk] at HB2 ⊢
          clear HRA HC HBE htk HTK HOUT hout HPN
          by_cases hmin : L < lt
          · have hmin' : (L : Int) < lt := by omega
            rw [show min lt L = L by omega] at HB2 ⊢
            go_wp2_with (first | (go_at_call 23; refine (num_any _ _).mono ?_; rintro e w3 ⟨rfl, rfl⟩))
            go_ret
            exact ⟨rfl, HB2⟩
          · have hmin' : ¬ (L : Int) < lt := by omega
            rw [show min lt L = lt by omega] at HB2 ⊢
            go_wp2_with (first | (go_at_call 23; refine (num_any _ _).mono ?_; rintro e w3 ⟨rfl, rfl⟩))
            go_ret
            exact ⟨rfl, HB2⟩
end Go.Proofs.Ytncbgnpoffolcaa
