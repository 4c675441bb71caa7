/-
  KernSems: the walk of the law.
-/
import Derived.Test.YtncbgnpoffolcaaWn
import Derived.Test.YtncbgnpoffolcaaSb
import Derived.Test.YtncbgnpoffolcaaOl
import Derived.Test.YtncbgnpoffolcaaRnd
import Derived.Test.YtncbgnpoffolcaaSemP
namespace Go.Proofs.Ytncbgnpoffolcaa
open Go.RowKit
theorem info32' : (Try.prog.info? 32).map (fun i => (i.zero, i.size, i.bytes)) = some (some (.agg #[.int .i64 0, .int .i64 0, .int .i64 0]), 3, 24) := by kernel_rfl
set_option maxRecDepth 100000 in
set_option maxHeartbeats 16000000 in
theorem kernSems_any (a b c : Int) (w : World) : Calls Try.prog 11 #[.int .i64 a, .int .i64 b, .int .i64 c] w fun r w' => r = .returned (.bool true) ∧ Below w.heap.size w w' := by
  obtain ⟨i0, hi, iz0, iz1, iz2⟩ := info_parts info29
  obtain ⟨j0, hj, jz0, jz1, jz2⟩ := info_parts info32'
  by_cases b0 : a < 0
  · as_aux_lemma =>
      go_enter Try.func11, Try.ntmps11
      go_wp2_with fail
      refine (alive_any w).mono ?_
      rintro e w1 ⟨rfl, hb1⟩
      go_wp2_with fail
      go_ret
      exact ⟨rfl, hb1⟩
  by_cases b1 : 10 < a
  · as_aux_lemma =>
      go_enter Try.func11, Try.ntmps11
      go_wp2_with fail
      refine (alive_any w).mono ?_
      rintro e w1 ⟨rfl, hb1⟩
      go_wp2_with fail
      go_ret
      exact ⟨rfl, hb1⟩
  by_cases b2 : b < 0
  · as_aux_lemma =>
      go_enter Try.func11, Try.ntmps11
      go_wp2_with fail
      refine (alive_any w).mono ?_
      rintro e w1 ⟨rfl, hb1⟩
      go_wp2_with fail
      go_ret
      exact ⟨rfl, hb1⟩
  by_cases b3 : 10 < b
  · as_aux_lemma =>
      go_enter Try.func11, Try.ntmps11
      go_wp2_with fail
      refine (alive_any w).mono ?_
      rintro e w1 ⟨rfl, hb1⟩
      go_wp2_with fail
      go_ret
      exact ⟨rfl, hb1⟩
  by_cases b4 : c < 0
  · as_aux_lemma =>
      go_enter Try.func11, Try.ntmps11
      go_wp2_with fail
      refine (alive_any w).mono ?_
      rintro e w1 ⟨rfl, hb1⟩
      go_wp2_with fail
      go_ret
      exact ⟨rfl, hb1⟩
  by_cases b5 : 20 < c
  · as_aux_lemma =>
      go_enter Try.func11, Try.ntmps11
      go_wp2_with fail
      refine (alive_any w).mono ?_
      rintro e w1 ⟨rfl, hb1⟩
      go_wp2_with fail
      go_ret
      exact ⟨rfl, hb1⟩
  obtain ⟨BG, rfl⟩ : ∃ N : Nat, a = N := ⟨a.toNat, by omega⟩
  obtain ⟨G, rfl⟩ : ∃ N : Nat, b = N := ⟨b.toNat, by omega⟩
  obtain ⟨N, rfl⟩ : ∃ N : Nat, c = N := ⟨c.toNat, by omega⟩
  go_enter Try.func11, Try.ntmps11
  go_wp2_with fail
  refine (alive_any w).mono ?_
  rintro e w1 ⟨rfl, hb1⟩
  have HB1 := Lib.hid hb1
  have hz1 := hb1.size
  clear hb1
  go_wp2_with fail
  obtain ⟨wS, hwS⟩ : ∃ wS, wS = w1.alloc (.cells #[.int .i64 (BG : Int)] 3) := ⟨_, rfl⟩
  have hsz : wS.heap.size = w1.heap.size + 1 := by rw [hwS, World.size_alloc]
  have HSB := Lib.hid (show Below w1.heap.size w1 wS by rw [hwS]; exact (Below.refl _ _).alloc (Nat.le_refl _) _)
  have HSW := Lib.hid (show Whole wS w1.heap.size 3 #[.int .i64 (BG : Int)] by rw [hwS]; exact Whole.made w1 3 _)
  have hnil := Lib.hid (TL.nil wS (.slice (some ⟨w1.heap.size, 0, none⟩) 1 1) (.slice none 0 0) 0)
  rw [← hwS, ← hsz]
  replace HB1 := Lib.hid (HB1.out.trans (HSB.out.mono hz1))
  have hzS : w.heap.size ≤ wS.heap.size := by omega
  have hzs1 : w1.heap.size < wS.heap.size := by omega
  clear hwS hsz HSB
  go_loopg [9] N (fun kk i wr => ∃ (j : Nat) (V : Value) (rs : List (Kn.Task × Option Addr × Nat)), j ≤ N ∧ i = .int .i64 j ∧ TL wS wr V (.slice (some ⟨w1.heap.size, 0, none⟩) 1 1) (.slice none 0 0) 0 rs ∧ rs.map (·.1) = (List.range j).map (Kn.semF N G) ∧ N - j ≤ kk)
  case atStart => exact ⟨0, _, [], Nat.zero_le _, rfl, hnil.out, rfl, by omega⟩
  case round =>
    obtain ⟨j, V, rs, hjN, rfl, hT, hrs, hkk⟩ := hrel
    by_cases hlt : j < N
    · have hlt' : (j : Int) < N := by omega
      have hrl : rs.length = j := by have := congrArg List.length hrs; simpa using this
      have hzr := hT.bel.size
      have k0 := hT.blk.cell 0
      have k1 := hT.blk.frozen 0
      simp only [List.getElem?_toArray, List.getElem?_cons_zero] at k0
      have htb := hT.blk.lt
      have HT := Lib.hid hT
      have HS := Lib.hid hrs
      clear hT hrs
      go_wp2_with fail
      have hl0 : Addr.block (⟨wS.heap.size, 0, none⟩) < wr.heap.size := htb
      refine wp_region_need (S := fun w' => w'.cell? (⟨wS.heap.size, 0, none⟩) = some (V)) (need := fun i => i != 13) 14 #[false, false, false, false, false, false, false, false, false, false, false, false, false, false] (by rfl) (by rfl) (by kernel_rfl) ?_ (fun hHeld => ?_)
      · (try dsimp only)
        exact k0
      refine wpAnyN_take (i := 0) (v := ?_) (listed' := #[true, false, false, false, false, false, false, false, false, false, false, false, false, false]) rfl (by kernel_rfl) (by kernel_rfl) (by kernel_rfl) (by rfl) (fun _ _ _ h => h) (Or.inl ⟨by rfl, ?_⟩) (by assumption) ?_
      rotate_left
      · intro w hSw
        (try dsimp only at hSw)
        go_simp
        with_reducible rfl
      try simp only [Act.put, List.getElem_toArray, List.getElem_cons_zero, List.setIfInBounds_toArray, List.set_cons_zero, List.set_cons_succ]
      refine wpAnyN_take (i := 1) (v := ?_) (listed' := #[true, true, false, false, false, false, false, false, false, false, false, false, false, false]) rfl (by kernel_rfl) (by kernel_rfl) (by kernel_rfl) (by rfl) (fun _ _ _ h => h) (Or.inl ⟨by rfl, ?_⟩) (by assumption) ?_
      rotate_left
      · intro w hSw
        (try dsimp only at hSw)
        go_simp
        with_reducible rfl
      try simp only [Act.put, List.getElem_toArray, List.getElem_cons_zero, List.getElem_cons_succ, List.setIfInBounds_toArray, List.set_cons_zero, List.set_cons_succ]
      refine wpAnyN_take (i := 2) (v := ?_) (listed' := #[true, true, true, false, false, false, false, false, false, false, false, false, false, false]) rfl (by kernel_rfl) (by kernel_rfl) (by kernel_rfl) (by rfl) (fun _ _ _ h => h) (Or.inl ⟨by rfl, ?_⟩) (by assumption) ?_
      rotate_left
      · intro w hSw
        (try dsimp only at hSw)
        go_simp
        with_reducible rfl
      try simp only [Act.put, List.getElem_toArray, List.getElem_cons_zero, List.getElem_cons_succ, List.setIfInBounds_toArray, List.set_cons_zero, List.set_cons_succ]
      refine wpAnyN_take (i := 3) (v := ?_) (listed' := #[true, true, true, true, false, false, false, false, false, false, false, false, false, false]) rfl (by kernel_rfl) (by kernel_rfl) (by kernel_rfl) (by rfl) (fun _ _ _ h => h) (Or.inl ⟨by rfl, ?_⟩) (by assumption) ?_
      rotate_left
      · intro w hSw
        (try dsimp only at hSw)
        go_simp
        with_reducible rfl
      try simp only [Act.put, List.getElem_toArray, List.getElem_cons_zero, List.getElem_cons_succ, List.setIfInBounds_toArray, List.set_cons_zero, List.set_cons_succ]
      refine wpAnyN_take (i := 5) (v := ?_) (listed' := #[true, true, true, true, false, true, false, false, false, false, false, false, false, false]) rfl (by kernel_rfl) (by kernel_rfl) (by kernel_rfl) (by rfl) (fun _ _ _ h => h) (Or.inl ⟨by rfl, ?_⟩) (by assumption) ?_
      rotate_left
      · intro w hSw
        (try dsimp only at hSw)
        go_simp
        with_reducible rfl
      try simp only [Act.put, List.getElem_toArray, List.getElem_cons_zero, List.getElem_cons_succ, List.setIfInBounds_toArray, List.set_cons_zero, List.set_cons_succ]
      refine wpAnyN_take (i := 6) (v := ?_) (listed' := #[true, true, true, true, false, true, true, false, false, false, false, false, false, false]) rfl (by kernel_rfl) (by kernel_rfl) (by kernel_rfl) (by rfl) (fun _ _ _ h => h) (Or.inl ⟨by rfl, ?_⟩) (by assumption) ?_
      rotate_left
      · intro w hSw
        (try dsimp only at hSw)
        go_simp
        with_reducible rfl
      try simp only [Act.put, List.getElem_toArray, List.getElem_cons_zero, List.getElem_cons_succ, List.setIfInBounds_toArray, List.set_cons_zero, List.set_cons_succ]
      refine wpAnyN_step (i := 4) (listed' := #[true, true, true, true, true, true, true, false, false, false, false, false, false, false]) (by kernel_rfl) rfl (by rfl) (fun K hK => ?_)
      refine step_o (by rfl) _ _ _ (by rfl) (3) (0) (-1) (by rfl) (by rfl) (by rfl) ?_
      intro wo0 hb0
      have hz0' : wr.heap.size ≤ wo0.heap.size := hb0.size
      have T0' := Lib.hid ((HT.out.keep (Below.drew (Below.refl _ _))).keep hb0)
      have hT0' := T0'.out.blk.lt
      refine hK.out _ _ ?_ (fun hHeld => ?_)
      · (try dsimp only)
        exact fun _ => (hb0.cell (p := ⟨wS.heap.size, 0, none⟩) hl0).trans hHeld
      clear hK K
      replace hHeld := hHeld rfl
      try simp only [Act.put, List.getElem_toArray, List.getElem_cons_zero, List.getElem_cons_succ, List.setIfInBounds_toArray, List.set_cons_zero, List.set_cons_succ]
      replace hl0 := Nat.lt_of_lt_of_le hl0 hz0'
      refine wpAnyN_step (i := 7) (listed' := #[true, true, true, true, true, true, true, true, false, false, false, false, false, false]) (by kernel_rfl) rfl (by rfl) (fun K hK => ?_)
      refine step_o (by rfl) _ _ _ (by rfl) (0) (97 + (j : Int)) (0) (by rfl) (by first | exact Eq.trans (b := Value.int .i64 (IntKind.i64.wrap (97 + (j : Int)))) rfl (congrArg (Value.int .i64) (by rw [IntKind.wrap_i64]; omega)) | rfl) (by rfl) ?_
      intro wo1 hb1
      have hz1' : wo0.heap.size ≤ wo1.heap.size := hb1.size
      have T1' := Lib.hid ((T0'.out).keep hb1)
      have hT1' := T1'.out.blk.lt
      clear T0'
      refine hK.out _ _ ?_ (fun hHeld => ?_)
      · (try dsimp only)
        exact fun _ => (hb1.cell (p := ⟨wS.heap.size, 0, none⟩) hl0).trans hHeld
      clear hK K
      replace hHeld := hHeld rfl
      try simp only [Act.put, List.getElem_toArray, List.getElem_cons_zero, List.getElem_cons_succ, List.setIfInBounds_toArray, List.set_cons_zero, List.set_cons_succ]
      replace hl0 := Nat.lt_of_lt_of_le hl0 hz1'
      refine wpAnyN_step (i := 8) (listed' := #[true, true, true, true, true, true, true, true, true, false, false, false, false, false]) (by kernel_rfl) rfl (by rfl) (fun K hK => ?_)
      refine step_ops2 (by rfl) _ _ (by rfl) (3) (0) (-1) (0) (97 + (j : Int)) (0) (by rfl) (by rfl) ?_
      refine hK.out _ _ ?_ (fun hHeld => ?_)
      · (try dsimp only)
        exact fun _ => (World.cell?_alloc_lt _ _ _ hl0).trans hHeld
      clear hK K
      replace hHeld := hHeld rfl
      try simp only [Act.put, List.getElem_toArray, List.getElem_cons_zero, List.getElem_cons_succ, List.setIfInBounds_toArray, List.set_cons_zero, List.set_cons_succ]
      refine wpAnyN_step (i := 9) (listed' := #[true, true, true, true, true, true, true, true, true, true, false, false, false, false]) (by kernel_rfl) rfl (by rfl) (fun K hK => ?_)
      refine step_t (by rfl) _ _ (by rfl) (1 + (j : Int)) (some ⟨wo1.heap.size, 0, none⟩) 2 2 (by first | exact Eq.trans (b := Value.int .i64 (IntKind.i64.wrap (1 + (j : Int)))) rfl (congrArg (Value.int .i64) (by rw [IntKind.wrap_i64]; omega)) | rfl) (by rfl) ?_
      intro wT hbt
      have hzT := hbt.size
      have T3 := ((T1'.out).keep ((Below.refl _ _).alloc (Nat.le_refl _) _)).keep hbt
      have X3 : OpsLie wT ((⟨1 + (j : Int), [⟨3, 0, -1⟩, ⟨0, 97 + (j : Int), 0⟩]⟩ : Kn.Task), some ⟨wo1.heap.size, 0, none⟩, 2) := by (have h9 := (Whole.made wo1 32 #[.int .i64 (3), .int .i64 (0), .int .i64 (-1), .int .i64 (0), .int .i64 (97 + (j : Int)), .int .i64 (0)]).same (hbt.block _ (by simp))); exact .of_whole (Nat.le_of_ble_eq_true rfl) rfl h9
      have T4 := Lib.hid (T3.keep ((Below.refl wT.heap.size wT).alloc (Nat.le_refl _) (.cells #[.int .i64 (1 + (j : Int)), .slice (some ⟨wo1.heap.size, 0, none⟩) 2 2] 29)))
      have X4 := Lib.hid (X3.below ((Below.refl wT.heap.size wT).alloc (Nat.le_refl _) (.cells #[.int .i64 (1 + (j : Int)), .slice (some ⟨wo1.heap.size, 0, none⟩) 2 2] 29)))
      simp only [World.size_alloc] at hzT
      have h3 := T3.blk.lt
      clear T3 X3 T1'
      refine hK.out _ _ ?_ (fun hHeld => ?_)
      · (try dsimp only)
        exact fun _ => (hbt.cell (p := ⟨wS.heap.size, 0, none⟩) (lt_alloc hl0 _)).trans hHeld
      clear hK K
      replace hHeld := hHeld rfl
      try simp only [Act.put, List.getElem_toArray, List.getElem_cons_zero, List.getElem_cons_succ, List.setIfInBounds_toArray, List.set_cons_zero, List.set_cons_succ]
      replace hl0 := Nat.lt_of_lt_of_le (lt_alloc hl0 _) hbt.size
      refine wpAnyN_step (i := 10) (listed' := #[true, true, true, true, true, true, true, true, true, true, true, false, false, false]) (by kernel_rfl) rfl (by rfl) (fun K hK => ?_)
      refine step_task1 (by rfl) _ (by rfl) (1 + (j : Int)) (some ⟨wo1.heap.size, 0, none⟩) 2 2 (by rfl) ?_
      refine hK.out _ _ ?_ (fun hHeld => ?_)
      · (try dsimp only)
        exact fun _ => (World.cell?_alloc_lt _ _ _ hl0).trans hHeld
      clear hK K
      replace hHeld := hHeld rfl
      try simp only [Act.put, List.getElem_toArray, List.getElem_cons_zero, List.getElem_cons_succ, List.setIfInBounds_toArray, List.set_cons_zero, List.set_cons_succ]
      refine wpAnyN_step (i := 11) (listed' := #[true, true, true, true, true, true, true, true, true, true, true, true, false, false]) (by kernel_rfl) rfl (by rfl) (fun K hK => ?_)
      refine step_append_lies _ (by rfl) _ _ _ (by rfl) (wS.heap.size + 1) 29 i0 _ 2 32 Try.underlying23 hi iz0 iz1 iz2 rfl (by omega) V rs.length (tkC rs) (by rfl) T4.out.row ⟨wT.heap.size, 0, none⟩ 1 1 [.int .i64 (1 + (j : Int)), .slice (some ⟨wo1.heap.size, 0, none⟩) 2 2] (by rfl) (by rfl) (World.news_of_block (cs := #[.int .i64 (1 + (j : Int)), .slice (some ⟨wo1.heap.size, 0, none⟩) 2 2]) (t := 29) (fr := (0, 0)) (heap_alloc_new _ _)) (by simp [Value.oneCell']) (by omega) (by unfold maxLen; omega) (by omega) (by simp; omega) (wT.heap.size + 1) (by simp) ?_
      intro gg cap w5 hown hgrow hat hlt5
      have hVlt := T4.out.row.lt
      have y := T4.out.blk.grown hgrow (own_block T4.out.row T4.out.blk (by decide))
      have y0 := y.cell 0
      have y1 := y.frozen 0
      simp only [List.getElem?_toArray, List.getElem?_cons_zero] at y0
      have TP := Lib.hid (T4.out.push (x := ((⟨1 + (j : Int), [⟨3, 0, -1⟩, ⟨0, 97 + (j : Int), 0⟩]⟩ : Kn.Task), some ⟨wo1.heap.size, 0, none⟩, 2)) X4.out (by exact hown) hgrow)
      simp only [hrl] at TP
      clear y hown hat
      refine hK.out _ _ ?_ (fun hHeld => ?_)
      · (try dsimp only)
        exact fun _ => (hgrow.cell_far (⟨wS.heap.size, 0, none⟩) (lt_alloc hl0 _) (fun e => absurd (hVlt _ e.symm).1 (Nat.not_succ_le_self _))).trans hHeld
      clear hK K
      replace hHeld := hHeld rfl
      try simp only [Act.put, List.getElem_toArray, List.getElem_cons_zero, List.getElem_cons_succ, List.setIfInBounds_toArray, List.set_cons_zero, List.set_cons_succ]
      refine wpAnyN_take (i := 12) (v := ?_) (listed' := #[true, true, true, true, true, true, true, true, true, true, true, true, true, false]) rfl (by kernel_rfl) (by kernel_rfl) (by kernel_rfl) (by rfl) (fun _ _ _ h => h) (Or.inl ⟨by rfl, ?_⟩) (by assumption) ?_
      rotate_left
      · intro w hSw
        (try dsimp only at hSw)
        go_simp
        with_reducible rfl
      try simp only [Act.put, List.getElem_toArray, List.getElem_cons_zero, List.getElem_cons_succ, List.setIfInBounds_toArray, List.set_cons_zero, List.set_cons_succ]
      refine wpAnyN_step (i := 13) (listed' := #[true, true, true, true, true, true, true, true, true, true, true, true, true, true]) (by kernel_rfl) rfl (by rfl) (fun K hK => ?_)
      refine step_store23 (by rfl) _ _ (by rfl) (by rfl) (by rfl) y0 y1 ?_
      refine hK.out _ _ ?_ (fun hHeld => ?_)
      · exact fun h => absurd h (by decide)
      clear hK K
      try simp only [Act.put, List.getElem_toArray, List.getElem_cons_zero, List.getElem_cons_succ]
      refine wpAnyN_done (by kernel_rfl) ?_ _
      go_wp2_with fail
      go_roundg (N - (j + 1))
      case measure => omega
      case rel => exact ⟨j + 1, _, rs ++ [((⟨1 + (j : Int), [⟨3, 0, -1⟩, ⟨0, 97 + (j : Int), 0⟩]⟩ : Kn.Task), some ⟨wo1.heap.size, 0, none⟩, 2)], by omega, by go_num, TP.out, by rw [List.map_append, HS.out, List.range_succ, List.map_append, List.map_singleton, List.map_singleton, Kn.semF_lt hlt], Nat.le_refl _⟩
    · have hlt' : ¬ (j : Int) < N := by omega
      have hjn : N = j := by omega
      subst hjn
      have hrl : rs.length = N := by have := congrArg List.length hrs; simpa using this
      have HRL := Lib.hid hrl
      obtain ⟨A1, c1, hV⟩ := hT.shape
      rw [hrl] at hV
      subst hV
      have HT := Lib.hid hT
      have HS := Lib.hid hrs
      clear hT hrs hrl hnil
      go_wp2_with (first | (go_at_call 20; refine (t_any _ _ _ _ _).mono ?_; rintro e wg ⟨rfl, hbg⟩; replace HT := Lib.hid (HT.out.keep hbg); have hzg := hbg.size; clear hbg))
      have hHTl := HT.out.blk.lt
      have HX0 := Lib.hid (OL.start (N := wg.heap.size + 1) (Whole.made wg 29 #[.int .i64 31, .slice none 0 0]))
      have HB0 := Lib.hid ((Below.refl wg.heap.size wg).alloc (Nat.le_refl _) (.cells #[.int .i64 31, .slice none 0 0] 29))
      go_loopg [11] G (fun kk i wr => ∃ (q : Nat) (V' : Value), q ≤ G ∧ i = .int .i64 q ∧ OL wr wg.heap.size (wg.heap.size + 1) (.int .i64 31) V' (List.replicate q ⟨4, 0, 0⟩) ∧ Below wg.heap.size wg wr ∧ G - q ≤ kk)
      case atStart => exact ⟨0, _, Nat.zero_le _, rfl, HX0.out, HB0.out, by omega⟩
      case round =>
        clear HX0 HB0
        obtain ⟨q, V, hq, rfl, hO, hbx, hkk2⟩ := hrel
        obtain ⟨ol, hold⟩ : ∃ ol : List Kn.Op, ol = List.replicate q ⟨4, 0, 0⟩ := ⟨_, rfl⟩
        rw [← hold] at hO
        have HL := Lib.hid (show ol.length ≤ 100 by rw [hold, List.length_replicate]; omega)
        have HOLD := Lib.hid hold
        clear hold
        have HO := Lib.hid hO
        have HBX := Lib.hid hbx
        have htb := hO.blk.lt
        have hzx := hbx.size
        by_cases hqG : q < G
        · have hqG' : (q : Int) < G := by omega
          have k0 := hO.blk.cell 1
          have k1 := hO.blk.frozen 1
          simp only [List.getElem?_toArray, List.getElem?_cons_succ, List.getElem?_cons_zero] at k0
          clear hO hbx
          have HNX := Lib.hid (Nat.le_succ wg.heap.size)
          have HXB := Lib.hid (Nat.le_refl wg.heap.size)
          go_wp2_with fail
          have hl0 : Addr.block (⟨wg.heap.size, 1, none⟩) < wr.heap.size := htb
          refine wp_region_need (S := fun w' => w'.cell? (⟨wg.heap.size, 1, none⟩) = some (V)) (need := fun i => i != 6) 7 #[false, false, false, false, false, false, false] (by rfl) (by rfl) (by kernel_rfl) ?_ (fun hHeld => ?_)
          · (try dsimp only)
            exact k0
          refine wpAnyN_take (i := 0) (v := ?_) (listed' := #[true, false, false, false, false, false, false]) rfl (by kernel_rfl) (by kernel_rfl) (by kernel_rfl) (by rfl) (fun _ _ _ h => h) (Or.inl ⟨by rfl, ?_⟩) (by assumption) ?_
          rotate_left
          · intro w hSw
            (try dsimp only at hSw)
            go_simp
            with_reducible rfl
          try simp only [Act.put, List.getElem_toArray, List.getElem_cons_zero, List.setIfInBounds_toArray, List.set_cons_zero, List.set_cons_succ]
          refine wpAnyN_take (i := 1) (v := ?_) (listed' := #[true, true, false, false, false, false, false]) rfl (by kernel_rfl) (by kernel_rfl) (by kernel_rfl) (by rfl) (fun _ _ _ h => h) (Or.inl ⟨by rfl, ?_⟩) (by assumption) ?_
          rotate_left
          · intro w hSw
            (try dsimp only at hSw)
            go_simp
            with_reducible rfl
          try simp only [Act.put, List.getElem_toArray, List.getElem_cons_zero, List.getElem_cons_succ, List.setIfInBounds_toArray, List.set_cons_zero, List.set_cons_succ]
          refine wpAnyN_step (i := 2) (listed' := #[true, true, true, false, false, false, false]) (by kernel_rfl) rfl (by rfl) (fun K hK => ?_)
          refine step_o (by rfl) _ _ _ (by rfl) (4) (0) (0) (by rfl) (by rfl) (by rfl) ?_
          intro wo0 hb0
          have hz0' : wr.heap.size ≤ wo0.heap.size := hb0.size
          have O0' := Lib.hid ((HO.out.keep (Below.drew (Below.refl _ _))).keep hb0)
          have B0' := Lib.hid ((HBX.out.drew).trans (hb0.mono HBX.out.size))
          refine hK.out _ _ ?_ (fun hHeld => ?_)
          · (try dsimp only)
            exact fun _ => (hb0.cell (p := ⟨wg.heap.size, 1, none⟩) hl0).trans hHeld
          clear hK K
          replace hHeld := hHeld rfl
          try simp only [Act.put, List.getElem_toArray, List.getElem_cons_zero, List.getElem_cons_succ, List.setIfInBounds_toArray, List.set_cons_zero, List.set_cons_succ]
          replace hl0 := Nat.lt_of_lt_of_le hl0 hz0'
          refine wpAnyN_step (i := 3) (listed' := #[true, true, true, true, false, false, false]) (by kernel_rfl) rfl (by rfl) (fun K hK => ?_)
          refine step_ops1 (by rfl) _ (by rfl) (4) (0) (0) (by rfl) ?_
          have O4 := Lib.hid (O0'.out.keep ((Below.refl wo0.heap.size wo0).alloc (Nat.le_refl _) (.cells #[.int .i64 (4), .int .i64 (0), .int .i64 (0)] 32)))
          have B4 := Lib.hid (B0'.out.alloc B0'.out.size (.cells #[.int .i64 (4), .int .i64 (0), .int .i64 (0)] 32))
          clear O0' B0'
          refine hK.out _ _ ?_ (fun hHeld => ?_)
          · (try dsimp only)
            exact fun _ => (World.cell?_alloc_lt _ _ _ hl0).trans hHeld
          clear hK K
          replace hHeld := hHeld rfl
          try simp only [Act.put, List.getElem_toArray, List.getElem_cons_zero, List.getElem_cons_succ, List.setIfInBounds_toArray, List.set_cons_zero, List.set_cons_succ]
          refine wpAnyN_step (i := 4) (listed' := #[true, true, true, true, true, false, false]) (by kernel_rfl) rfl (by rfl) (fun K hK => ?_)
          refine step_append_lies _ (by rfl) _ _ _ (by rfl) (wg.heap.size + 1) 32 j0 _ 3 24 Try.underlying27 hj jz0 jz1 jz2 rfl (by decide) V (ol).length (opsC (ol)) (by rfl) O4.out.row ⟨wo0.heap.size, 0, none⟩ 1 1 [.int .i64 (4), .int .i64 (0), .int .i64 (0)] (by rfl) (by rfl) (World.news_of_block (cs := #[.int .i64 (4), .int .i64 (0), .int .i64 (0)]) (t := 32) (fr := (0, 0)) (heap_alloc_new _ _)) (by simp [Value.oneCell']) (by decide) (by unfold maxLen; have := HL.out; omega) (by have := HL.out; omega) (lt_alloc hl0 _) (wo0.heap.size + 1) (by simp) ?_
          intro gg cap w5 hown hgrow hat hlt5
          have hVlt := O4.out.row.lt
          have y := O4.out.blk.grown hgrow (own_block O4.out.row O4.out.blk (by decide))
          have y1 := y.cell 1
          have yf := y.frozen 1
          simp only [List.getElem?_toArray, List.getElem?_cons_succ, List.getElem?_cons_zero] at y1
          have OP := Lib.hid (O4.out.push (m := [⟨4, 0, 0⟩]) hown hgrow)
          have HBP := Lib.hid (bel_push (i := 1) B4.out hgrow (Nat.le_refl _) (fun k hk => Nat.le_trans (HNX.out) (hVlt k hk).1) (HXB.out) (.slice (some ⟨gg, 0, none⟩) ((ol).length + 1) cap))
          clear hown
          refine hK.out _ _ ?_ (fun hHeld => ?_)
          · (try dsimp only)
            exact fun _ => (hgrow.cell_far (⟨wg.heap.size, 1, none⟩) (lt_alloc hl0 _) (fun e => own_block O4.out.row O4.out.blk (by decide) e.symm)).trans hHeld
          clear hK K
          replace hHeld := hHeld rfl
          try simp only [Act.put, List.getElem_toArray, List.getElem_cons_zero, List.getElem_cons_succ, List.setIfInBounds_toArray, List.set_cons_zero, List.set_cons_succ]
          refine wpAnyN_take (i := 5) (v := ?_) (listed' := #[true, true, true, true, true, true, false]) rfl (by kernel_rfl) (by kernel_rfl) (by kernel_rfl) (by rfl) (fun _ _ _ h => h) (Or.inl ⟨by rfl, ?_⟩) (by assumption) ?_
          rotate_left
          · intro w hSw
            (try dsimp only at hSw)
            go_simp
            with_reducible rfl
          try simp only [Act.put, List.getElem_toArray, List.getElem_cons_zero, List.getElem_cons_succ, List.setIfInBounds_toArray, List.set_cons_zero, List.set_cons_succ]
          refine wpAnyN_step (i := 6) (listed' := #[true, true, true, true, true, true, true]) (by kernel_rfl) rfl (by rfl) (fun K hK => ?_)
          refine step_store27 (by rfl) _ _ (by rfl) (by rfl) (by rfl) y1 yf ?_
          refine hK.out _ _ ?_ (fun hHeld => ?_)
          · exact fun h => absurd h (by decide)
          clear hK K
          try simp only [Act.put, List.getElem_toArray, List.getElem_cons_zero, List.getElem_cons_succ]
          refine wpAnyN_done (by kernel_rfl) ?_ _
          go_wp2_with fail
          go_roundg (G - (q + 1))
          case measure => omega
          case rel => exact ⟨q + 1, _, by omega, by go_num, by rw [List.replicate_succ', ← HOLD.out]; exact OP.out, HBP.out, Nat.le_refl _⟩
        · have hqG' : ¬ (q : Int) < G := by omega
          have hqn : G = q := by omega
          subst hqn
          obtain ⟨A, c, hV⟩ := hO.shape
          subst hV
          have HTr := HT.out.keep hbx
          have T4 := Lib.hid (HTr.keep ((Below.refl wr.heap.size wr).alloc (Nat.le_refl _) (.cells #[.int .i64 31, .slice A ol.length c] 29)))
          have X4 := Lib.hid ((hO.opsLie (p := 31) (Nat.le_trans HL.out (by decide))).below ((Below.refl wr.heap.size wr).alloc (Nat.le_refl _) (.cells #[.int .i64 31, .slice A ol.length c] 29)))
          have x0 := hO.blk.cell 0
          have x1 := hO.blk.cell 1
          have xf := hO.blk.frozen 0
          have t0 := HTr.blk.cell 0
          have tf := HTr.blk.frozen 0
          have hTl := HTr.blk.lt
          simp only [List.getElem?_toArray, List.getElem?_cons_succ, List.getElem?_cons_zero] at x0 x1 t0
          clear hO hbx HTr
          go_wp2_with (at_builtin; refine wpList_append_lies _ rfl _ _ _ rfl (wS.heap.size + 1) 29 i0 _ 2 32 Try.underlying23 hi iz0 iz1 iz2 rfl (by decide) (.slice A1 N c1) rs.length (tkC rs) rfl T4.out.row ⟨wr.heap.size, 0, none⟩ 1 1 [.int .i64 31, .slice A ol.length c] rfl rfl (World.news_of_block (cs := #[.int .i64 31, .slice A ol.length c]) (t := 29) (fr := (0, 0)) (heap_alloc_new _ _)) (by simp [Value.oneCell']) (by decide) (by unfold maxLen; have := HRL.out; omega) (by have := HRL.out; omega) (by simp; omega) (wr.heap.size + 1) (by simp) ?_)
          intro gg cap w5 hown hgrow hat hlt5
          have y := T4.out.blk.grown hgrow (own_block T4.out.row T4.out.blk (by decide))
          have y0 := y.cell 0
          have y1 := y.frozen 0
          simp only [List.getElem?_toArray, List.getElem?_cons_zero] at y0
          have TP := T4.out.push (x := (⟨31, ol⟩, A, c)) X4.out hown hgrow
          rw [HRL.out] at TP ⊢
          have z0 := TP.blk.cell 0
          have z1 := TP.blk.cell 1
          have z2 := TP.blk.cell 2
          have z3 := TP.blk.cell 3
          have zf := TP.blk.frozen 0
          have hlt4 := TP.blk.lt
          simp only [List.getElem?_toArray, List.getElem?_cons_zero, List.getElem?_cons_succ] at z0 z1 z2 z3
          replace TP := Lib.hid TP
          clear y hown hgrow hat T4 X4 x0 x1 xf t0 tf
          have hf := Lib.hid (Kn.sem_fits (n := N) (g := G) (b := BG) (by omega) (by omega) (by omega))
          have hout := Lib.hid (Kn.sem_run (n := N) (g := G) (b := BG) (by omega) (by omega) (by omega))
          go_wp2_with fail
          refine (run_at (t := Kn.semT BG G N) (ticks := 10) (ops := 1000) (by simp [Kn.semT]) rfl rfl rfl rfl rfl ?tab hf.out (by omega) (by omega)).mono ?_
          case tab => exact (TP.out.tab (t := Kn.semT BG G N) (by rw [List.map_append, HS.out]; show (List.range (N + 1)).map (Kn.semF N G) = _; rw [List.range_succ, List.map_append, List.map_singleton, List.map_singleton, Kn.semF_n, HOLD.out]) (by have h8 := HSW.out.same (TP.out.bel.block _ hzs1); exact Reads.of_whole (n := 1) (sz := 1) h8 h8.lt rfl) (Reads.nil _) (by have := HRL.out; rw [List.length_append]; show rs.length + 1 ≤ 1000; omega) (by show (1 : Nat) ≤ 1000; omega) (Nat.zero_le _)).1
          rintro e w9 hRR
          obtain ⟨P9, Q9, R9, pn, pc, qn, qc, rn, rc, rfl, hb9, HRA⟩ := hRR.opened
          clear hRR
          generalize Kn.runT (Kn.semT BG G N) 10 1000 = k at *
          have hbel := HB1.out.trans ((TP.out.bel.trans (hb9.mono TP.out.bel.size)).mono hzS)
          have HBE := Lib.hid (hbel.alloc hbel.size (.cells #[.slice P9 pn pc, .slice Q9 qn qc, .slice R9 rn rc, .int .i64 k.ticks, .int .i64 k.ops] 36))
          have HC := Lib.hid (HRA.out.conv _ ((Below.refl w9.heap.size w9).alloc (Nat.le_refl _) (.cells #[.slice P9 pn pc, .slice Q9 qn qc, .slice R9 rn rc, .int .i64 k.ticks, .int .i64 k.ops] 36)))
          clear hb9 hbel 
          have HCN := HRA.out.conv ((w9.alloc (.cells #[.slice P9 pn pc, .slice Q9 qn qc, .slice R9 rn rc, .int .i64 k.ticks, .int .i64 k.ops] 36)).drew) (Below.drew ((Below.refl w9.heap.size w9).alloc (Nat.le_refl _) (.cells #[.slice P9 pn pc, .slice Q9 qn qc, .slice R9 rn rc, .int .i64 k.ticks, .int .i64 k.ops] 36)))
          have hO2 := hout.out
          rw [ups_letters] at hO2
          rw [hO2] at HCN
          clear HC hout hO2
          by_cases hmin : N < BG + G
          · have hmin' : (N : Int) < (BG : Int) + G := by omega
            rw [show min N (BG + G) = N by omega, show (⟨(letters N).toArray⟩ : ByteArray) = lettersB N from rfl] at HCN
            have hL := run_lettersB N (by omega)
            go_wp2_with fail
            refine wp_region_need (S := fun w' => w' = (w9.alloc (.cells #[.slice P9 pn pc, .slice Q9 qn qc, .slice R9 rn rc, .int .i64 k.ticks, .int .i64 k.ops] 36)).drew) (need := fun _ => true) 12 #[false, false, false, false, false, false, false, false, false, false, false, false] (by rfl) (by rfl) (by kernel_rfl) ?_ (fun hHeld => ?_)
            · rfl
            refine wpAnyN_take (i := 0) (v := ?_) (listed' := #[true, false, false, false, false, false, false, false, false, false, false, false]) rfl (by kernel_rfl) (by kernel_rfl) (by kernel_rfl) (by rfl) (fun _ _ _ h => h) (Or.inl ⟨by rfl, ?_⟩) (by assumption) ?_
            rotate_left
            · intro w hSw
              (try dsimp only at hSw)
              subst hSw
              go_simp
              with_reducible rfl
            try simp only [Act.put, List.getElem_toArray, List.getElem_cons_zero, List.setIfInBounds_toArray, List.set_cons_zero, List.set_cons_succ]
            refine wpAnyN_step (i := 1) (listed' := #[true, true, false, false, false, false, false, false, false, false, false, false]) (by kernel_rfl) rfl (by rfl) (fun K hK => ?_)
            refine step_num (by rfl) _ (by rfl) 0 (by rfl) ?_
            refine hK.out _ _ ?_ (fun hHeld => ?_)
            · (try dsimp only)
              exact fun _ => hHeld
            clear hK K
            replace hHeld := hHeld rfl
            try simp only [Act.put, List.getElem_toArray, List.getElem_cons_zero, List.getElem_cons_succ, List.setIfInBounds_toArray, List.set_cons_zero, List.set_cons_succ]
            refine wpAnyN_take (i := 2) (v := ?_) (listed' := #[true, true, true, false, false, false, false, false, false, false, false, false]) rfl (by kernel_rfl) (by kernel_rfl) (by kernel_rfl) (by rfl) (fun _ _ _ h => h) (Or.inl ⟨by rfl, ?_⟩) (by assumption) ?_
            rotate_left
            · intro w hSw
              (try dsimp only at hSw)
              subst hSw
              go_simp
              with_reducible rfl
            try simp only [Act.put, List.getElem_toArray, List.getElem_cons_zero, List.getElem_cons_succ, List.setIfInBounds_toArray, List.set_cons_zero, List.set_cons_succ]
            refine wpAnyN_take (i := 3) (v := ?_) (listed' := #[true, true, true, true, false, false, false, false, false, false, false, false]) rfl (by kernel_rfl) (by kernel_rfl) (by kernel_rfl) (by rfl) (fun _ _ _ h => h) (Or.inl ⟨by rfl, ?_⟩) (by assumption) ?_
            rotate_left
            · intro w hSw
              (try dsimp only at hSw)
              subst hSw
              go_simp
              with_reducible rfl
            try simp only [Act.put, List.getElem_toArray, List.getElem_cons_zero, List.getElem_cons_succ, List.setIfInBounds_toArray, List.set_cons_zero, List.set_cons_succ]
            refine wpAnyN_take (i := 4) (v := ?_) (listed' := #[true, true, true, true, true, false, false, false, false, false, false, false]) rfl (by kernel_rfl) (by kernel_rfl) (by kernel_rfl) (by rfl) (fun _ _ _ h => h) (Or.inl ⟨by rfl, ?_⟩) (by assumption) ?_
            rotate_left
            · intro w hSw
              (try dsimp only at hSw)
              subst hSw
              go_simp
              with_reducible rfl
            try simp only [Act.put, List.getElem_toArray, List.getElem_cons_zero, List.getElem_cons_succ, List.setIfInBounds_toArray, List.set_cons_zero, List.set_cons_succ]
            refine wpAnyN_take (i := 5) (v := ?_) (listed' := #[true, true, true, true, true, true, false, false, false, false, false, false]) rfl (by kernel_rfl) (by kernel_rfl) (by kernel_rfl) (by rfl) (fun _ _ _ h => h) (Or.inl ⟨by rfl, ?_⟩) (by assumption) ?_
            rotate_left
            · intro w hSw
              (try dsimp only at hSw)
              subst hSw
              go_simp
              with_reducible rfl
            try simp only [Act.put, List.getElem_toArray, List.getElem_cons_zero, List.getElem_cons_succ, List.setIfInBounds_toArray, List.set_cons_zero, List.set_cons_succ]
            refine wpAnyN_take (i := 6) (v := ?_) (listed' := #[true, true, true, true, true, true, true, false, false, false, false, false]) rfl (by kernel_rfl) (by kernel_rfl) (by kernel_rfl) (by rfl) (fun _ _ _ h => h) (Or.inl ⟨by rfl, ?_⟩) (by assumption) ?_
            rotate_left
            · intro w hSw
              (try dsimp only at hSw)
              subst hSw
              go_simp
              with_reducible rfl
            try simp only [Act.put, List.getElem_toArray, List.getElem_cons_zero, List.getElem_cons_succ, List.setIfInBounds_toArray, List.set_cons_zero, List.set_cons_succ]
            refine wpAnyN_take (i := 7) (v := ?_) (listed' := #[true, true, true, true, true, true, true, true, false, false, false, false]) rfl (by kernel_rfl) (by kernel_rfl) (by kernel_rfl) (by rfl) (fun _ _ _ h => h) (Or.inl ⟨by rfl, ?_⟩) (by assumption) ?_
            rotate_left
            · intro w hSw
              (try dsimp only at hSw)
              subst hSw
              go_simp
              with_reducible rfl
            try simp only [Act.put, List.getElem_toArray, List.getElem_cons_zero, List.getElem_cons_succ, List.setIfInBounds_toArray, List.set_cons_zero, List.set_cons_succ]
            refine wpAnyN_take (i := 8) (v := ?_) (listed' := #[true, true, true, true, true, true, true, true, true, false, false, false]) rfl (by kernel_rfl) (by kernel_rfl) (by kernel_rfl) (by rfl) (fun _ _ _ h => h) (Or.inl ⟨by rfl, ?_⟩) (by assumption) ?_
            rotate_left
            · intro w hSw
              (try dsimp only at hSw)
              subst hSw
              go_simp
              with_reducible rfl
            try simp only [Act.put, List.getElem_toArray, List.getElem_cons_zero, List.getElem_cons_succ, List.setIfInBounds_toArray, List.set_cons_zero, List.set_cons_succ]
            refine wpAnyN_take (i := 9) (v := ?_) (listed' := #[true, true, true, true, true, true, true, true, true, true, false, false]) rfl (by kernel_rfl) (by kernel_rfl) (by kernel_rfl) (by rfl) (fun _ _ _ h => h) (Or.inl ⟨by rfl, ?_⟩) (by assumption) ?_
            rotate_left
            · intro w hSw
              (try dsimp only at hSw)
              subst hSw
              go_simp
              with_reducible rfl
            try simp only [Act.put, List.getElem_toArray, List.getElem_cons_zero, List.getElem_cons_succ, List.setIfInBounds_toArray, List.set_cons_zero, List.set_cons_succ]
            refine wpAnyN_take (i := 10) (v := ?_) (listed' := #[true, true, true, true, true, true, true, true, true, true, true, false]) rfl (by kernel_rfl) (by kernel_rfl) (by kernel_rfl) (by rfl) (fun _ _ _ h => h) (Or.inl ⟨by rfl, ?_⟩) (by assumption) ?_
            rotate_left
            · intro w hSw
              (try dsimp only at hSw)
              subst hSw
              go_simp
              with_reducible rfl
            try simp only [Act.put, List.getElem_toArray, List.getElem_cons_zero, List.getElem_cons_succ, List.setIfInBounds_toArray, List.set_cons_zero, List.set_cons_succ]
            refine wpAnyN_take (i := 11) (v := ?_) (listed' := #[true, true, true, true, true, true, true, true, true, true, true, true]) rfl (by kernel_rfl) (by kernel_rfl) (by kernel_rfl) (by rfl) (fun _ _ _ h => h) (Or.inl ⟨by rfl, ?_⟩) (by assumption) ?_
            rotate_left
            · intro w hSw
              (try dsimp only at hSw)
              subst hSw
              go_simp
              with_reducible rfl
            try simp only [Act.put, List.getElem_toArray, List.getElem_cons_zero, List.getElem_cons_succ, List.setIfInBounds_toArray, List.set_cons_zero, List.set_cons_succ]
            refine wpAnyN_done (by kernel_rfl) ?_ _
            go_wp2_with fail
            go_ret
            exact ⟨rfl, Below.drew HBE.out⟩
          · have hmin' : ¬ (N : Int) < (BG : Int) + G := by omega
            rw [show min N (BG + G) = BG + G by omega, show (⟨(letters (BG + G)).toArray⟩ : ByteArray) = lettersB (BG + G) from rfl] at HCN
            have hL := run_lettersB (BG + G) (by omega)
            rw [Int.natCast_add] at hL
            go_wp2_with fail
            refine wp_region_need (S := fun w' => w' = (w9.alloc (.cells #[.slice P9 pn pc, .slice Q9 qn qc, .slice R9 rn rc, .int .i64 k.ticks, .int .i64 k.ops] 36)).drew) (need := fun _ => true) 12 #[false, false, false, false, false, false, false, false, false, false, false, false] (by rfl) (by rfl) (by kernel_rfl) ?_ (fun hHeld => ?_)
            · rfl
            refine wpAnyN_take (i := 0) (v := ?_) (listed' := #[true, false, false, false, false, false, false, false, false, false, false, false]) rfl (by kernel_rfl) (by kernel_rfl) (by kernel_rfl) (by rfl) (fun _ _ _ h => h) (Or.inl ⟨by rfl, ?_⟩) (by assumption) ?_
            rotate_left
            · intro w hSw
              (try dsimp only at hSw)
              subst hSw
              go_simp
              with_reducible rfl
            try simp only [Act.put, List.getElem_toArray, List.getElem_cons_zero, List.setIfInBounds_toArray, List.set_cons_zero, List.set_cons_succ]
            refine wpAnyN_step (i := 1) (listed' := #[true, true, false, false, false, false, false, false, false, false, false, false]) (by kernel_rfl) rfl (by rfl) (fun K hK => ?_)
            refine step_num (by rfl) _ (by rfl) 0 (by rfl) ?_
            refine hK.out _ _ ?_ (fun hHeld => ?_)
            · (try dsimp only)
              exact fun _ => hHeld
            clear hK K
            replace hHeld := hHeld rfl
            try simp only [Act.put, List.getElem_toArray, List.getElem_cons_zero, List.getElem_cons_succ, List.setIfInBounds_toArray, List.set_cons_zero, List.set_cons_succ]
            refine wpAnyN_take (i := 2) (v := ?_) (listed' := #[true, true, true, false, false, false, false, false, false, false, false, false]) rfl (by kernel_rfl) (by kernel_rfl) (by kernel_rfl) (by rfl) (fun _ _ _ h => h) (Or.inl ⟨by rfl, ?_⟩) (by assumption) ?_
            rotate_left
            · intro w hSw
              (try dsimp only at hSw)
              subst hSw
              go_simp
              with_reducible rfl
            try simp only [Act.put, List.getElem_toArray, List.getElem_cons_zero, List.getElem_cons_succ, List.setIfInBounds_toArray, List.set_cons_zero, List.set_cons_succ]
            refine wpAnyN_take (i := 3) (v := ?_) (listed' := #[true, true, true, true, false, false, false, false, false, false, false, false]) rfl (by kernel_rfl) (by kernel_rfl) (by kernel_rfl) (by rfl) (fun _ _ _ h => h) (Or.inl ⟨by rfl, ?_⟩) (by assumption) ?_
            rotate_left
            · intro w hSw
              (try dsimp only at hSw)
              subst hSw
              go_simp
              with_reducible rfl
            try simp only [Act.put, List.getElem_toArray, List.getElem_cons_zero, List.getElem_cons_succ, List.setIfInBounds_toArray, List.set_cons_zero, List.set_cons_succ]
            refine wpAnyN_take (i := 4) (v := ?_) (listed' := #[true, true, true, true, true, false, false, false, false, false, false, false]) rfl (by kernel_rfl) (by kernel_rfl) (by kernel_rfl) (by rfl) (fun _ _ _ h => h) (Or.inl ⟨by rfl, ?_⟩) (by assumption) ?_
            rotate_left
            · intro w hSw
              (try dsimp only at hSw)
              subst hSw
              go_simp
              with_reducible rfl
            try simp only [Act.put, List.getElem_toArray, List.getElem_cons_zero, List.getElem_cons_succ, List.setIfInBounds_toArray, List.set_cons_zero, List.set_cons_succ]
            refine wpAnyN_take (i := 5) (v := ?_) (listed' := #[true, true, true, true, true, true, false, false, false, false, false, false]) rfl (by kernel_rfl) (by kernel_rfl) (by kernel_rfl) (by rfl) (fun _ _ _ h => h) (Or.inl ⟨by rfl, ?_⟩) (by assumption) ?_
            rotate_left
            · intro w hSw
              (try dsimp only at hSw)
              subst hSw
              go_simp
              with_reducible rfl
            try simp only [Act.put, List.getElem_toArray, List.getElem_cons_zero, List.getElem_cons_succ, List.setIfInBounds_toArray, List.set_cons_zero, List.set_cons_succ]
            refine wpAnyN_take (i := 6) (v := ?_) (listed' := #[true, true, true, true, true, true, true, false, false, false, false, false]) rfl (by kernel_rfl) (by kernel_rfl) (by kernel_rfl) (by rfl) (fun _ _ _ h => h) (Or.inl ⟨by rfl, ?_⟩) (by assumption) ?_
            rotate_left
            · intro w hSw
              (try dsimp only at hSw)
              subst hSw
              go_simp
              with_reducible rfl
            try simp only [Act.put, List.getElem_toArray, List.getElem_cons_zero, List.getElem_cons_succ, List.setIfInBounds_toArray, List.set_cons_zero, List.set_cons_succ]
            refine wpAnyN_take (i := 7) (v := ?_) (listed' := #[true, true, true, true, true, true, true, true, false, false, false, false]) rfl (by kernel_rfl) (by kernel_rfl) (by kernel_rfl) (by rfl) (fun _ _ _ h => h) (Or.inl ⟨by rfl, ?_⟩) (by assumption) ?_
            rotate_left
            · intro w hSw
              (try dsimp only at hSw)
              subst hSw
              go_simp
              with_reducible rfl
            try simp only [Act.put, List.getElem_toArray, List.getElem_cons_zero, List.getElem_cons_succ, List.setIfInBounds_toArray, List.set_cons_zero, List.set_cons_succ]
            refine wpAnyN_take (i := 8) (v := ?_) (listed' := #[true, true, true, true, true, true, true, true, true, false, false, false]) rfl (by kernel_rfl) (by kernel_rfl) (by kernel_rfl) (by rfl) (fun _ _ _ h => h) (Or.inl ⟨by rfl, ?_⟩) (by assumption) ?_
            rotate_left
            · intro w hSw
              (try dsimp only at hSw)
              subst hSw
              go_simp
              with_reducible rfl
            try simp only [Act.put, List.getElem_toArray, List.getElem_cons_zero, List.getElem_cons_succ, List.setIfInBounds_toArray, List.set_cons_zero, List.set_cons_succ]
            refine wpAnyN_take (i := 9) (v := ?_) (listed' := #[true, true, true, true, true, true, true, true, true, true, false, false]) rfl (by kernel_rfl) (by kernel_rfl) (by kernel_rfl) (by rfl) (fun _ _ _ h => h) (Or.inl ⟨by rfl, ?_⟩) (by assumption) ?_
            rotate_left
            · intro w hSw
              (try dsimp only at hSw)
              subst hSw
              go_simp
              with_reducible rfl
            try simp only [Act.put, List.getElem_toArray, List.getElem_cons_zero, List.getElem_cons_succ, List.setIfInBounds_toArray, List.set_cons_zero, List.set_cons_succ]
            refine wpAnyN_take (i := 10) (v := ?_) (listed' := #[true, true, true, true, true, true, true, true, true, true, true, false]) rfl (by kernel_rfl) (by kernel_rfl) (by kernel_rfl) (by rfl) (fun _ _ _ h => h) (Or.inl ⟨by rfl, ?_⟩) (by assumption) ?_
            rotate_left
            · intro w hSw
              (try dsimp only at hSw)
              subst hSw
              go_simp
              with_reducible rfl
            try simp only [Act.put, List.getElem_toArray, List.getElem_cons_zero, List.getElem_cons_succ, List.setIfInBounds_toArray, List.set_cons_zero, List.set_cons_succ]
            refine wpAnyN_take (i := 11) (v := ?_) (listed' := #[true, true, true, true, true, true, true, true, true, true, true, true]) rfl (by kernel_rfl) (by kernel_rfl) (by kernel_rfl) (by rfl) (fun _ _ _ h => h) (Or.inl ⟨by rfl, ?_⟩) (by assumption) ?_
            rotate_left
            · intro w hSw
              (try dsimp only at hSw)
              subst hSw
              go_simp
              with_reducible rfl
            try simp only [Act.put, List.getElem_toArray, List.getElem_cons_zero, List.getElem_cons_succ, List.setIfInBounds_toArray, List.set_cons_zero, List.set_cons_succ]
            refine wpAnyN_done (by kernel_rfl) ?_ _
            go_wp2_with fail
            go_ret
            exact ⟨rfl, Below.drew HBE.out⟩
end Go.Proofs.Ytncbgnpoffolcaa
