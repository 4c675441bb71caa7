/-
  KernFull: the walk of the law.
-/
import Derived.Test.YtncbgnpoffolcaaWn
import Derived.Test.YtncbgnpoffolcaaSb
import Derived.Test.YtncbgnpoffolcaaOl
import Derived.Test.YtncbgnpoffolcaaOpn
import Derived.Test.YtncbgnpoffolcaaFulT
namespace Go.Proofs.Ytncbgnpoffolcaa
open Go.RowKit
set_option maxRecDepth 100000 in
set_option maxHeartbeats 16000000 in
theorem kernFull_any {l : List Int} {A : Option Addr} {c : Nat} {w : World} (hr : Reads w w.heap.size 1 A l.length (intV l)) : Calls Try.prog 4 #[.slice A l.length c] w fun r w' => r = .returned (.bool true) ∧ Below w.heap.size w w' := by
  have HR := Lib.hid hr
  clear hr
  obtain ⟨i0, hi, iz0, iz1, iz2⟩ := info_parts info29
  obtain ⟨j0, hj, jz0, jz1, jz2⟩ := info_parts info32'
  by_cases b0 : (l.length : Int) < 1
  · as_aux_lemma =>
      go_enter Try.func4, Try.ntmps4
      go_wp2_with fail
      refine (alive_any w).mono ?_
      rintro e w1 ⟨rfl, hb1⟩
      go_wp2_with fail
      go_ret
      exact ⟨rfl, hb1⟩
  by_cases b1 : 20 < (l.length : Int)
  · as_aux_lemma =>
      go_enter Try.func4, Try.ntmps4
      go_wp2_with fail
      refine (alive_any w).mono ?_
      rintro e w1 ⟨rfl, hb1⟩
      go_wp2_with fail
      go_ret
      exact ⟨rfl, hb1⟩
  obtain ⟨N, hN⟩ : ∃ N, N = l.length := ⟨_, rfl⟩
  rw [← hN] at b0 b1 HR
  rw [← hN]
  have HN := Lib.hid hN
  clear hN
  have hmk := run_mk
  go_enter Try.func4, Try.ntmps4
  go_wp2_with fail
  refine (alive_any w).mono ?_
  rintro e w1 ⟨rfl, hb1⟩
  have HB1 := Lib.hid hb1
  have hz1 := hb1.size
  clear hb1
  go_wp2_with fail
  clear hmk
  obtain ⟨wS, hwS⟩ : ∃ wS, wS = w1.alloc (.cells #[.int .i64 1] 3) := ⟨_, rfl⟩
  have hsz : wS.heap.size = w1.heap.size + 1 := by rw [hwS, World.size_alloc]
  have HSB := Lib.hid (show Below w1.heap.size w1 wS by rw [hwS]; exact (Below.refl _ _).alloc (Nat.le_refl _) _)
  have HSW := Lib.hid (show Whole wS w1.heap.size 3 #[.int .i64 1] by rw [hwS]; exact Whole.made w1 3 _)
  have hnil := Lib.hid (TLs.nil wS (.slice none 0 0) (.slice (some ⟨w1.heap.size, 0, none⟩) 1 1) 0 (f := Kn.hit (prOf l) 0) fun _ => rfl)
  rw [← hwS, ← hsz]
  replace HB1 := Lib.hid (HB1.out.trans (HSB.out.mono hz1))
  have hzS : w.heap.size ≤ wS.heap.size := by omega
  have hzs1 : w1.heap.size < wS.heap.size := by omega
  clear hwS hsz HSB
  go_loopg [6, 7] N (fun kk i z wr => ∃ (j : Nat) (V : Value) (rs : List (Kn.Task × Option Addr × Nat)), j ≤ N ∧ i = .int .i64 j ∧ TLs wS wr V (.slice none 0 0) (.slice (some ⟨w1.heap.size, 0, none⟩) 1 1) 0 rs (Kn.hit (prOf l) j) ∧ rs.map (·.1) = (List.range j).map (Kn.fullF (prOf l) N) ∧ Kn.FPre (prOf l) j ∧ N - j ≤ kk)
  case atStart => exact ⟨0, _, [], Nat.zero_le _, rfl, hnil.out, rfl, ⟨by omega, fun i hi => by omega, fun i j hi => by omega⟩, by omega⟩
  case round =>
    obtain ⟨j, V, rs, hjN, rfl, hT, hrs, hok, hkk⟩ := hrel
    by_cases hlt : j < N
    · have hlt' : (j : Int) < N := by omega
      have hll : j < l.length := by have := HN.out; omega
      have hrl : rs.length = j := by have := congrArg List.length hrs; simpa using this
      have hzr := hT.tl.bel.size
      obtain ⟨ad, eA, hab, hac⟩ := ((HR.out.below HB1.out (Nat.le_refl _)).below (hT.tl.bel.mono hzS) (Nat.le_refl _)).intAt' (HN.out) hll
      subst eA
      have E1 := Lib.hid (prOf_at hll)
      have k0 := hT.blk.cell 0
      have k1 := hT.blk.frozen 0
      simp only [List.getElem?_toArray, List.getElem?_cons_zero] at k0
      have htb := hT.blk.lt
      have HT := Lib.hid hT
      have HS := Lib.hid hrs
      have HOK := Lib.hid hok
      clear hT hrs hok
      generalize l[j] = v at *
      by_cases g0 : v < 1
      · as_aux_lemma =>
          go_wp2_with fail
          go_ret
          exact ⟨rfl, HB1.out.trans (HT.out.tl.bel.mono hzS)⟩
      by_cases g1 : 30 < v
      · as_aux_lemma =>
          go_wp2_with fail
          go_ret
          exact ⟨rfl, HB1.out.trans (HT.out.tl.bel.mono hzS)⟩
      obtain ⟨pv, rfl⟩ : ∃ pv : Nat, v = pv := ⟨v.toNat, by omega⟩
      have s0 := HT.out.at_ (y := pv) (by omega)
      have s1 := HT.out.sn.frozen pv
      have hsb := HT.out.sn.lt
      by_cases g2 : Kn.hit (prOf l) j pv = true
      · as_aux_lemma =>
          rw [g2] at s0
          go_wp2_with fail
          go_ret
          exact ⟨rfl, HB1.out.trans (HT.out.tl.bel.mono hzS)⟩
      · as_aux_lemma =>
          have g3 : Kn.hit (prOf l) j pv = false := by simpa using g2
          rw [g3] at s0
          have HOK2 := Lib.hid (full_more HOK.out E1.out (by omega) (by omega) g3 (by omega))
          have HFF := Lib.hid (Kn.fullF_lt (p := prOf l) hlt)
          have HTE := Lib.hid (show ({ prio := (pv : Int), ops := [⟨2, 1, 0⟩, ⟨7, 0, (pv : Int)⟩] } : Kn.Task) = Kn.fullF (prOf l) N j by rw [HFF.out, E1.out])
          have HT2 := Lib.hid (HT.out.mark (y := pv) (f' := Kn.hit (prOf l) (j + 1)) (full_hit E1.out))
          go_wp2_with fail
          have HTo := HT
          clear HT k0 k1 s0 s1 hsb htb
          have HT := HT2
          clear HT2 HTo
          generalize hwv : wr.setCell ⟨wS.heap.size + 1, pv, none⟩ (.bool true) = wv at *
          clear hwv
          have htb := HT.out.blk.lt
          have k0 := HT.out.blk.cell 0
          have k1 := HT.out.blk.frozen 0
          simp only [List.getElem?_toArray, List.getElem?_cons_zero] at k0
          have hl0 : Addr.block (⟨wS.heap.size, 0, none⟩) < wv.heap.size := htb
          refine wp_region_need (S := fun w' => w'.cell? (⟨wS.heap.size, 0, none⟩) = some (V)) (need := fun i => i != 11) 12 #[false, false, false, false, false, false, false, false, false, false, false, false] (by rfl) (by rfl) (by kernel_rfl) ?_ (fun hHeld => ?_)
          · (try dsimp only)
            exact k0
          refine wpAnyN_take (i := 0) (v := ?_) (listed' := #[true, false, false, false, false, false, false, false, false, false, false, false]) rfl (by kernel_rfl) (by kernel_rfl) (by kernel_rfl) (by rfl) (fun _ _ _ h => h) (Or.inl ⟨by rfl, ?_⟩) (by assumption) ?_
          rotate_left
          · intro w hSw
            (try dsimp only at hSw)
            go_simp
            with_reducible rfl
          try simp only [Act.put, List.getElem_toArray, List.getElem_cons_zero, List.setIfInBounds_toArray, List.set_cons_zero, List.set_cons_succ]
          refine wpAnyN_take (i := 1) (v := ?_) (listed' := #[true, true, false, false, false, false, false, false, false, false, false, false]) rfl (by kernel_rfl) (by kernel_rfl) (by kernel_rfl) (by rfl) (fun _ _ _ h => h) (Or.inl ⟨by rfl, ?_⟩) (by assumption) ?_
          rotate_left
          · intro w hSw
            (try dsimp only at hSw)
            go_simp
            with_reducible rfl
          try simp only [Act.put, List.getElem_toArray, List.getElem_cons_zero, List.getElem_cons_succ, List.setIfInBounds_toArray, List.set_cons_zero, List.set_cons_succ]
          refine wpAnyN_take (i := 2) (v := ?_) (listed' := #[true, true, true, false, false, false, false, false, false, false, false, false]) rfl (by kernel_rfl) (by kernel_rfl) (by kernel_rfl) (by rfl) (fun _ _ _ h => h) (Or.inl ⟨by rfl, ?_⟩) (by assumption) ?_
          rotate_left
          · intro w hSw
            (try dsimp only at hSw)
            go_simp
            with_reducible rfl
          try simp only [Act.put, List.getElem_toArray, List.getElem_cons_zero, List.getElem_cons_succ, List.setIfInBounds_toArray, List.set_cons_zero, List.set_cons_succ]
          refine wpAnyN_take (i := 4) (v := ?_) (listed' := #[true, true, true, false, true, false, false, false, false, false, false, false]) rfl (by kernel_rfl) (by kernel_rfl) (by kernel_rfl) (by rfl) (fun _ _ _ h => h) (Or.inl ⟨by rfl, ?_⟩) (by assumption) ?_
          rotate_left
          · intro w hSw
            (try dsimp only at hSw)
            go_simp
            with_reducible rfl
          try simp only [Act.put, List.getElem_toArray, List.getElem_cons_zero, List.getElem_cons_succ, List.setIfInBounds_toArray, List.set_cons_zero, List.set_cons_succ]
          refine wpAnyN_step (i := 3) (listed' := #[true, true, true, true, true, false, false, false, false, false, false, false]) (by kernel_rfl) rfl (by rfl) (fun K hK => ?_)
          refine step_o (by rfl) _ _ _ (by rfl) (2) (1) (0) (by rfl) (by rfl) (by rfl) ?_
          intro wo0 hb0
          have hz0' : wv.heap.size ≤ wo0.heap.size := hb0.size
          have T0' := Lib.hid ((HT.out.keep (Below.drew (Below.refl _ _))).keep hb0)
          have hT0' := T0'.out.blk.lt
          refine hK.out _ _ ?_ (fun hHeld => ?_)
          · (try dsimp only)
            exact fun _ => (hb0.cell (p := ⟨wS.heap.size, 0, none⟩) hl0).trans hHeld
          clear hK K
          replace hHeld := hHeld rfl
          try simp only [Act.put, List.getElem_toArray, List.getElem_cons_zero, List.getElem_cons_succ, List.setIfInBounds_toArray, List.set_cons_zero, List.set_cons_succ]
          replace hl0 := Nat.lt_of_lt_of_le hl0 hz0'
          refine wpAnyN_step (i := 5) (listed' := #[true, true, true, true, true, true, false, false, false, false, false, false]) (by kernel_rfl) rfl (by rfl) (fun K hK => ?_)
          refine step_o (by rfl) _ _ _ (by rfl) (7) (0) ((pv : Int)) (by rfl) (by rfl) (by rfl) ?_
          intro wo1 hb1
          have hz1' : wo0.heap.size ≤ wo1.heap.size := hb1.size
          have T1' := Lib.hid ((T0'.out).keep hb1)
          have hT1' := T1'.out.blk.lt
          clear T0'
          refine hK.out _ _ ?_ (fun hHeld => ?_)
          · (try dsimp only)
            exact fun _ => (hb1.cell (p := ⟨wS.heap.size, 0, none⟩) hl0).trans hHeld
          clear hK K
          replace hHeld := hHeld rfl
          try simp only [Act.put, List.getElem_toArray, List.getElem_cons_zero, List.getElem_cons_succ, List.setIfInBounds_toArray, List.set_cons_zero, List.set_cons_succ]
          replace hl0 := Nat.lt_of_lt_of_le hl0 hz1'
          refine wpAnyN_step (i := 6) (listed' := #[true, true, true, true, true, true, true, false, false, false, false, false]) (by kernel_rfl) rfl (by rfl) (fun K hK => ?_)
          refine step_ops2 (by rfl) _ _ (by rfl) (2) (1) (0) (7) (0) ((pv : Int)) (by rfl) (by rfl) ?_
          refine hK.out _ _ ?_ (fun hHeld => ?_)
          · (try dsimp only)
            exact fun _ => (World.cell?_alloc_lt _ _ _ hl0).trans hHeld
          clear hK K
          replace hHeld := hHeld rfl
          try simp only [Act.put, List.getElem_toArray, List.getElem_cons_zero, List.getElem_cons_succ, List.setIfInBounds_toArray, List.set_cons_zero, List.set_cons_succ]
          refine wpAnyN_step (i := 7) (listed' := #[true, true, true, true, true, true, true, true, false, false, false, false]) (by kernel_rfl) rfl (by rfl) (fun K hK => ?_)
          refine step_t (by rfl) _ _ (by rfl) ((pv : Int)) (some ⟨wo1.heap.size, 0, none⟩) 2 2 (by rfl) (by rfl) ?_
          intro wT hbt
          have hzT := hbt.size
          have T3 := ((T1'.out).keep ((Below.refl _ _).alloc (Nat.le_refl _) _)).keep hbt
          have X3 : OpsLie wT ((⟨(pv : Int), [⟨2, 1, 0⟩, ⟨7, 0, (pv : Int)⟩]⟩ : Kn.Task), some ⟨wo1.heap.size, 0, none⟩, 2) := by (have h9 := (Whole.made wo1 32 #[.int .i64 (2), .int .i64 (1), .int .i64 (0), .int .i64 (7), .int .i64 (0), .int .i64 ((pv : Int))]).same (hbt.block _ (by simp))); exact .of_whole (Nat.le_of_ble_eq_true rfl) rfl h9
          have T4 := Lib.hid (T3.keep ((Below.refl wT.heap.size wT).alloc (Nat.le_refl _) (.cells #[.int .i64 ((pv : Int)), .slice (some ⟨wo1.heap.size, 0, none⟩) 2 2] 29)))
          have X4 := Lib.hid (X3.below ((Below.refl wT.heap.size wT).alloc (Nat.le_refl _) (.cells #[.int .i64 ((pv : Int)), .slice (some ⟨wo1.heap.size, 0, none⟩) 2 2] 29)))
          simp only [World.size_alloc] at hzT
          have h3 := T3.blk.lt
          clear T3 X3 T1'
          refine hK.out _ _ ?_ (fun hHeld => ?_)
          · (try dsimp only)
            exact fun _ => (hbt.cell (p := ⟨wS.heap.size, 0, none⟩) (lt_alloc hl0 _)).trans hHeld
          clear hK K
          replace hHeld := hHeld rfl
          try simp only [Act.put, List.getElem_toArray, List.getElem_cons_zero, List.getElem_cons_succ, List.setIfInBounds_toArray, List.set_cons_zero, List.set_cons_succ]
          replace hl0 := Nat.lt_of_lt_of_le (lt_alloc hl0 _) hbt.size
          refine wpAnyN_step (i := 8) (listed' := #[true, true, true, true, true, true, true, true, true, false, false, false]) (by kernel_rfl) rfl (by rfl) (fun K hK => ?_)
          refine step_task1 (by rfl) _ (by rfl) ((pv : Int)) (some ⟨wo1.heap.size, 0, none⟩) 2 2 (by rfl) ?_
          refine hK.out _ _ ?_ (fun hHeld => ?_)
          · (try dsimp only)
            exact fun _ => (World.cell?_alloc_lt _ _ _ hl0).trans hHeld
          clear hK K
          replace hHeld := hHeld rfl
          try simp only [Act.put, List.getElem_toArray, List.getElem_cons_zero, List.getElem_cons_succ, List.setIfInBounds_toArray, List.set_cons_zero, List.set_cons_succ]
          refine wpAnyN_step (i := 9) (listed' := #[true, true, true, true, true, true, true, true, true, true, false, false]) (by kernel_rfl) rfl (by rfl) (fun K hK => ?_)
          refine step_append_lies _ (by rfl) _ _ _ (by rfl) (wS.heap.size + 1) 29 i0 _ 2 32 Try.underlying23 hi iz0 iz1 iz2 rfl (by omega) V rs.length (tkC rs) (by rfl) T4.out.row ⟨wT.heap.size, 0, none⟩ 1 1 [.int .i64 ((pv : Int)), .slice (some ⟨wo1.heap.size, 0, none⟩) 2 2] (by rfl) (by rfl) (World.news_of_block (cs := #[.int .i64 ((pv : Int)), .slice (some ⟨wo1.heap.size, 0, none⟩) 2 2]) (t := 29) (fr := (0, 0)) (heap_alloc_new _ _)) (by simp [Value.oneCell']) (by omega) (by unfold maxLen; omega) (by omega) (by simp; omega) (wT.heap.size + 1) (by simp) ?_
          intro gg cap w5 hown hgrow hat hlt5
          have hVlt := T4.out.row.lt
          have y := T4.out.blk.grown hgrow (own_block T4.out.row T4.out.blk (by decide))
          have y0 := y.cell 0
          have y1 := y.frozen 0
          simp only [List.getElem?_toArray, List.getElem?_cons_zero] at y0
          have TP := Lib.hid (T4.out.push (x := ((⟨(pv : Int), [⟨2, 1, 0⟩, ⟨7, 0, (pv : Int)⟩]⟩ : Kn.Task), some ⟨wo1.heap.size, 0, none⟩, 2)) X4.out (by exact hown) hgrow)
          simp only [hrl] at TP
          clear y hown hat
          refine hK.out _ _ ?_ (fun hHeld => ?_)
          · (try dsimp only)
            exact fun _ => (hgrow.cell_far (⟨wS.heap.size, 0, none⟩) (lt_alloc hl0 _) (fun e => own_block T4.out.row T4.out.blk (by decide) e.symm)).trans hHeld
          clear hK K
          replace hHeld := hHeld rfl
          try simp only [Act.put, List.getElem_toArray, List.getElem_cons_zero, List.getElem_cons_succ, List.setIfInBounds_toArray, List.set_cons_zero, List.set_cons_succ]
          refine wpAnyN_take (i := 10) (v := ?_) (listed' := #[true, true, true, true, true, true, true, true, true, true, true, false]) rfl (by kernel_rfl) (by kernel_rfl) (by kernel_rfl) (by rfl) (fun _ _ _ h => h) (Or.inl ⟨by rfl, ?_⟩) (by assumption) ?_
          rotate_left
          · intro w hSw
            (try dsimp only at hSw)
            go_simp
            with_reducible rfl
          try simp only [Act.put, List.getElem_toArray, List.getElem_cons_zero, List.getElem_cons_succ, List.setIfInBounds_toArray, List.set_cons_zero, List.set_cons_succ]
          refine wpAnyN_step (i := 11) (listed' := #[true, true, true, true, true, true, true, true, true, true, true, true]) (by kernel_rfl) rfl (by rfl) (fun K hK => ?_)
          refine step_store23 (by rfl) _ _ (by rfl) (by rfl) (by rfl) y0 y1 ?_
          refine hK.out _ _ ?_ (fun hHeld => ?_)
          · exact fun h => absurd h (by decide)
          clear hK K
          try simp only [Act.put, List.getElem_toArray, List.getElem_cons_zero, List.getElem_cons_succ]
          refine wpAnyN_done (by kernel_rfl) ?_ _
          go_wp2_with fail
          go_roundg (N - (j + 1))
          case measure => omega
          case rel => exact ⟨j + 1, _, rs ++ [((⟨(pv : Int), [⟨2, 1, 0⟩, ⟨7, 0, (pv : Int)⟩]⟩ : Kn.Task), some ⟨wo1.heap.size, 0, none⟩, 2)], by omega, by go_num, TP.out, by rw [List.map_append, HS.out, List.range_succ, List.map_append, List.map_singleton, List.map_singleton, ← HTE.out], HOK2.out, Nat.le_refl _⟩
    · have hlt' : ¬ (j : Int) < N := by omega
      have hjn : N = j := by omega
      subst hjn
      have hrl : rs.length = N := by have := congrArg List.length hrs; simpa using this
      have hzr := hT.tl.bel.size
      have k0 := hT.blk.cell 0
      have k1 := hT.blk.frozen 0
      simp only [List.getElem?_toArray, List.getElem?_cons_zero] at k0
      have htb := hT.blk.lt
      have HT := Lib.hid hT
      have HS := Lib.hid hrs
      have HOK := Lib.hid hok
      clear hT hrs hok hnil
      go_wp2_with fail
      have hl0 : Addr.block (⟨wS.heap.size, 0, none⟩) < wr.heap.size := htb
      refine wp_region_need (S := fun w' => w'.cell? (⟨wS.heap.size, 0, none⟩) = some (V)) (need := fun i => i != 8) 9 #[false, false, false, false, false, false, false, false, false] (by rfl) (by rfl) (by kernel_rfl) ?_ (fun hHeld => ?_)
      · (try dsimp only)
        exact k0
      refine wpAnyN_take (i := 0) (v := ?_) (listed' := #[true, false, false, false, false, false, false, false, false]) rfl (by kernel_rfl) (by kernel_rfl) (by kernel_rfl) (by rfl) (fun _ _ _ h => h) (Or.inl ⟨by rfl, ?_⟩) (by assumption) ?_
      rotate_left
      · intro w hSw
        (try dsimp only at hSw)
        go_simp
        with_reducible rfl
      try simp only [Act.put, List.getElem_toArray, List.getElem_cons_zero, List.setIfInBounds_toArray, List.set_cons_zero, List.set_cons_succ]
      refine wpAnyN_take (i := 1) (v := ?_) (listed' := #[true, true, false, false, false, false, false, false, false]) rfl (by kernel_rfl) (by kernel_rfl) (by kernel_rfl) (by rfl) (fun _ _ _ h => h) (Or.inl ⟨by rfl, ?_⟩) (by assumption) ?_
      rotate_left
      · intro w hSw
        (try dsimp only at hSw)
        go_simp
        with_reducible rfl
      try simp only [Act.put, List.getElem_toArray, List.getElem_cons_zero, List.getElem_cons_succ, List.setIfInBounds_toArray, List.set_cons_zero, List.set_cons_succ]
      refine wpAnyN_step (i := 2) (listed' := #[true, true, true, false, false, false, false, false, false]) (by kernel_rfl) rfl (by rfl) (fun K hK => ?_)
      refine step_o (by rfl) _ _ _ (by rfl) (7) (0) (0) (by rfl) (by rfl) (by rfl) ?_
      intro wo0 hb0
      have hz0' : wr.heap.size ≤ wo0.heap.size := hb0.size
      have T0' := Lib.hid ((HT.out.keep (Below.drew (Below.refl _ _))).keep hb0)
      have hT0' := T0'.out.blk.lt
      refine hK.out _ _ ?_ (fun hHeld => ?_)
      · (try dsimp only)
        exact fun _ => (hb0.cell (p := ⟨wS.heap.size, 0, none⟩) hl0).trans hHeld
      clear hK K
      replace hHeld := hHeld rfl
      try simp only [Act.put, List.getElem_toArray, List.getElem_cons_zero, List.getElem_cons_succ, List.setIfInBounds_toArray, List.set_cons_zero, List.set_cons_succ]
      replace hl0 := Nat.lt_of_lt_of_le hl0 hz0'
      refine wpAnyN_step (i := 3) (listed' := #[true, true, true, true, false, false, false, false, false]) (by kernel_rfl) rfl (by rfl) (fun K hK => ?_)
      refine step_ops1 (by rfl) _ (by rfl) (7) (0) (0) (by rfl) ?_
      refine hK.out _ _ ?_ (fun hHeld => ?_)
      · (try dsimp only)
        exact fun _ => (World.cell?_alloc_lt _ _ _ hl0).trans hHeld
      clear hK K
      replace hHeld := hHeld rfl
      try simp only [Act.put, List.getElem_toArray, List.getElem_cons_zero, List.getElem_cons_succ, List.setIfInBounds_toArray, List.set_cons_zero, List.set_cons_succ]
      refine wpAnyN_step (i := 4) (listed' := #[true, true, true, true, true, false, false, false, false]) (by kernel_rfl) rfl (by rfl) (fun K hK => ?_)
      refine step_t (by rfl) _ _ (by rfl) (0) (some ⟨wo0.heap.size, 0, none⟩) 1 1 (by rfl) (by rfl) ?_
      intro wT hbt
      have hzT := hbt.size
      have T3 := ((T0'.out).keep ((Below.refl _ _).alloc (Nat.le_refl _) _)).keep hbt
      have X3 : OpsLie wT ((⟨0, [⟨7, 0, 0⟩]⟩ : Kn.Task), some ⟨wo0.heap.size, 0, none⟩, 1) := by (have h9 := (Whole.made wo0 32 #[.int .i64 (7), .int .i64 (0), .int .i64 (0)]).same (hbt.block _ (by simp))); exact .of_whole (Nat.le_of_ble_eq_true rfl) rfl h9
      have T4 := Lib.hid (T3.keep ((Below.refl wT.heap.size wT).alloc (Nat.le_refl _) (.cells #[.int .i64 (0), .slice (some ⟨wo0.heap.size, 0, none⟩) 1 1] 29)))
      have X4 := Lib.hid (X3.below ((Below.refl wT.heap.size wT).alloc (Nat.le_refl _) (.cells #[.int .i64 (0), .slice (some ⟨wo0.heap.size, 0, none⟩) 1 1] 29)))
      simp only [World.size_alloc] at hzT
      have h3 := T3.blk.lt
      clear T3 X3 T0'
      refine hK.out _ _ ?_ (fun hHeld => ?_)
      · (try dsimp only)
        exact fun _ => (hbt.cell (p := ⟨wS.heap.size, 0, none⟩) (lt_alloc hl0 _)).trans hHeld
      clear hK K
      replace hHeld := hHeld rfl
      try simp only [Act.put, List.getElem_toArray, List.getElem_cons_zero, List.getElem_cons_succ, List.setIfInBounds_toArray, List.set_cons_zero, List.set_cons_succ]
      replace hl0 := Nat.lt_of_lt_of_le (lt_alloc hl0 _) hbt.size
      refine wpAnyN_step (i := 5) (listed' := #[true, true, true, true, true, true, false, false, false]) (by kernel_rfl) rfl (by rfl) (fun K hK => ?_)
      refine step_task1 (by rfl) _ (by rfl) (0) (some ⟨wo0.heap.size, 0, none⟩) 1 1 (by rfl) ?_
      refine hK.out _ _ ?_ (fun hHeld => ?_)
      · (try dsimp only)
        exact fun _ => (World.cell?_alloc_lt _ _ _ hl0).trans hHeld
      clear hK K
      replace hHeld := hHeld rfl
      try simp only [Act.put, List.getElem_toArray, List.getElem_cons_zero, List.getElem_cons_succ, List.setIfInBounds_toArray, List.set_cons_zero, List.set_cons_succ]
      refine wpAnyN_step (i := 6) (listed' := #[true, true, true, true, true, true, true, false, false]) (by kernel_rfl) rfl (by rfl) (fun K hK => ?_)
      refine step_append_lies _ (by rfl) _ _ _ (by rfl) (wS.heap.size + 1) 29 i0 _ 2 32 Try.underlying23 hi iz0 iz1 iz2 rfl (by omega) V rs.length (tkC rs) (by rfl) T4.out.row ⟨wT.heap.size, 0, none⟩ 1 1 [.int .i64 (0), .slice (some ⟨wo0.heap.size, 0, none⟩) 1 1] (by rfl) (by rfl) (World.news_of_block (cs := #[.int .i64 (0), .slice (some ⟨wo0.heap.size, 0, none⟩) 1 1]) (t := 29) (fr := (0, 0)) (heap_alloc_new _ _)) (by simp [Value.oneCell']) (by omega) (by unfold maxLen; omega) (by omega) (by simp; omega) (wT.heap.size + 1) (by simp) ?_
      intro gg cap w5 hown hgrow hat hlt5
      have hVlt := T4.out.row.lt
      have y := T4.out.blk.grown hgrow (own_block T4.out.row T4.out.blk (by decide))
      have y0 := y.cell 0
      have y1 := y.frozen 0
      simp only [List.getElem?_toArray, List.getElem?_cons_zero] at y0
      have TP := Lib.hid (T4.out.push (x := ((⟨0, [⟨7, 0, 0⟩]⟩ : Kn.Task), some ⟨wo0.heap.size, 0, none⟩, 1)) X4.out (by exact hown) hgrow)
      simp only [hrl] at TP
      clear y hown hat
      refine hK.out _ _ ?_ (fun hHeld => ?_)
      · (try dsimp only)
        exact fun _ => (hgrow.cell_far (⟨wS.heap.size, 0, none⟩) (lt_alloc hl0 _) (fun e => own_block T4.out.row T4.out.blk (by decide) e.symm)).trans hHeld
      clear hK K
      replace hHeld := hHeld rfl
      try simp only [Act.put, List.getElem_toArray, List.getElem_cons_zero, List.getElem_cons_succ, List.setIfInBounds_toArray, List.set_cons_zero, List.set_cons_succ]
      refine wpAnyN_take (i := 7) (v := ?_) (listed' := #[true, true, true, true, true, true, true, true, false]) rfl (by kernel_rfl) (by kernel_rfl) (by kernel_rfl) (by rfl) (fun _ _ _ h => h) (Or.inl ⟨by rfl, ?_⟩) (by assumption) ?_
      rotate_left
      · intro w hSw
        (try dsimp only at hSw)
        go_simp
        with_reducible rfl
      try simp only [Act.put, List.getElem_toArray, List.getElem_cons_zero, List.getElem_cons_succ, List.setIfInBounds_toArray, List.set_cons_zero, List.set_cons_succ]
      refine wpAnyN_step (i := 8) (listed' := #[true, true, true, true, true, true, true, true, true]) (by kernel_rfl) rfl (by rfl) (fun K hK => ?_)
      refine step_store23 (by rfl) _ _ (by rfl) (by rfl) (by rfl) y0 y1 ?_
      refine hK.out _ _ ?_ (fun hHeld => ?_)
      · exact fun h => absurd h (by decide)
      clear hK K
      try simp only [Act.put, List.getElem_toArray, List.getElem_cons_zero, List.getElem_cons_succ]
      refine wpAnyN_done (by kernel_rfl) ?_ _
      skip
      have HT2 := TP
      clear TP HT T4 X4 y0 y1 hVlt hgrow hHeld hl0
      rw [hrl]
      generalize hVq : Value.slice (some ⟨gg, 0, none⟩) (N + 1) cap = Vq at *
      generalize hwq : w5.setCell ⟨wS.heap.size, 0, none⟩ Vq = wq at *
      generalize hrq : rs ++ [((⟨0, [⟨7, 0, 0⟩]⟩ : Kn.Task), some ⟨wo0.heap.size, 0, none⟩, 1)] = rq at *
      have hrl2 : rq.length = N + 1 := by rw [← hrq, List.length_append, hrl]; rfl
      have HS2 := Lib.hid (show rq.map (·.1) = (List.range (N + 1)).map (Kn.fullF (prOf l) N) by rw [← hrq, List.map_append, HS.out, List.range_succ, List.map_append, List.map_singleton, List.map_singleton, Kn.fullF_n])
      clear hVq hwq hrq HS
      go_wp2_with (first | (go_at_call 21; refine (o_any _ _ _ _).mono ?_; rintro e wo ⟨rfl, hbo⟩; have hzo := hbo.size; have HBo := Lib.hid hbo; clear hbo) | (go_at_call 20; refine (t_any _ _ _ _ _).mono ?_; rintro e wg ⟨rfl, hbg⟩; have hzg := hbg.size; have HBg := Lib.hid hbg; clear hbg))
      have HNB := Lib.hid (show wo.heap.size ≤ wg.heap.size by simp only [World.size_alloc] at hzg; omega)
      have HNX := Lib.hid hzo
      have HXB := Lib.hid (Nat.le_trans hzo HNB.out)
      have HOPS := Lib.hid ((Whole.made wo 32 #[.int .i64 2, .int .i64 2, .int .i64 0]).same (HBg.out.block _ (by simp)))
      have HX0 := Lib.hid (OL.of_whole (b := wg.heap.size) (pr := .int .i64 31) (l := [(⟨2, 2, 0⟩ : Kn.Op)]) (N := wo.heap.size) (Whole.made wg 29 _) (HOPS.out.alloc _) (Nat.le_refl _) (Nat.le_of_ble_eq_true rfl))
      have HB0 := Lib.hid (((HBo.out.alloc HBo.out.size (.cells #[.int .i64 2, .int .i64 2, .int .i64 0] 32)).trans (HBg.out.mono (by simp only [World.size_alloc]; omega))).alloc HXB.out (.cells #[.int .i64 31, .slice (some ⟨wo.heap.size, 0, none⟩) 1 1] 29))
      clear HBo HBg HOPS hzg hzo
      go_loopg [9] (N + 1) (fun kk i wr => ∃ (q : Nat) (V' : Value), q ≤ N + 1 ∧ i = .int .i64 q ∧ OL wr wg.heap.size wo.heap.size (.int .i64 31) V' (⟨2, 2, 0⟩ :: Kn.fullO q) ∧ Below wq.heap.size wq wr ∧ N + 1 - q ≤ kk)
      case atStart => exact ⟨0, _, Nat.zero_le _, rfl, HX0.out, HB0.out, by omega⟩
      case round =>
        clear HX0 HB0
        obtain ⟨q, V, hq, rfl, hO, hbx, hkk2⟩ := hrel
        obtain ⟨ol, hold⟩ : ∃ ol : List Kn.Op, ol = ⟨2, 2, 0⟩ :: Kn.fullO q := ⟨_, rfl⟩
        rw [← hold] at hO
        have HL := Lib.hid (show ol.length ≤ 100 by rw [hold, List.length_cons, Kn.fullO_len]; omega)
        have HOLD := Lib.hid hold
        clear hold
        have HO := Lib.hid hO
        have HBX := Lib.hid hbx
        have htb := hO.blk.lt
        have hzx := hbx.size
        by_cases hqG : q < N + 1
        · have hqG' : (q : Int) ≤ N := by omega
          have k0 := hO.blk.cell 1
          have k1 := hO.blk.frozen 1
          simp only [List.getElem?_toArray, List.getElem?_cons_succ, List.getElem?_cons_zero] at k0
          clear hO hbx
          go_wp2_with fail
          have hl0 : Addr.block (⟨wg.heap.size, 1, none⟩) < wr.heap.size := htb
          refine wp_region_need (S := fun w' => w'.cell? (⟨wg.heap.size, 1, none⟩) = some (V)) (need := fun i => i != 7) 8 #[false, false, false, false, false, false, false, false] (by rfl) (by rfl) (by kernel_rfl) ?_ (fun hHeld => ?_)
          · (try dsimp only)
            exact k0
          refine wpAnyN_take (i := 0) (v := ?_) (listed' := #[true, false, false, false, false, false, false, false]) rfl (by kernel_rfl) (by kernel_rfl) (by kernel_rfl) (by rfl) (fun _ _ _ h => h) (Or.inl ⟨by rfl, ?_⟩) (by assumption) ?_
          rotate_left
          · intro w hSw
            (try dsimp only at hSw)
            go_simp
            with_reducible rfl
          try simp only [Act.put, List.getElem_toArray, List.getElem_cons_zero, List.setIfInBounds_toArray, List.set_cons_zero, List.set_cons_succ]
          refine wpAnyN_take (i := 1) (v := ?_) (listed' := #[true, true, false, false, false, false, false, false]) rfl (by kernel_rfl) (by kernel_rfl) (by kernel_rfl) (by rfl) (fun _ _ _ h => h) (Or.inl ⟨by rfl, ?_⟩) (by assumption) ?_
          rotate_left
          · intro w hSw
            (try dsimp only at hSw)
            go_simp
            with_reducible rfl
          try simp only [Act.put, List.getElem_toArray, List.getElem_cons_zero, List.getElem_cons_succ, List.setIfInBounds_toArray, List.set_cons_zero, List.set_cons_succ]
          refine wpAnyN_step (i := 2) (listed' := #[true, true, true, false, false, false, false, false]) (by kernel_rfl) rfl (by rfl) (fun K hK => ?_)
          refine step_o (by rfl) _ _ _ (by rfl) (8) (0) (0) (by rfl) (by rfl) (by rfl) ?_
          intro wo0 hb0
          have hz0' : wr.heap.size ≤ wo0.heap.size := hb0.size
          have O0' := Lib.hid ((HO.out.keep (Below.drew (Below.refl _ _))).keep hb0)
          have B0' := Lib.hid ((HBX.out.drew).trans (hb0.mono HBX.out.size))
          refine hK.out _ _ ?_ (fun hHeld => ?_)
          · (try dsimp only)
            exact fun _ => (hb0.cell (p := ⟨wg.heap.size, 1, none⟩) hl0).trans hHeld
          clear hK K
          replace hHeld := hHeld rfl
          try simp only [Act.put, List.getElem_toArray, List.getElem_cons_zero, List.getElem_cons_succ, List.setIfInBounds_toArray, List.set_cons_zero, List.set_cons_succ]
          replace hl0 := Nat.lt_of_lt_of_le hl0 hz0'
          refine wpAnyN_step (i := 3) (listed' := #[true, true, true, true, false, false, false, false]) (by kernel_rfl) rfl (by rfl) (fun K hK => ?_)
          refine step_o (by rfl) _ _ _ (by rfl) (9) (0) (0) (by rfl) (by rfl) (by rfl) ?_
          intro wo1 hb1
          have hz1' : wo0.heap.size ≤ wo1.heap.size := hb1.size
          have O1' := Lib.hid (O0'.out.keep hb1)
          have B1' := Lib.hid (B0'.out.trans (hb1.mono B0'.out.size))
          clear O0' B0'
          refine hK.out _ _ ?_ (fun hHeld => ?_)
          · (try dsimp only)
            exact fun _ => (hb1.cell (p := ⟨wg.heap.size, 1, none⟩) hl0).trans hHeld
          clear hK K
          replace hHeld := hHeld rfl
          try simp only [Act.put, List.getElem_toArray, List.getElem_cons_zero, List.getElem_cons_succ, List.setIfInBounds_toArray, List.set_cons_zero, List.set_cons_succ]
          replace hl0 := Nat.lt_of_lt_of_le hl0 hz1'
          refine wpAnyN_step (i := 4) (listed' := #[true, true, true, true, true, false, false, false]) (by kernel_rfl) rfl (by rfl) (fun K hK => ?_)
          refine step_ops2 (by rfl) _ _ (by rfl) (8) (0) (0) (9) (0) (0) (by rfl) (by rfl) ?_
          have O4 := Lib.hid (O1'.out.keep ((Below.refl wo1.heap.size wo1).alloc (Nat.le_refl _) (.cells #[.int .i64 (8), .int .i64 (0), .int .i64 (0), .int .i64 (9), .int .i64 (0), .int .i64 (0)] 32)))
          have B4 := Lib.hid (B1'.out.alloc B1'.out.size (.cells #[.int .i64 (8), .int .i64 (0), .int .i64 (0), .int .i64 (9), .int .i64 (0), .int .i64 (0)] 32))
          clear O1' B1'
          refine hK.out _ _ ?_ (fun hHeld => ?_)
          · (try dsimp only)
            exact fun _ => (World.cell?_alloc_lt _ _ _ hl0).trans hHeld
          clear hK K
          replace hHeld := hHeld rfl
          try simp only [Act.put, List.getElem_toArray, List.getElem_cons_zero, List.getElem_cons_succ, List.setIfInBounds_toArray, List.set_cons_zero, List.set_cons_succ]
          refine wpAnyN_step (i := 5) (listed' := #[true, true, true, true, true, true, false, false]) (by kernel_rfl) rfl (by rfl) (fun K hK => ?_)
          refine step_append_lies _ (by rfl) _ _ _ (by rfl) (wo.heap.size) 32 j0 _ 3 24 Try.underlying27 hj jz0 jz1 jz2 rfl (by decide) V (ol).length (opsC (ol)) (by rfl) O4.out.row ⟨wo1.heap.size, 0, none⟩ 2 2 [.int .i64 (8), .int .i64 (0), .int .i64 (0), .int .i64 (9), .int .i64 (0), .int .i64 (0)] (by rfl) (by rfl) (World.news_of_block (cs := #[.int .i64 (8), .int .i64 (0), .int .i64 (0), .int .i64 (9), .int .i64 (0), .int .i64 (0)]) (t := 32) (fr := (0, 0)) (heap_alloc_new _ _)) (by simp [Value.oneCell']) (by decide) (by unfold maxLen; have := HL.out; omega) (by have := HL.out; omega) (Nat.le_of_lt (Nat.lt_of_le_of_lt HNB.out (lt_alloc hl0 _))) (wo1.heap.size + 1) (by simp) ?_
          intro gg cap w5 hown hgrow hat hlt5
          have hVlt := O4.out.row.lt
          have y := O4.out.blk.grown hgrow (own_block O4.out.row O4.out.blk (by decide))
          have y1 := y.cell 1
          have yf := y.frozen 1
          simp only [List.getElem?_toArray, List.getElem?_cons_succ, List.getElem?_cons_zero] at y1
          have OP := Lib.hid (O4.out.push (m := [⟨8, 0, 0⟩, ⟨9, 0, 0⟩]) hown hgrow)
          have HBP := Lib.hid (bel_push (i := 1) B4.out hgrow (Nat.le_refl _) (fun k hk => Nat.le_trans (HNX.out) (hVlt k hk).1) (HXB.out) (.slice (some ⟨gg, 0, none⟩) ((ol).length + 2) cap))
          clear hown
          refine hK.out _ _ ?_ (fun hHeld => ?_)
          · (try dsimp only)
            exact fun _ => (hgrow.cell_far (⟨wg.heap.size, 1, none⟩) (lt_alloc hl0 _) (fun e => own_block O4.out.row O4.out.blk (by decide) e.symm)).trans hHeld
          clear hK K
          replace hHeld := hHeld rfl
          try simp only [Act.put, List.getElem_toArray, List.getElem_cons_zero, List.getElem_cons_succ, List.setIfInBounds_toArray, List.set_cons_zero, List.set_cons_succ]
          refine wpAnyN_take (i := 6) (v := ?_) (listed' := #[true, true, true, true, true, true, true, false]) rfl (by kernel_rfl) (by kernel_rfl) (by kernel_rfl) (by rfl) (fun _ _ _ h => h) (Or.inl ⟨by rfl, ?_⟩) (by assumption) ?_
          rotate_left
          · intro w hSw
            (try dsimp only at hSw)
            go_simp
            with_reducible rfl
          try simp only [Act.put, List.getElem_toArray, List.getElem_cons_zero, List.getElem_cons_succ, List.setIfInBounds_toArray, List.set_cons_zero, List.set_cons_succ]
          refine wpAnyN_step (i := 7) (listed' := #[true, true, true, true, true, true, true, true]) (by kernel_rfl) rfl (by rfl) (fun K hK => ?_)
          refine step_store27 (by rfl) _ _ (by rfl) (by rfl) (by rfl) y1 yf ?_
          refine hK.out _ _ ?_ (fun hHeld => ?_)
          · exact fun h => absurd h (by decide)
          clear hK K
          try simp only [Act.put, List.getElem_toArray, List.getElem_cons_zero, List.getElem_cons_succ]
          refine wpAnyN_done (by kernel_rfl) ?_ _
          go_wp2_with fail
          go_roundg (N + 1 - (q + 1))
          case measure => omega
          case rel => exact ⟨q + 1, _, by omega, by go_num, by rw [Kn.fullO_succ, ← List.cons_append, ← HOLD.out]; exact OP.out, HBP.out, Nat.le_refl _⟩
        · have hqG' : ¬ (q : Int) ≤ N := by omega
          have hqn : q = N + 1 := by omega
          subst hqn
          obtain ⟨A, c2, hV⟩ := hO.shape
          subst hV
          have HTr := HT2.out.keep hbx
          have T4 := Lib.hid (HTr.keep ((Below.refl wr.heap.size wr).alloc (Nat.le_refl _) (.cells #[.int .i64 31, .slice A ol.length c2] 29)))
          have X4 := Lib.hid ((hO.opsLie (p := 31) (Nat.le_trans HL.out (by decide))).below ((Below.refl wr.heap.size wr).alloc (Nat.le_refl _) (.cells #[.int .i64 31, .slice A ol.length c2] 29)))
          have x0 := hO.blk.cell 0
          have x1 := hO.blk.cell 1
          have xf := hO.blk.frozen 0
          have t0 := HTr.blk.cell 0
          have tf := HTr.blk.frozen 0
          have hTl := HTr.blk.lt
          simp only [List.getElem?_toArray, List.getElem?_cons_succ, List.getElem?_cons_zero] at x0 x1 t0
          clear hO hbx HTr
          go_wp2_with (at_builtin; refine wpList_append_lies _ rfl _ _ _ rfl (wS.heap.size + 1) 29 i0 _ 2 32 Try.underlying23 hi iz0 iz1 iz2 rfl (by decide) Vq rq.length (tkC rq) rfl T4.out.row ⟨wr.heap.size, 0, none⟩ 1 1 [.int .i64 31, .slice A ol.length c2] rfl rfl (World.news_of_block (cs := #[.int .i64 31, .slice A ol.length c2]) (t := 29) (fr := (0, 0)) (heap_alloc_new _ _)) (by simp [Value.oneCell']) (by decide) (by unfold maxLen; omega) (by omega) (by simp; omega) (wr.heap.size + 1) (by simp) ?_)
          intro gg cap w5 hown hgrow hat hlt5
          have y := T4.out.blk.grown hgrow (own_block T4.out.row T4.out.blk (by decide))
          have y0 := y.cell 0
          have y1 := y.frozen 0
          simp only [List.getElem?_toArray, List.getElem?_cons_zero] at y0
          have TP := T4.out.push (x := (⟨31, ol⟩, A, c2)) X4.out (by rw [hrl2]; exact hown) hgrow
          have z0 := TP.blk.cell 0
          have z1 := TP.blk.cell 1
          have z2 := TP.blk.cell 2
          have z3 := TP.blk.cell 3
          have zf := TP.blk.frozen 0
          have hlt4 := TP.blk.lt
          simp only [List.getElem?_toArray, List.getElem?_cons_zero, List.getElem?_cons_succ] at z0 z1 z2 z3
          replace TP := Lib.hid TP
          clear y hown hgrow hat T4 X4 x0 x1 xf t0 tf
          have hf := Lib.hid (Kn.full_fits HOK.out (by omega))
          have hout := Lib.hid (Kn.full_run HOK.out (by omega))
          go_wp2_with fail
          refine (run_at (t := Kn.fullT (prOf l) N) (ticks := 10) (ops := 1000) (by simp [Kn.fullT]) rfl rfl rfl rfl rfl ?tab hf.out (by omega) (by omega)).mono ?_
          case tab => exact (TP.out.tl.tab (t := Kn.fullT (prOf l) N) (by rw [List.map_append, HS2.out, HOLD.out]; show (List.range (N + 2)).map (Kn.fullF (prOf l) N) = _; rw [List.range_succ, List.map_append, List.map_singleton, Kn.fullF_l]; rfl) (Reads.nil _) (by have h8 := HSW.out.same (TP.out.tl.bel.block _ hzs1); exact Reads.of_whole (n := 1) (sz := 1) h8 h8.lt rfl) (by have := hrl2; rw [List.length_append]; show rq.length + 1 ≤ 1000; omega) (Nat.zero_le _) (by show (1 : Nat) ≤ 1000; omega)).1
          rintro e w9 hRR
          obtain ⟨P9, Q9, R9, pn, pc, qn, qc, rn, rc, rfl, hb9, HRA⟩ := hRR.opened
          clear hRR
          generalize Kn.runT (Kn.fullT (prOf l) N) 10 1000 = k at *
          have hbel := HB1.out.trans ((TP.out.tl.bel.trans (hb9.mono TP.out.tl.bel.size)).mono hzS)
          have HBE := Lib.hid (hbel.alloc hbel.size (.cells #[.slice P9 pn pc, .slice Q9 qn qc, .slice R9 rn rc, .int .i64 k.ticks, .int .i64 k.ops] 36))
          have HC := Lib.hid (HRA.out.conv _ ((Below.refl w9.heap.size w9).alloc (Nat.le_refl _) (.cells #[.slice P9 pn pc, .slice Q9 qn qc, .slice R9 rn rc, .int .i64 k.ticks, .int .i64 k.ops] 36)))
          have HSN := Lib.hid ((TP.out.sn.same (hb9.block _ TP.out.sn.lt)).alloc (.cells #[.slice P9 pn pc, .slice Q9 qn qc, .slice R9 rn rc, .int .i64 k.ticks, .int .i64 k.ops] 36))
          clear hb9 hbel 
          have HC2 := Lib.hid (show (convert 34 9 (.slice P9 pn pc)).run Try.prog (w9.alloc (.cells #[.slice P9 pn pc, .slice Q9 qn qc, .slice R9 rn rc, .int .i64 k.ticks, .int .i64 k.ops] 36)) = .ok (.string (fullB (Kn.hit (prOf l) N) 30)) (w9.alloc (.cells #[.slice P9 pn pc, .slice Q9 qn qc, .slice R9 rn rc, .int .i64 k.ticks, .int .i64 k.ops] 36)) by rw [HC.out, hout.out, fullB_all])
          clear HC hout
          go_wp2_with fail
          go_loopg [12, 13] 31 (fun kk s i wr => ∃ p : Nat, p ≤ 30 ∧ i = .int .i64 ((p : Int) + 1) ∧ s = .string (fullB (Kn.hit (prOf l) N) p) ∧ wr = w9.alloc (.cells #[.slice P9 pn pc, .slice Q9 qn qc, .slice R9 rn rc, .int .i64 k.ticks, .int .i64 k.ops] 36) ∧ 30 - p ≤ kk)
          case atStart => exact ⟨0, Nat.zero_le _, rfl, rfl, rfl, by omega⟩
          case round =>
            obtain ⟨p, hp, rfl, rfl, rfl, hkk3⟩ := hrel
            by_cases hp3 : p < 30
            · have hp3' : (p : Int) + 1 < 31 := by omega
              have s0 := HSN.out.cell (p + 1)
              rw [snA_at _ (by omega)] at s0
              have hsl := HSN.out.lt
              by_cases gh : Kn.hit (prOf l) N (p + 1) = true
              · as_aux_lemma =>
                  rw [gh] at s0
                  have HA := Lib.hid (fullB_yes gh)
                  obtain ⟨q, hq⟩ : ∃ q, q = (p + 1) % 26 := ⟨_, rfl⟩
                  have htm : ((p : Int) + 1).tmod 26 = (q : Int) := by rw [Int.tmod_eq_emod_of_nonneg (by omega)]; omega
                  have hq2 : q < 26 := by omega
                  rw [← hq] at HA
                  clear hq
                  have hw1 : IntKind.i64.wrap (q : Int) = q := by rw [IntKind.wrap_i64]; omega
                  have hw2 : IntKind.i64.wrap (97 + (q : Int)) = 97 + q := by rw [IntKind.wrap_i64]; omega
                  have hw3 : IntKind.i32.wrap (97 + (q : Int)) = 97 + q := by rw [IntKind.wrap_i32]; omega
                  have hL := enc_letter q hq2
                  have hsz := fullB_size (Kn.hit (prOf l) N) p
                  go_wp2_with fail
                  go_roundg (30 - (p + 1))
                  case measure => omega
                  case rel => exact ⟨p + 1, by omega, by go_num, congrArg Value.string (Eq.trans (by simp) HA.out), rfl, Nat.le_refl _⟩
              · as_aux_lemma =>
                  have gh2 : Kn.hit (prOf l) N (p + 1) = false := by simpa using gh
                  rw [gh2] at s0
                  have HA := Lib.hid (fullB_no gh2)
                  go_wp2_with fail
                  go_roundg (30 - (p + 1))
                  case measure => omega
                  case rel => exact ⟨p + 1, by omega, by go_num, by rw [HA.out], rfl, Nat.le_refl _⟩
            · have hp3' : ¬ (p : Int) + 1 < 31 := by omega
              have : p = 30 := by omega
              subst this
              have HC3 := HC2.out
              go_wp2_with (first | (go_at_call 23; refine (num_any _ _).mono ?_; rintro e w3 ⟨rfl, rfl⟩))
              go_ret
              exact ⟨rfl, HBE.out⟩
end Go.Proofs.Ytncbgnpoffolcaa
