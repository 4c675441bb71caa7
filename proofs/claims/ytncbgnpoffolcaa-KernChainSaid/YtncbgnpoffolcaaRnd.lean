/-
  KernRounds: the walk of the law.
-/
import Derived.Test.YtncbgnpoffolcaaWn
import Derived.Test.YtncbgnpoffolcaaRndP
namespace Go.Proofs.Ytncbgnpoffolcaa
open Go.RowKit
def lettersB (n : Nat) : ByteArray := ⟨(letters n).toArray⟩
theorem run_lettersB (n : Nat) (hn : n ≤ 26) : ∀ W : World, (Instr.slice 9 (.string ⟨#[97, 98, 99, 100, 101, 102, 103, 104, 105, 106, 107, 108, 109, 110, 111, 112, 113, 114, 115, 116, 117, 118, 119, 120, 121, 122]⟩) none (some (.int .i64 n)) none).run Try.prog W = .ok (.string (lettersB n)) W := run_letters n hn
theorem lettersB_size (n : Nat) : (lettersB n).size = n := by
  show (letters n).toArray.size = n
  simp [letters]
def rndW (n k : Nat) : ByteArray := ⟨(Kn.outs n k).toArray⟩
theorem ups_letters (n : Nat) : (Kn.ups 0 n).map Kn.byt = letters n := by
  unfold Kn.ups letters
  rw [← List.range_eq_range', List.map_map]
  rfl
theorem rndW_push (n k : Nat) : rndW n k ++ lettersB n = rndW n (k + 1) := by
  unfold rndW lettersB
  rw [str_add, Kn.outs_succ, ups_letters]
theorem rndW_size {n k : Nat} (hn : n ≤ 20) (hk : k ≤ 21) : ((rndW n k).size : Int) ≤ 10000 := by
  have h : (Kn.outs n k).length ≤ k * 20 := by
    induction k with
    | zero => exact Nat.zero_le _
    | succ k ih =>
      rw [Kn.outs_succ, List.length_append, ups_letters]
      have := ih (by omega)
      have : (letters n).length = n := by simp [letters]
      omega
  show ((Kn.outs n k).toArray.size : Int) ≤ _
  rw [List.size_toArray]
  omega
set_option maxRecDepth 100000 in
set_option maxHeartbeats 8000000 in
theorem kernRounds_any (a b : Int) (w : World) : Calls Try.prog 14 #[.int .i64 a, .int .i64 b] w fun r w' => r = .returned (.bool true) ∧ Below w.heap.size w w' := by
  obtain ⟨i0, hi, iz0, iz1, iz2⟩ := info_parts info29
  by_cases b0 : a < 1
  · as_aux_lemma =>
      go_enter Try.func14, Try.ntmps14
      go_wp2_with fail
      refine (alive_any w).mono ?_
      rintro e w1 ⟨rfl, hb1⟩
      go_wp2_with fail
      go_ret
      exact ⟨rfl, hb1⟩
  by_cases b1 : 20 < a
  · as_aux_lemma =>
      go_enter Try.func14, Try.ntmps14
      go_wp2_with fail
      refine (alive_any w).mono ?_
      rintro e w1 ⟨rfl, hb1⟩
      go_wp2_with fail
      go_ret
      exact ⟨rfl, hb1⟩
  by_cases b2 : b < 1
  · as_aux_lemma =>
      go_enter Try.func14, Try.ntmps14
      go_wp2_with fail
      refine (alive_any w).mono ?_
      rintro e w1 ⟨rfl, hb1⟩
      go_wp2_with fail
      go_ret
      exact ⟨rfl, hb1⟩
  by_cases b3 : 20 < b
  · as_aux_lemma =>
      go_enter Try.func14, Try.ntmps14
      go_wp2_with fail
      refine (alive_any w).mono ?_
      rintro e w1 ⟨rfl, hb1⟩
      go_wp2_with fail
      go_ret
      exact ⟨rfl, hb1⟩
  obtain ⟨N, rfl⟩ : ∃ N : Nat, a = N := ⟨a.toNat, by omega⟩
  obtain ⟨R, rfl⟩ : ∃ N : Nat, b = N := ⟨b.toNat, by omega⟩
  go_enter Try.func14, Try.ntmps14
  go_wp2_with fail
  refine (alive_any w).mono ?_
  rintro e w1 ⟨rfl, hb1⟩
  have HB1 := Lib.hid hb1
  have hz1 := hb1.size
  clear hb1
  go_wp2_with fail
  have hnil := Lib.hid (TL.nil w1 (.slice none 0 0) (.slice none 0 0) 0)
  go_loopg [8] N (fun kk i wr => ∃ (j : Nat) (V : Value) (rs : List (Kn.Task × Option Addr × Nat)), j ≤ N ∧ i = .int .i64 j ∧ TL w1 wr V (.slice none 0 0) (.slice none 0 0) 0 rs ∧ rs.map (·.1) = (List.range j).map (Kn.roundF R) ∧ N - j ≤ kk)
  case atStart => exact ⟨0, _, [], Nat.zero_le _, rfl, hnil.out, rfl, by omega⟩
  case round =>
    obtain ⟨j, V, rs, hj, rfl, hT, hrs, hkk⟩ := hrel
    by_cases hlt : j < N
    · have hlt' : (j : Int) < N := by omega
      have hrl : rs.length = j := by have := congrArg List.length hrs; simpa using this
      have hzr := hT.bel.size
      have k0 := hT.blk.cell 0
      have k1 := hT.blk.frozen 0
      simp only [List.getElem?_toArray, List.getElem?_cons_zero] at k0
      have htb := hT.blk.lt
      have HT := Lib.hid hT
      have HS := Lib.hid hrs
      clear hT hrs
      go_wp2_with fail
      refine wp_region_need (S := fun w' => w'.cell? (⟨w1.heap.size, 0, none⟩) = some (V)) (need := fun i => i != 13) 14 #[false, false, false, false, false, false, false, false, false, false, false, false, false, false] (by rfl) (by rfl) (by kernel_rfl) ?_ (fun hHeld => ?_)
      · (try dsimp only)
        exact k0
      refine wpAnyN_take (i := 0) (v := ?_) (listed' := #[true, false, false, false, false, false, false, false, false, false, false, false, false, false]) rfl (by kernel_rfl) (by kernel_rfl) (by kernel_rfl) (by rfl) (fun _ _ _ h => h) (Or.inl ⟨by rfl, ?_⟩) (by assumption) ?_
      rotate_left
      · intro w hSw
        (try dsimp only at hSw)
        go_simp
        with_reducible rfl
      try simp only [Act.put, List.getElem_toArray, List.getElem_cons_zero, List.setIfInBounds_toArray, List.set_cons_zero, List.set_cons_succ]
      refine wpAnyN_take (i := 1) (v := ?_) (listed' := #[true, true, false, false, false, false, false, false, false, false, false, false, false, false]) rfl (by kernel_rfl) (by kernel_rfl) (by kernel_rfl) (by rfl) (fun _ _ _ h => h) (Or.inl ⟨by rfl, ?_⟩) (by assumption) ?_
      rotate_left
      · intro w hSw
        (try dsimp only at hSw)
        go_simp
        with_reducible rfl
      try simp only [Act.put, List.getElem_toArray, List.getElem_cons_zero, List.getElem_cons_succ, List.setIfInBounds_toArray, List.set_cons_zero, List.set_cons_succ]
      refine wpAnyN_take (i := 2) (v := ?_) (listed' := #[true, true, true, false, false, false, false, false, false, false, false, false, false, false]) rfl (by kernel_rfl) (by kernel_rfl) (by kernel_rfl) (by rfl) (fun _ _ _ h => h) (Or.inl ⟨by rfl, ?_⟩) (by assumption) ?_
      rotate_left
      · intro w hSw
        (try dsimp only at hSw)
        go_simp
        with_reducible rfl
      try simp only [Act.put, List.getElem_toArray, List.getElem_cons_zero, List.getElem_cons_succ, List.setIfInBounds_toArray, List.set_cons_zero, List.set_cons_succ]
      refine wpAnyN_take (i := 3) (v := ?_) (listed' := #[true, true, true, true, false, false, false, false, false, false, false, false, false, false]) rfl (by kernel_rfl) (by kernel_rfl) (by kernel_rfl) (by rfl) (fun _ _ _ h => h) (Or.inl ⟨by rfl, ?_⟩) (by assumption) ?_
      rotate_left
      · intro w hSw
        (try dsimp only at hSw)
        go_simp
        with_reducible rfl
      try simp only [Act.put, List.getElem_toArray, List.getElem_cons_zero, List.getElem_cons_succ, List.setIfInBounds_toArray, List.set_cons_zero, List.set_cons_succ]
      refine wpAnyN_take (i := 6) (v := ?_) (listed' := #[true, true, true, true, false, false, true, false, false, false, false, false, false, false]) rfl (by kernel_rfl) (by kernel_rfl) (by kernel_rfl) (by rfl) (fun _ _ _ h => h) (Or.inl ⟨by rfl, ?_⟩) (by assumption) ?_
      rotate_left
      · intro w hSw
        (try dsimp only at hSw)
        go_simp
        with_reducible rfl
      try simp only [Act.put, List.getElem_toArray, List.getElem_cons_zero, List.getElem_cons_succ, List.setIfInBounds_toArray, List.set_cons_zero, List.set_cons_succ]
      refine wpAnyN_step (i := 4) (listed' := #[true, true, true, true, true, false, true, false, false, false, false, false, false, false]) (by kernel_rfl) rfl (by rfl) (fun K hK => ?_)
      refine step_o (by rfl) _ _ _ (by rfl) (0) (97 + (j : Int)) (0) (by rfl) (by first | rfl | (refine (rfl : _ = Value.int .i64 (IntKind.i64.wrap (97 + (j : Int)))).trans (congrArg _ (by rw [IntKind.wrap_i64]; omega)))) (by rfl) ?_
      intro wo0 hb0
      have hz0' : wr.heap.size ≤ wo0.heap.size := hb0.size
      have T0' := Lib.hid ((HT.out.keep (Below.drew (Below.refl _ _))).keep hb0)
      have hT0' := T0'.out.blk.lt
      refine hK.out _ _ ?_ (fun hHeld => ?_)
      · (try dsimp only)
        exact fun _ => (hb0.cell (p := ⟨w1.heap.size, 0, none⟩) (by simp; omega)).trans hHeld
      clear hK K
      replace hHeld := hHeld rfl
      try simp only [Act.put, List.getElem_toArray, List.getElem_cons_zero, List.getElem_cons_succ, List.setIfInBounds_toArray, List.set_cons_zero, List.set_cons_succ]
      refine wpAnyN_step (i := 5) (listed' := #[true, true, true, true, true, true, true, false, false, false, false, false, false, false]) (by kernel_rfl) rfl (by rfl) (fun K hK => ?_)
      refine step_o (by rfl) _ _ _ (by rfl) (1) (0) (0) (by rfl) (by rfl) (by rfl) ?_
      intro wo1 hb1
      have hz1' : wo0.heap.size ≤ wo1.heap.size := hb1.size
      have T1' := Lib.hid ((T0'.out).keep hb1)
      have hT1' := T1'.out.blk.lt
      clear T0'
      refine hK.out _ _ ?_ (fun hHeld => ?_)
      · (try dsimp only)
        exact fun _ => (hb1.cell (p := ⟨w1.heap.size, 0, none⟩) (by simp; omega)).trans hHeld
      clear hK K
      replace hHeld := hHeld rfl
      try simp only [Act.put, List.getElem_toArray, List.getElem_cons_zero, List.getElem_cons_succ, List.setIfInBounds_toArray, List.set_cons_zero, List.set_cons_succ]
      refine wpAnyN_step (i := 7) (listed' := #[true, true, true, true, true, true, true, true, false, false, false, false, false, false]) (by kernel_rfl) rfl (by rfl) (fun K hK => ?_)
      refine step_o (by rfl) _ _ _ (by rfl) (10) (0) ((R : Int)) (by rfl) (by rfl) (by rfl) ?_
      intro wo2 hb2
      have hz2' : wo1.heap.size ≤ wo2.heap.size := hb2.size
      have T2' := Lib.hid ((T1'.out).keep hb2)
      have hT2' := T2'.out.blk.lt
      clear T1'
      refine hK.out _ _ ?_ (fun hHeld => ?_)
      · (try dsimp only)
        exact fun _ => (hb2.cell (p := ⟨w1.heap.size, 0, none⟩) (by simp; omega)).trans hHeld
      clear hK K
      replace hHeld := hHeld rfl
      try simp only [Act.put, List.getElem_toArray, List.getElem_cons_zero, List.getElem_cons_succ, List.setIfInBounds_toArray, List.set_cons_zero, List.set_cons_succ]
      refine wpAnyN_step (i := 8) (listed' := #[true, true, true, true, true, true, true, true, true, false, false, false, false, false]) (by kernel_rfl) rfl (by rfl) (fun K hK => ?_)
      go_simp
      refine hK.out _ _ ?_ (fun hHeld => ?_)
      · (try dsimp only)
        exact fun _ => (World.cell?_alloc_lt _ _ _ (by first | omega | (simp; omega))).trans hHeld
      clear hK K
      replace hHeld := hHeld rfl
      try simp only [Act.put, List.getElem_toArray, List.getElem_cons_zero, List.getElem_cons_succ, List.setIfInBounds_toArray, List.set_cons_zero, List.set_cons_succ]
      refine wpAnyN_step (i := 9) (listed' := #[true, true, true, true, true, true, true, true, true, true, false, false, false, false]) (by kernel_rfl) rfl (by rfl) (fun K hK => ?_)
      refine step_t (by rfl) _ _ (by rfl) (7) (some ⟨wo2.heap.size, 0, none⟩) 3 3 (by rfl) (by rfl) ?_
      intro wT hbt
      have hzT := hbt.size
      have T3 := ((T2'.out).keep ((Below.refl _ _).alloc (Nat.le_refl _) _)).keep hbt
      have X3 : OpsLie wT (Kn.roundF R j, some ⟨wo2.heap.size, 0, none⟩, 3) := .of_whole (Nat.le_of_ble_eq_true rfl) rfl ((Whole.made wo2 32 #[.int .i64 (0), .int .i64 (97 + (j : Int)), .int .i64 (0), .int .i64 (1), .int .i64 (0), .int .i64 (0), .int .i64 (10), .int .i64 (0), .int .i64 ((R : Int))]).same (hbt.block _ (by simp)))
      have T4 := Lib.hid (T3.keep ((Below.refl wT.heap.size wT).alloc (Nat.le_refl _) (.cells #[.int .i64 (7), .slice (some ⟨wo2.heap.size, 0, none⟩) 3 3] 29)))
      have X4 := Lib.hid (X3.below ((Below.refl wT.heap.size wT).alloc (Nat.le_refl _) (.cells #[.int .i64 (7), .slice (some ⟨wo2.heap.size, 0, none⟩) 3 3] 29)))
      simp only [World.size_alloc] at hzT
      have h3 := T3.blk.lt
      clear T3 X3 T2'
      refine hK.out _ _ ?_ (fun hHeld => ?_)
      · (try dsimp only)
        exact fun _ => (hbt.cell (p := ⟨w1.heap.size, 0, none⟩) (by simp; omega)).trans hHeld
      clear hK K
      replace hHeld := hHeld rfl
      try simp only [Act.put, List.getElem_toArray, List.getElem_cons_zero, List.getElem_cons_succ, List.setIfInBounds_toArray, List.set_cons_zero, List.set_cons_succ]
      refine wpAnyN_step (i := 10) (listed' := #[true, true, true, true, true, true, true, true, true, true, true, false, false, false]) (by kernel_rfl) rfl (by rfl) (fun K hK => ?_)
      go_simp
      refine hK.out _ _ ?_ (fun hHeld => ?_)
      · (try dsimp only)
        exact fun _ => (World.cell?_alloc_lt _ _ _ (by first | omega | (simp; omega))).trans hHeld
      clear hK K
      replace hHeld := hHeld rfl
      try simp only [Act.put, List.getElem_toArray, List.getElem_cons_zero, List.getElem_cons_succ, List.setIfInBounds_toArray, List.set_cons_zero, List.set_cons_succ]
      refine wpAnyN_step (i := 11) (listed' := #[true, true, true, true, true, true, true, true, true, true, true, true, false, false]) (by kernel_rfl) rfl (by rfl) (fun K hK => ?_)
      refine step_append_lies _ (by rfl) _ _ _ (by rfl) (w1.heap.size + 1) 29 i0 _ 2 32 Try.underlying23 hi iz0 iz1 iz2 rfl (by omega) V rs.length (tkC rs) (by rfl) T4.out.row ⟨wT.heap.size, 0, none⟩ 1 1 [.int .i64 (7), .slice (some ⟨wo2.heap.size, 0, none⟩) 3 3] (by rfl) (by rfl) (World.news_of_block (cs := #[.int .i64 (7), .slice (some ⟨wo2.heap.size, 0, none⟩) 3 3]) (t := 29) (fr := (0, 0)) (heap_alloc_new _ _)) (by simp [Value.oneCell']) (by omega) (by unfold maxLen; omega) (by omega) (by simp; omega) (wT.heap.size + 1) (by simp) ?_
      intro gg cap w5 hown hgrow hat hlt5
      have hVlt := T4.out.row.lt
      have y := T4.out.blk.grown hgrow (own_block T4.out.row T4.out.blk (by decide))
      have y0 := y.cell 0
      have y1 := y.frozen 0
      simp only [List.getElem?_toArray, List.getElem?_cons_zero] at y0
      have TP := Lib.hid (T4.out.push (x := (Kn.roundF R j, some ⟨wo2.heap.size, 0, none⟩, 3)) X4.out (by exact hown) hgrow)
      simp only [hrl] at TP
      clear y hown hat
      refine hK.out _ _ ?_ (fun hHeld => ?_)
      · (try dsimp only)
        exact fun _ => (hgrow.cell_far (⟨w1.heap.size, 0, none⟩) (by simp; omega) (fun e => by have e : some (w1.heap.size) = V.ownBlock := e; have := hVlt _ e.symm; omega)).trans hHeld
      clear hK K
      replace hHeld := hHeld rfl
      try simp only [Act.put, List.getElem_toArray, List.getElem_cons_zero, List.getElem_cons_succ, List.setIfInBounds_toArray, List.set_cons_zero, List.set_cons_succ]
      refine wpAnyN_take (i := 12) (v := ?_) (listed' := #[true, true, true, true, true, true, true, true, true, true, true, true, true, false]) rfl (by kernel_rfl) (by kernel_rfl) (by kernel_rfl) (by rfl) (fun _ _ _ h => h) (Or.inl ⟨by rfl, ?_⟩) (by assumption) ?_
      rotate_left
      · intro w hSw
        (try dsimp only at hSw)
        go_simp
        with_reducible rfl
      try simp only [Act.put, List.getElem_toArray, List.getElem_cons_zero, List.getElem_cons_succ, List.setIfInBounds_toArray, List.set_cons_zero, List.set_cons_succ]
      refine wpAnyN_step (i := 13) (listed' := #[true, true, true, true, true, true, true, true, true, true, true, true, true, true]) (by kernel_rfl) rfl (by rfl) (fun K hK => ?_)
      go_simp
      refine hK.out _ _ ?_ (fun hHeld => ?_)
      · exact fun h => absurd h (by decide)
      clear hK K
      try simp only [Act.put, List.getElem_toArray, List.getElem_cons_zero, List.getElem_cons_succ, List.setIfInBounds_toArray, List.set_cons_zero, List.set_cons_succ]
      refine wpAnyN_done (by kernel_rfl) ?_ _
      go_wp2_with fail
      go_roundg (N - (j + 1))
      case measure => omega
      case rel => exact ⟨j + 1, _, rs ++ [(Kn.roundF R j, some ⟨wo2.heap.size, 0, none⟩, 3)], by omega, by go_num, TP.out, by rw [List.map_append, HS.out, List.range_succ, List.map_append]; rfl, Nat.le_refl _⟩
    · have hlt' : ¬ (j : Int) < N := by omega
      have hjn : j = N := by omega
      have hrl : rs.length = j := by have := congrArg List.length hrs; simpa using this
      subst hjn
      have HRL := Lib.hid hrl
      obtain ⟨A1, c1, hV⟩ := hT.shape
      rw [hrl] at hV
      subst hV
      have k0 := hT.blk.cell 0
      have k1 := hT.blk.cell 1
      have k2 := hT.blk.cell 2
      have k3 := hT.blk.cell 3
      have kf := hT.blk.frozen 0
      have hlt4 := hT.blk.lt
      simp only [List.getElem?_toArray, List.getElem?_cons_zero, List.getElem?_cons_succ] at k0 k1 k2 k3
      have HT := Lib.hid hT
      have HS := Lib.hid hrs
      have hf := Lib.hid (Kn.rounds_fits (n := j) (R := R) (by omega) (by omega) (by omega) (by omega))
      have hout := Lib.hid (Kn.rounds_run (n := j) (R := R) (by omega) (by omega) (by omega) (by omega))
      clear hT hrs hrl
      go_wp2_with fail
      go_loopg [7, 9] (R + 1) (fun kk s p w' => ∃ q : Nat, q ≤ R + 1 ∧ p = .int .i64 q ∧ s = .string (rndW j q) ∧ w' = wr ∧ R + 1 - q ≤ kk)
      case atStart => exact ⟨0, Nat.zero_le _, rfl, rfl, rfl, by omega⟩
      case round =>
        obtain ⟨q, hq, rfl, rfl, rfl, hkk2⟩ := hrel
        by_cases hqR : q ≤ R
        · have hqR' : (q : Int) ≤ R := by omega
          have hL := run_lettersB j (by omega)
          have HA := Lib.hid (rndW_push j q)
          have hs1 := rndW_size (n := j) (k := q) (by omega) (by omega)
          have hs2 : ((lettersB j).size : Int) ≤ 26 := by rw [lettersB_size]; omega
          go_wp2_with fail
          go_roundg (R + 1 - (q + 1))
          case measure => omega
          case rel => exact ⟨q + 1, by omega, by go_num, congrArg Value.string HA.out, rfl, Nat.le_refl _⟩
        · have hqR' : ¬ (q : Int) ≤ R := by omega
          have : q = R + 1 := by omega
          subst this
          go_wp2_with fail
          refine (run_at (t := Kn.roundsT j R) (ticks := 0) (ops := 5000) (by simp [Kn.roundsT]) rfl rfl rfl rfl rfl ?tab hf.out (by omega) (by omega)).mono ?_
          case tab => exact (HT.out.tab (t := Kn.roundsT j R) HS.out.symm (Reads.nil _) (Reads.nil _) (by have := HRL.out; omega) (Nat.zero_le _) (Nat.zero_le _)).1
          rintro e w9 hRR
          obtain ⟨P9, Q9, R9, pn, pc, qn, qc, rn, rc, rfl, hb9, HRA⟩ := hRR.opened
          clear hRR
          generalize Kn.runT (Kn.roundsT j R) 0 5000 = k at *
          have hbel := HB1.out.trans ((HT.out.bel.trans (hb9.mono HT.out.bel.size)).mono hz1)
          have HBE := Lib.hid (hbel.alloc hbel.size (.cells #[.slice P9 pn pc, .slice Q9 qn qc, .slice R9 rn rc, .int .i64 k.ticks, .int .i64 k.ops] 36))
          have HC := Lib.hid (HRA.out.conv _ ((Below.refl w9.heap.size w9).alloc (Nat.le_refl _) (.cells #[.slice P9 pn pc, .slice Q9 qn qc, .slice R9 rn rc, .int .i64 k.ticks, .int .i64 k.ops] 36)))
          clear hb9 hbel 
          have HC2 := HC.out
          rw [hout.out, show (⟨(Kn.outs j (R + 1)).toArray⟩ : ByteArray) = rndW j (R + 1) from rfl] at HC2
          go_wp2_with (first | (go_at_call 23; refine (num_any _ _).mono ?_; rintro e w3 ⟨rfl, rfl⟩))
          go_ret
          exact ⟨rfl, HBE.out⟩
end Go.Proofs.Ytncbgnpoffolcaa
