/-
  KernChain: the walk of the law.
-/
import Derived.Test.YtncbgnpoffolcaaWn
import Derived.Test.YtncbgnpoffolcaaSb
import Derived.Test.YtncbgnpoffolcaaOw
import Derived.Test.YtncbgnpoffolcaaChnP
import Derived.Test.YtncbgnpoffolcaaRnd
namespace Go.Proofs.Ytncbgnpoffolcaa
open Go.RowKit
set_option maxRecDepth 100000 in
set_option maxHeartbeats 16000000 in
theorem kernChain_any (a : Int) (w : World) : Calls Try.prog 3 #[.int .i64 a] w fun r w' => r = .returned (.bool true) ∧ Below w.heap.size w w' := by
  obtain ⟨i0, hi, iz0, iz1, iz2⟩ := info_parts info29
  obtain ⟨j0, hj, jz0, jz1, jz2⟩ := info_parts info32'
  by_cases b0 : a < 1
  · as_aux_lemma =>
      go_enter Try.func3, Try.ntmps3
      go_wp2_with fail
      refine (alive_any w).mono ?_
      rintro e w1 ⟨rfl, hb1⟩
      go_wp2_with fail
      go_ret
      exact ⟨rfl, hb1⟩
  by_cases b1 : 7 < a
  · as_aux_lemma =>
      go_enter Try.func3, Try.ntmps3
      go_wp2_with fail
      refine (alive_any w).mono ?_
      rintro e w1 ⟨rfl, hb1⟩
      go_wp2_with fail
      go_ret
      exact ⟨rfl, hb1⟩
  obtain ⟨N, rfl⟩ : ∃ N : Nat, a = N := ⟨a.toNat, by omega⟩
  go_enter Try.func3, Try.ntmps3
  go_wp2_with fail
  refine (alive_any w).mono ?_
  rintro e w1 ⟨rfl, hb1⟩
  have HB1 := Lib.hid hb1
  have hz1 := hb1.size
  clear hb1
  go_wp2_with fail
  have hnil := Lib.hid (TL.nil w1 (.slice none 0 0) (.slice none 0 0) N)
  go_loopg [5, 6] N (fun kk i z wr => ∃ (j : Nat) (V : Value) (rs : List (Kn.Task × Option Addr × Nat)), j ≤ N ∧ i = .int .i64 j ∧ TL w1 wr V (.slice none 0 0) (.slice none 0 0) N rs ∧ rs.map (·.1) = (List.range j).map chainF ∧ N - j ≤ kk)
  case atStart => exact ⟨0, _, [], Nat.zero_le _, rfl, hnil.out, rfl, by omega⟩
  case round =>
    obtain ⟨j, V, rs, hjN, rfl, hT, hrs, hkk⟩ := hrel
    by_cases hlt : j < N
    · have hlt' : (j : Int) < N := by omega
      have hrl : rs.length = j := by have := congrArg List.length hrs; simpa using this
      have hzr := hT.bel.size
      have HT := Lib.hid hT
      have HS := Lib.hid hrs
      clear hT hrs
      by_cases hj0 : ¬ (0 : Int) < (j : Int)
      · as_aux_lemma =>
        go_wp2_with (first | (go_at_call 21; refine (o_any _ _ _ _).mono ?_; rintro e wo ⟨rfl, hbo⟩; have hzo := hbo.size; have HBo := Lib.hid hbo; clear hbo) | (go_at_call 20; refine (t_any _ _ _ _ _).mono ?_; rintro e wg ⟨rfl, hbg⟩; have hzg := hbg.size; have HBg := Lib.hid hbg; clear hbg))
        have HOPS := Lib.hid ((Whole.made wo 32 #[.int .i64 5, .int .i64 (j : Int), .int .i64 0]).same (HBg.out.block _ (by simp)))
        have HO := Lib.hid (OL.of_whole (b := wg.heap.size) (pr := .int .i64 (30 - (j : Int))) (l := [(⟨5, (j : Int), 0⟩ : Kn.Op)]) (N := wo.heap.size) (Whole.made wg 29 _) (HOPS.out.alloc _) (Nat.le_refl _) (Nat.le_of_ble_eq_true rfl))
        have HBX := Lib.hid (((HBo.out.alloc HBo.out.size (.cells #[.int .i64 5, .int .i64 (j : Int), .int .i64 0] 32)).trans (HBg.out.mono (by simp only [World.size_alloc]; omega))).alloc (by simp only [World.size_alloc] at hzg; omega) (.cells #[.int .i64 (30 - (j : Int)), .slice (some ⟨wo.heap.size, 0, none⟩) 1 1] 29))
        have HNB := Lib.hid (show wo.heap.size ≤ wg.heap.size by simp only [World.size_alloc] at hzg; omega)
        have HNX := Lib.hid hzo
        have HXB := Lib.hid (Nat.le_trans hzo HNB.out)
        have htb := HO.out.blk.lt
        have k0 := HO.out.blk.cell 1
        have k1 := HO.out.blk.frozen 1
        simp only [List.getElem?_toArray, List.getElem?_cons_succ, List.getElem?_cons_zero] at k0
        generalize hV0 : Value.slice (some ⟨wo.heap.size, 0, none⟩) 1 1 = V0 at *
        generalize hw0 : wg.alloc (.cells #[.int .i64 (30 - (j : Int)), V0] 29) = wv0 at *
        obtain ⟨ol0, hol0⟩ : ∃ l : List Kn.Op, l = [⟨5, (j : Int), 0⟩] := ⟨_, rfl⟩
        rw [← hol0] at HO
        have HL0 := Lib.hid (show ol0.length ≤ 90 by rw [hol0]; exact Nat.le_of_ble_eq_true rfl)
        have HE0 := Lib.hid hol0
        clear hol0 hV0 hw0
        have hl0 : Addr.block (⟨wg.heap.size, 1, none⟩) < wv0.heap.size := htb
        refine wp_region_need (S := fun w' => w'.cell? (⟨wg.heap.size, 1, none⟩) = some (V0)) (need := fun i => i != 6) 7 #[false, false, false, false, false, false, false] (by rfl) (by rfl) (by kernel_rfl) ?_ (fun hHeld => ?_)
        · (try dsimp only)
          exact k0
        refine wpAnyN_take (i := 0) (v := ?_) (listed' := #[true, false, false, false, false, false, false]) rfl (by kernel_rfl) (by kernel_rfl) (by kernel_rfl) (by rfl) (fun _ _ _ h => h) (Or.inl ⟨by rfl, ?_⟩) (by assumption) ?_
        rotate_left
        · intro w hSw
          (try dsimp only at hSw)
          go_simp
          with_reducible rfl
        try simp only [Act.put, List.getElem_toArray, List.getElem_cons_zero, List.setIfInBounds_toArray, List.set_cons_zero, List.set_cons_succ]
        refine wpAnyN_take (i := 1) (v := ?_) (listed' := #[true, true, false, false, false, false, false]) rfl (by kernel_rfl) (by kernel_rfl) (by kernel_rfl) (by rfl) (fun _ _ _ h => h) (Or.inl ⟨by rfl, ?_⟩) (by assumption) ?_
        rotate_left
        · intro w hSw
          (try dsimp only at hSw)
          go_simp
          with_reducible rfl
        try simp only [Act.put, List.getElem_toArray, List.getElem_cons_zero, List.getElem_cons_succ, List.setIfInBounds_toArray, List.set_cons_zero, List.set_cons_succ]
        refine wpAnyN_step (i := 2) (listed' := #[true, true, true, false, false, false, false]) (by kernel_rfl) rfl (by rfl) (fun K hK => ?_)
        refine step_o (by rfl) _ _ _ (by rfl) (2) (5) (0) (by rfl) (by rfl) (by rfl) ?_
        intro wo0 hb0
        have hz0' : wv0.heap.size ≤ wo0.heap.size := hb0.size
        have O0' := Lib.hid ((HO.out.keep (Below.drew (Below.refl _ _))).keep hb0)
        have B0' := Lib.hid ((HBX.out.drew).trans (hb0.mono HBX.out.size))
        refine hK.out _ _ ?_ (fun hHeld => ?_)
        · (try dsimp only)
          exact fun _ => (hb0.cell (p := ⟨wg.heap.size, 1, none⟩) hl0).trans hHeld
        clear hK K
        replace hHeld := hHeld rfl
        try simp only [Act.put, List.getElem_toArray, List.getElem_cons_zero, List.getElem_cons_succ, List.setIfInBounds_toArray, List.set_cons_zero, List.set_cons_succ]
        replace hl0 := Nat.lt_of_lt_of_le hl0 hz0'
        refine wpAnyN_step (i := 3) (listed' := #[true, true, true, true, false, false, false]) (by kernel_rfl) rfl (by rfl) (fun K hK => ?_)
        refine step_ops1 (by rfl) _ (by rfl) (2) (5) (0) (by rfl) ?_
        have O4 := Lib.hid (O0'.out.keep ((Below.refl wo0.heap.size wo0).alloc (Nat.le_refl _) (.cells #[.int .i64 (2), .int .i64 (5), .int .i64 (0)] 32)))
        have B4 := Lib.hid (B0'.out.alloc B0'.out.size (.cells #[.int .i64 (2), .int .i64 (5), .int .i64 (0)] 32))
        clear O0' B0'
        refine hK.out _ _ ?_ (fun hHeld => ?_)
        · (try dsimp only)
          exact fun _ => (World.cell?_alloc_lt _ _ _ hl0).trans hHeld
        clear hK K
        replace hHeld := hHeld rfl
        try simp only [Act.put, List.getElem_toArray, List.getElem_cons_zero, List.getElem_cons_succ, List.setIfInBounds_toArray, List.set_cons_zero, List.set_cons_succ]
        refine wpAnyN_step (i := 4) (listed' := #[true, true, true, true, true, false, false]) (by kernel_rfl) rfl (by rfl) (fun K hK => ?_)
        refine step_append_lies _ (by rfl) _ _ _ (by rfl) (wo.heap.size) 32 j0 _ 3 24 Try.underlying27 hj jz0 jz1 jz2 rfl (by decide) V0 (ol0).length (opsC (ol0)) (by rfl) O4.out.row ⟨wo0.heap.size, 0, none⟩ 1 1 [.int .i64 (2), .int .i64 (5), .int .i64 (0)] (by rfl) (by rfl) (World.news_of_block (cs := #[.int .i64 (2), .int .i64 (5), .int .i64 (0)]) (t := 32) (fr := (0, 0)) (heap_alloc_new _ _)) (by simp [Value.oneCell']) (by decide) (by unfold maxLen; have := HL0.out; omega) (by have := HL0.out; omega) (Nat.le_of_lt (Nat.lt_of_le_of_lt HNB.out (lt_alloc hl0 _))) (wo0.heap.size + 1) (by simp) ?_
        intro gg cap w5 hown hgrow hat hlt5
        have hVlt := O4.out.row.lt
        have y := O4.out.blk.grown hgrow (own_block O4.out.row O4.out.blk (by decide))
        have y1 := y.cell 1
        have yf := y.frozen 1
        simp only [List.getElem?_toArray, List.getElem?_cons_succ, List.getElem?_cons_zero] at y1
        have OP := Lib.hid (O4.out.push (m := [⟨2, 5, 0⟩]) hown hgrow)
        have HBP := Lib.hid (bel_push (i := 1) B4.out hgrow (Nat.le_refl _) (fun k hk => Nat.le_trans (HNX.out) (hVlt k hk).1) (HXB.out) (.slice (some ⟨gg, 0, none⟩) ((ol0).length + 1) cap))
        clear hown
        refine hK.out _ _ ?_ (fun hHeld => ?_)
        · (try dsimp only)
          exact fun _ => (hgrow.cell_far (⟨wg.heap.size, 1, none⟩) (lt_alloc hl0 _) (fun e => own_block O4.out.row O4.out.blk (by decide) e.symm)).trans hHeld
        clear hK K
        replace hHeld := hHeld rfl
        try simp only [Act.put, List.getElem_toArray, List.getElem_cons_zero, List.getElem_cons_succ, List.setIfInBounds_toArray, List.set_cons_zero, List.set_cons_succ]
        refine wpAnyN_take (i := 5) (v := ?_) (listed' := #[true, true, true, true, true, true, false]) rfl (by kernel_rfl) (by kernel_rfl) (by kernel_rfl) (by rfl) (fun _ _ _ h => h) (Or.inl ⟨by rfl, ?_⟩) (by assumption) ?_
        rotate_left
        · intro w hSw
          (try dsimp only at hSw)
          go_simp
          with_reducible rfl
        try simp only [Act.put, List.getElem_toArray, List.getElem_cons_zero, List.getElem_cons_succ, List.setIfInBounds_toArray, List.set_cons_zero, List.set_cons_succ]
        refine wpAnyN_step (i := 6) (listed' := #[true, true, true, true, true, true, true]) (by kernel_rfl) rfl (by rfl) (fun K hK => ?_)
        refine step_store27 (by rfl) _ _ (by rfl) (by rfl) (by rfl) y1 yf ?_
        refine hK.out _ _ ?_ (fun hHeld => ?_)
        · exact fun h => absurd h (by decide)
        clear hK K
        try simp only [Act.put, List.getElem_toArray, List.getElem_cons_zero, List.getElem_cons_succ]
        refine wpAnyN_done (by kernel_rfl) ?_ _
        skip
        have HOn1 := OP
        have HBn1 := HBP
        clear OP HBP y yf y1 hVlt hgrow hat hHeld hl0 O4 B4
        generalize hV1 : Value.slice (some ⟨gg, 0, none⟩) ((ol0).length + 1) cap = V1 at *
        generalize hw1 : w5.setCell ⟨wg.heap.size, 1, none⟩ V1 = wv1 at *
        clear hV1 hw1
        obtain ⟨ol1, hol1⟩ : ∃ l : List Kn.Op, l = ol0 ++ [⟨2, 5, 0⟩] := ⟨_, rfl⟩
        rw [← hol1] at HOn1
        have HL1 := Lib.hid (show ol1.length ≤ 91 by have := HL0.out; rw [hol1, List.length_append, List.length_singleton]; omega)
        have HE1 := Lib.hid hol1
        clear hol1
        replace htb := HOn1.out.blk.lt
        replace k0 := HOn1.out.blk.cell 1
        replace k1 := HOn1.out.blk.frozen 1
        simp only [List.getElem?_toArray, List.getElem?_cons_succ, List.getElem?_cons_zero] at k0
        go_wp2_with fail
        have hl0 : Addr.block (⟨wg.heap.size, 1, none⟩) < wv1.heap.size := htb
        refine wp_region_need (S := fun w' => w'.cell? (⟨wg.heap.size, 1, none⟩) = some (V1)) (need := fun i => i != 8) 9 #[false, false, false, false, false, false, false, false, false] (by rfl) (by rfl) (by kernel_rfl) ?_ (fun hHeld => ?_)
        · (try dsimp only)
          exact k0
        refine wpAnyN_take (i := 0) (v := ?_) (listed' := #[true, false, false, false, false, false, false, false, false]) rfl (by kernel_rfl) (by kernel_rfl) (by kernel_rfl) (by rfl) (fun _ _ _ h => h) (Or.inl ⟨by rfl, ?_⟩) (by assumption) ?_
        rotate_left
        · intro w hSw
          (try dsimp only at hSw)
          go_simp
          with_reducible rfl
        try simp only [Act.put, List.getElem_toArray, List.getElem_cons_zero, List.setIfInBounds_toArray, List.set_cons_zero, List.set_cons_succ]
        refine wpAnyN_take (i := 1) (v := ?_) (listed' := #[true, true, false, false, false, false, false, false, false]) rfl (by kernel_rfl) (by kernel_rfl) (by kernel_rfl) (by rfl) (fun _ _ _ h => h) (Or.inl ⟨by rfl, ?_⟩) (by assumption) ?_
        rotate_left
        · intro w hSw
          (try dsimp only at hSw)
          go_simp
          with_reducible rfl
        try simp only [Act.put, List.getElem_toArray, List.getElem_cons_zero, List.getElem_cons_succ, List.setIfInBounds_toArray, List.set_cons_zero, List.set_cons_succ]
        refine wpAnyN_take (i := 2) (v := ?_) (listed' := #[true, true, true, false, false, false, false, false, false]) rfl (by kernel_rfl) (by kernel_rfl) (by kernel_rfl) (by rfl) (fun _ _ _ h => h) (Or.inl ⟨by rfl, ?_⟩) (by assumption) ?_
        rotate_left
        · intro w hSw
          (try dsimp only at hSw)
          go_simp
          with_reducible rfl
        try simp only [Act.put, List.getElem_toArray, List.getElem_cons_zero, List.getElem_cons_succ, List.setIfInBounds_toArray, List.set_cons_zero, List.set_cons_succ]
        refine wpAnyN_take (i := 3) (v := ?_) (listed' := #[true, true, true, true, false, false, false, false, false]) rfl (by kernel_rfl) (by kernel_rfl) (by kernel_rfl) (by rfl) (fun _ _ _ h => h) (Or.inl ⟨by rfl, ?_⟩) (by assumption) ?_
        rotate_left
        · intro w hSw
          (try dsimp only at hSw)
          go_simp
          with_reducible rfl
        try simp only [Act.put, List.getElem_toArray, List.getElem_cons_zero, List.getElem_cons_succ, List.setIfInBounds_toArray, List.set_cons_zero, List.set_cons_succ]
        refine wpAnyN_step (i := 4) (listed' := #[true, true, true, true, true, false, false, false, false]) (by kernel_rfl) rfl (by rfl) (fun K hK => ?_)
        refine step_o (by rfl) _ _ _ (by rfl) (0) (97 + (j : Int)) (0) (by rfl) (by first | exact Eq.trans (b := Value.int .i64 (IntKind.i64.wrap (97 + (j : Int)))) rfl (congrArg (Value.int .i64) (by rw [IntKind.wrap_i64]; omega)) | rfl) (by rfl) ?_
        intro wo0 hb0
        have hz0' : wv1.heap.size ≤ wo0.heap.size := hb0.size
        have O0' := Lib.hid ((HOn1.out.keep (Below.drew (Below.refl _ _))).keep hb0)
        have B0' := Lib.hid ((HBn1.out.drew).trans (hb0.mono HBn1.out.size))
        refine hK.out _ _ ?_ (fun hHeld => ?_)
        · (try dsimp only)
          exact fun _ => (hb0.cell (p := ⟨wg.heap.size, 1, none⟩) hl0).trans hHeld
        clear hK K
        replace hHeld := hHeld rfl
        try simp only [Act.put, List.getElem_toArray, List.getElem_cons_zero, List.getElem_cons_succ, List.setIfInBounds_toArray, List.set_cons_zero, List.set_cons_succ]
        replace hl0 := Nat.lt_of_lt_of_le hl0 hz0'
        refine wpAnyN_step (i := 5) (listed' := #[true, true, true, true, true, true, false, false, false]) (by kernel_rfl) rfl (by rfl) (fun K hK => ?_)
        refine step_ops1 (by rfl) _ (by rfl) (0) (97 + (j : Int)) (0) (by rfl) ?_
        have O4 := Lib.hid (O0'.out.keep ((Below.refl wo0.heap.size wo0).alloc (Nat.le_refl _) (.cells #[.int .i64 (0), .int .i64 (97 + (j : Int)), .int .i64 (0)] 32)))
        have B4 := Lib.hid (B0'.out.alloc B0'.out.size (.cells #[.int .i64 (0), .int .i64 (97 + (j : Int)), .int .i64 (0)] 32))
        clear O0' B0'
        refine hK.out _ _ ?_ (fun hHeld => ?_)
        · (try dsimp only)
          exact fun _ => (World.cell?_alloc_lt _ _ _ hl0).trans hHeld
        clear hK K
        replace hHeld := hHeld rfl
        try simp only [Act.put, List.getElem_toArray, List.getElem_cons_zero, List.getElem_cons_succ, List.setIfInBounds_toArray, List.set_cons_zero, List.set_cons_succ]
        refine wpAnyN_step (i := 6) (listed' := #[true, true, true, true, true, true, true, false, false]) (by kernel_rfl) rfl (by rfl) (fun K hK => ?_)
        refine step_append_lies _ (by rfl) _ _ _ (by rfl) (wo.heap.size) 32 j0 _ 3 24 Try.underlying27 hj jz0 jz1 jz2 rfl (by decide) V1 (ol1).length (opsC (ol1)) (by rfl) O4.out.row ⟨wo0.heap.size, 0, none⟩ 1 1 [.int .i64 (0), .int .i64 (97 + (j : Int)), .int .i64 (0)] (by rfl) (by rfl) (World.news_of_block (cs := #[.int .i64 (0), .int .i64 (97 + (j : Int)), .int .i64 (0)]) (t := 32) (fr := (0, 0)) (heap_alloc_new _ _)) (by simp [Value.oneCell']) (by decide) (by unfold maxLen; have := HL1.out; omega) (by have := HL1.out; omega) (Nat.le_of_lt (Nat.lt_of_le_of_lt HNB.out (lt_alloc hl0 _))) (wo0.heap.size + 1) (by simp) ?_
        intro gg cap w5 hown hgrow hat hlt5
        have hVlt := O4.out.row.lt
        have y := O4.out.blk.grown hgrow (own_block O4.out.row O4.out.blk (by decide))
        have y1 := y.cell 1
        have yf := y.frozen 1
        simp only [List.getElem?_toArray, List.getElem?_cons_succ, List.getElem?_cons_zero] at y1
        have OP := Lib.hid (O4.out.push (m := [⟨0, 97 + (j : Int), 0⟩]) hown hgrow)
        have HBP := Lib.hid (bel_push (i := 1) B4.out hgrow (Nat.le_refl _) (fun k hk => Nat.le_trans (HNX.out) (hVlt k hk).1) (HXB.out) (.slice (some ⟨gg, 0, none⟩) ((ol1).length + 1) cap))
        clear hown
        refine hK.out _ _ ?_ (fun hHeld => ?_)
        · (try dsimp only)
          exact fun _ => (hgrow.cell_far (⟨wg.heap.size, 1, none⟩) (lt_alloc hl0 _) (fun e => own_block O4.out.row O4.out.blk (by decide) e.symm)).trans hHeld
        clear hK K
        replace hHeld := hHeld rfl
        try simp only [Act.put, List.getElem_toArray, List.getElem_cons_zero, List.getElem_cons_succ, List.setIfInBounds_toArray, List.set_cons_zero, List.set_cons_succ]
        refine wpAnyN_take (i := 7) (v := ?_) (listed' := #[true, true, true, true, true, true, true, true, false]) rfl (by kernel_rfl) (by kernel_rfl) (by kernel_rfl) (by rfl) (fun _ _ _ h => h) (Or.inl ⟨by rfl, ?_⟩) (by assumption) ?_
        rotate_left
        · intro w hSw
          (try dsimp only at hSw)
          go_simp
          with_reducible rfl
        try simp only [Act.put, List.getElem_toArray, List.getElem_cons_zero, List.getElem_cons_succ, List.setIfInBounds_toArray, List.set_cons_zero, List.set_cons_succ]
        refine wpAnyN_step (i := 8) (listed' := #[true, true, true, true, true, true, true, true, true]) (by kernel_rfl) rfl (by rfl) (fun K hK => ?_)
        refine step_store27 (by rfl) _ _ (by rfl) (by rfl) (by rfl) y1 yf ?_
        refine hK.out _ _ ?_ (fun hHeld => ?_)
        · exact fun h => absurd h (by decide)
        clear hK K
        try simp only [Act.put, List.getElem_toArray, List.getElem_cons_zero, List.getElem_cons_succ]
        refine wpAnyN_done (by kernel_rfl) ?_ _
        skip
        have HOn2 := OP
        have HBn2 := HBP
        clear OP HBP y yf y1 hVlt hgrow hat hHeld hl0 O4 B4
        generalize hV2 : Value.slice (some ⟨gg, 0, none⟩) ((ol1).length + 1) cap = V2 at *
        generalize hw2 : w5.setCell ⟨wg.heap.size, 1, none⟩ V2 = wv2 at *
        clear hV2 hw2
        obtain ⟨ol2, hol2⟩ : ∃ l : List Kn.Op, l = ol1 ++ [⟨0, 97 + (j : Int), 0⟩] := ⟨_, rfl⟩
        rw [← hol2] at HOn2
        have HL2 := Lib.hid (show ol2.length ≤ 92 by have := HL1.out; rw [hol2, List.length_append, List.length_singleton]; omega)
        have HE2 := Lib.hid hol2
        clear hol2
        replace htb := HOn2.out.blk.lt
        replace k0 := HOn2.out.blk.cell 1
        replace k1 := HOn2.out.blk.frozen 1
        simp only [List.getElem?_toArray, List.getElem?_cons_succ, List.getElem?_cons_zero] at k0
        have x0 := HOn2.out.blk.cell 0
        have xf := HOn2.out.blk.frozen 0
        simp only [List.getElem?_toArray, List.getElem?_cons_zero] at x0
        go_upto_region 15 with fail
        have HOn3 := Lib.hid (HOn2.out.prio (.int .i64 (30 - (j : Int))))
        have HBn3 := Lib.hid (HBn2.out.setCell (p := ⟨wg.heap.size, 0, none⟩) HXB.out (.int .i64 (30 - (j : Int))))
        generalize hw3 : wv2.setCell ⟨wg.heap.size, 0, none⟩ (.int .i64 (30 - (j : Int))) = wv3 at *
        clear hw3 x0 xf k0 k1 htb HOn2 HBn2 HO HBX HOn1 HBn1
        obtain ⟨g2, cap2, cur2, hVe, hNg, hgw, hle2, hmx2, hsz2, htk2⟩ := HOn3.out.open_ (by rw [HE2.out]; simp)
        subst hVe
        have hL2p : 0 < ol2.length := by rw [HE2.out]; simp
        have hl0 := HOn3.out.blk.lt
        have k0 := HOn3.out.blk.cell 1
        simp only [List.getElem?_toArray, List.getElem?_cons_succ, List.getElem?_cons_zero] at k0
        refine wp_region_need (S := fun w' => w'.cell? (⟨wg.heap.size, 1, none⟩) = some (.slice (some ⟨g2, 0, none⟩) ol2.length cap2)) (need := fun i => i != 8) 9 #[false, false, false, false, false, false, false, false, false] (by rfl) (by rfl) (by kernel_rfl) ?_ (fun hHeld => ?_)
        · (try dsimp only)
          exact k0
        refine wpAnyN_take (i := 0) (v := ?_) (listed' := #[true, false, false, false, false, false, false, false, false]) rfl (by kernel_rfl) (by kernel_rfl) (by kernel_rfl) (by rfl) (fun _ _ _ h => h) (Or.inl ⟨by rfl, ?_⟩) (by assumption) ?_
        rotate_left
        · intro w hSw
          (try dsimp only at hSw)
          go_simp
          with_reducible rfl
        try simp only [Act.put, List.getElem_toArray, List.getElem_cons_zero, List.setIfInBounds_toArray, List.set_cons_zero, List.set_cons_succ]
        refine wpAnyN_take (i := 1) (v := ?_) (listed' := #[true, true, false, false, false, false, false, false, false]) rfl (by kernel_rfl) (by kernel_rfl) (by kernel_rfl) (by rfl) (fun _ _ _ h => h) (Or.inl ⟨by rfl, ?_⟩) (by assumption) ?_
        rotate_left
        · intro w hSw
          (try dsimp only at hSw)
          go_simp
          with_reducible rfl
        try simp only [Act.put, List.getElem_toArray, List.getElem_cons_zero, List.getElem_cons_succ, List.setIfInBounds_toArray, List.set_cons_zero, List.set_cons_succ]
        refine wpAnyN_take (i := 4) (v := ?_) (listed' := #[true, true, false, false, true, false, false, false, false]) rfl (by kernel_rfl) (by kernel_rfl) (by kernel_rfl) (by rfl) (fun _ _ _ h => h) (Or.inl ⟨by rfl, ?_⟩) (by assumption) ?_
        rotate_left
        · intro w hSw
          (try dsimp only at hSw)
          go_simp
          with_reducible rfl
        try simp only [Act.put, List.getElem_toArray, List.getElem_cons_zero, List.getElem_cons_succ, List.setIfInBounds_toArray, List.set_cons_zero, List.set_cons_succ]
        refine wpAnyN_take (i := 5) (v := ?_) (listed' := #[true, true, false, false, true, true, false, false, false]) rfl (by kernel_rfl) (by kernel_rfl) (by kernel_rfl) (by rfl) (fun _ _ _ h => h) (Or.inl ⟨by rfl, ?_⟩) (by assumption) ?_
        rotate_left
        · intro w hSw
          (try dsimp only at hSw)
          go_simp
          with_reducible rfl
        try simp only [Act.put, List.getElem_toArray, List.getElem_cons_zero, List.getElem_cons_succ, List.setIfInBounds_toArray, List.set_cons_zero, List.set_cons_succ]
        refine wpAnyN_step (i := 2) (listed' := #[true, true, true, false, true, true, false, false, false]) (by kernel_rfl) rfl (by rfl) (fun K hK => ?_)
        refine step_o (by rfl) _ _ _ (by rfl) 2 (1 + (j : Int)) 0 (by rfl) (by first | exact Eq.trans (b := Value.int .i64 (IntKind.i64.wrap (1 + (j : Int)))) rfl (congrArg (Value.int .i64) (by rw [IntKind.wrap_i64]; omega)) | rfl) (by rfl) ?_
        intro wq hbq
        have O3' := Lib.hid ((HOn3.out.keep (Below.drew (Below.refl _ _))).keep hbq)
        have B3' := Lib.hid ((HBn3.out.drew).trans (hbq.mono HBn3.out.size))
        have hzq : wv3.heap.size ≤ wq.heap.size := hbq.size
        have hg2 := Lib.hid (hgw.same (hbq.block _ hgw.lt))
        refine hK.out _ _ ?_ (fun hHeld => ?_)
        · (try dsimp only)
          exact fun _ => (hbq.cell (p := ⟨wg.heap.size, 1, none⟩) hl0).trans hHeld
        clear hK K
        replace hHeld := hHeld rfl
        try simp only [Act.put, List.getElem_toArray, List.getElem_cons_zero, List.getElem_cons_succ, List.setIfInBounds_toArray, List.set_cons_zero, List.set_cons_succ]
        replace hl0 := Nat.lt_of_lt_of_le hl0 hzq
        refine wpAnyN_step (i := 3) (listed' := #[true, true, true, true, true, true, false, false, false]) (by kernel_rfl) rfl (by rfl) (fun K hK => ?_)
        refine step_ops1 (by rfl) _ (by rfl) 2 (1 + (j : Int)) 0 (by rfl) ?_
        have O4 := Lib.hid (O3'.out.keep ((Below.refl wq.heap.size wq).alloc (Nat.le_refl _) (.cells #[.int .i64 2, .int .i64 (1 + (j : Int)), .int .i64 0] 32)))
        have B4 := Lib.hid (B3'.out.alloc B3'.out.size (.cells #[.int .i64 2, .int .i64 (1 + (j : Int)), .int .i64 0] 32))
        have hg3 := Lib.hid (hg2.out.alloc (.cells #[.int .i64 2, .int .i64 (1 + (j : Int)), .int .i64 0] 32))
        have hrow0 : (wq.alloc (.cells #[.int .i64 2, .int .i64 (1 + (j : Int)), .int .i64 0] 32)).ownsRow wq.heap.size 32 3 (.slice (some ⟨wq.heap.size, 0, none⟩) 1 1) 1 (opsC [⟨2, 1 + (j : Int), 0⟩]) := ⟨rfl, .inr ⟨wq.heap.size, 1, _, rfl, Nat.le_refl _, Whole.made wq 32 _, Nat.le_refl _, Nat.le_of_ble_eq_true rfl, rfl, rfl⟩⟩
        clear O3' B3' hg2
        refine hK.out _ _ ?_ (fun hHeld => ?_)
        · (try dsimp only)
          exact fun _ => (World.cell?_alloc_lt _ _ _ hl0).trans hHeld
        clear hK K
        replace hHeld := hHeld rfl
        try simp only [Act.put, List.getElem_toArray, List.getElem_cons_zero, List.getElem_cons_succ, List.setIfInBounds_toArray, List.set_cons_zero, List.set_cons_succ]
        refine wpAnyN_step (i := 6) (listed' := #[true, true, true, true, true, true, true, false, false]) (by kernel_rfl) rfl (by rfl) (fun K hK => ?_)
        refine step_append_lies _ (by rfl) _ _ _ (by rfl) (wq.heap.size) 32 j0 _ 3 24 Try.underlying27 hj jz0 jz1 jz2 rfl (by decide) (.slice (some ⟨wq.heap.size, 0, none⟩) 1 1) 1 (opsC [⟨2, 1 + (j : Int), 0⟩]) (by rfl) hrow0 ⟨g2, 0, none⟩ ol2.length cap2 (opsC ol2) (by rfl) (opsC_len3 _) (ops_cells hg3.out htk2) (opsC_one _) hL2p (by unfold maxLen; have := HL2.out; omega) (by have := HL2.out; omega) (by simp) (wq.heap.size + 1) (by simp) ?_
        intro gg cap w5 hown hgrow hat hlt5
        have y := O4.out.blk.grown hgrow (own_block hrow0 O4.out.blk (by decide))
        have y1 := y.cell 1
        have yf := y.frozen 1
        simp only [List.getElem?_toArray, List.getElem?_cons_succ, List.getElem?_cons_zero] at y1
        have OP := Lib.hid (OL.swap (l' := [⟨2, 1 + (j : Int), 0⟩] ++ ol2) (V' := .slice (some ⟨gg, 0, none⟩) (1 + ol2.length) cap) (by rw [List.length_append, opsC_app]; exact hown) y)
        have HBP := Lib.hid (bel_push (i := 1) B4.out hgrow (Nat.le_refl _) (fun k hk => by (have hk : wq.heap.size = k := by simpa [Value.ownBlock] using hk); rw [← hk]; exact Nat.le_trans HBn3.out.size hzq) HXB.out (.slice (some ⟨gg, 0, none⟩) (1 + ol2.length) cap))
        clear hown hat
        refine hK.out _ _ ?_ (fun hHeld => ?_)
        · (try dsimp only)
          exact fun _ => (hgrow.cell_far (⟨wg.heap.size, 1, none⟩) (lt_alloc hl0 _) (fun e => own_block hrow0 O4.out.blk (by decide) e.symm)).trans hHeld
        clear hK K
        replace hHeld := hHeld rfl
        try simp only [Act.put, List.getElem_toArray, List.getElem_cons_zero, List.getElem_cons_succ, List.setIfInBounds_toArray, List.set_cons_zero, List.set_cons_succ]
        refine wpAnyN_take (i := 7) (v := ?_) (listed' := #[true, true, true, true, true, true, true, true, false]) rfl (by kernel_rfl) (by kernel_rfl) (by kernel_rfl) (by rfl) (fun _ _ _ h => h) (Or.inl ⟨by rfl, ?_⟩) (by assumption) ?_
        rotate_left
        · intro w hSw
          (try dsimp only at hSw)
          go_simp
          with_reducible rfl
        try simp only [Act.put, List.getElem_toArray, List.getElem_cons_zero, List.getElem_cons_succ, List.setIfInBounds_toArray, List.set_cons_zero, List.set_cons_succ]
        refine wpAnyN_step (i := 8) (listed' := #[true, true, true, true, true, true, true, true, true]) (by kernel_rfl) rfl (by rfl) (fun K hK => ?_)
        refine step_store27 (by rfl) _ _ (by rfl) (by rfl) (by rfl) y1 yf ?_
        refine hK.out _ _ ?_ (fun hHeld => ?_)
        · exact fun h => absurd h (by decide)
        clear hK K
        try simp only [Act.put, List.getElem_toArray, List.getElem_cons_zero, List.getElem_cons_succ]
        refine wpAnyN_done (by kernel_rfl) ?_ _
        skip
        have hl4 : 1 + ol2.length = 4 := by rw [HE2.out, HE1.out, HE0.out]; rfl
        rw [hl4] at OP HBP ⊢
        have HOn5 : Hid (OL (w5.setCell ⟨wg.heap.size, 1, none⟩ (.slice (some ⟨gg, 0, none⟩) 4 cap)) wg.heap.size wq.heap.size (.int .i64 (30 - (j : Int))) (.slice (some ⟨gg, 0, none⟩) 4 cap) [⟨2, 1 + (j : Int), 0⟩, ⟨5, (j : Int), 0⟩, ⟨2, 5, 0⟩, ⟨0, 97 + (j : Int), 0⟩]) := by have := OP; rw [HE2.out, HE1.out, HE0.out] at this; exact this
        have HBn5 := HBP
        have HNQ := Lib.hid (show wr.heap.size ≤ wq.heap.size from Nat.le_trans HBn3.out.size hzq)
        clear OP HBP y1 yf y hgrow hHeld O4 B4 hg3 hrow0 hl0 k0 HOn3 HBn3 hgw htk2
        generalize hw5 : w5.setCell ⟨wg.heap.size, 1, none⟩ (.slice (some ⟨gg, 0, none⟩) 4 cap) = wv5 at *
        clear hw5
        have hj1 : ((j : Int) == 0) = true := by simp only [beq_iff_eq]; omega
        have k0 := HOn5.out.blk.cell 1
        have hl0 := HOn5.out.blk.lt
        simp only [List.getElem?_toArray, List.getElem?_cons_succ, List.getElem?_cons_zero] at k0
        go_upto_region 17 with fail
        refine wp_region_need (S := fun w' => w'.cell? (⟨wg.heap.size, 1, none⟩) = some (.slice (some ⟨gg, 0, none⟩) 4 cap)) (need := fun i => i != 4) 5 #[false, false, false, false, false] (by rfl) (by rfl) (by kernel_rfl) ?_ (fun hHeld => ?_)
        · (try dsimp only)
          exact k0
        refine wpAnyN_take (i := 0) (v := ?_) (listed' := #[true, false, false, false, false]) rfl (by kernel_rfl) (by kernel_rfl) (by kernel_rfl) (by rfl) (fun _ _ _ h => h) (Or.inl ⟨by rfl, ?_⟩) (by assumption) ?_
        rotate_left
        · intro w hSw
          (try dsimp only at hSw)
          go_simp
          with_reducible rfl
        try simp only [Act.put, List.getElem_toArray, List.getElem_cons_zero, List.setIfInBounds_toArray, List.set_cons_zero, List.set_cons_succ]
        refine wpAnyN_take (i := 1) (v := ?_) (listed' := #[true, true, false, false, false]) rfl (by kernel_rfl) (by kernel_rfl) (by kernel_rfl) (by rfl) (fun _ _ _ h => h) (Or.inl ⟨by rfl, ?_⟩) (by assumption) ?_
        rotate_left
        · intro w hSw
          (try dsimp only at hSw)
          go_simp
          with_reducible rfl
        try simp only [Act.put, List.getElem_toArray, List.getElem_cons_zero, List.getElem_cons_succ, List.setIfInBounds_toArray, List.set_cons_zero, List.set_cons_succ]
        refine wpAnyN_step (i := 2) (listed' := #[true, true, true, false, false]) (by kernel_rfl) rfl (by rfl) (fun K hK => ?_)
        refine step_o (by rfl) _ _ _ (by rfl) 2 30 0 (by rfl) (by rfl) (by rfl) ?_
        intro wz hbz
        have O6 := Lib.hid ((HOn5.out.keep (Below.drew (Below.refl _ _))).keep hbz)
        have B6 := Lib.hid ((HBn5.out.drew).trans (hbz.mono HBn5.out.size))
        obtain ⟨q6, q7, q8, qf, qN, qlt⟩ := O6.out.third_cell
        refine hK.out _ _ ?_ (fun hHeld => ?_)
        · (try dsimp only)
          exact fun _ => (hbz.cell (p := ⟨wg.heap.size, 1, none⟩) hl0).trans hHeld
        clear hK K
        replace hHeld := hHeld rfl
        try simp only [Act.put, List.getElem_toArray, List.getElem_cons_zero, List.getElem_cons_succ, List.setIfInBounds_toArray, List.set_cons_zero, List.set_cons_succ]
        refine wpAnyN_take (i := 3) (v := ?_) (listed' := #[true, true, true, true, false]) rfl (by kernel_rfl) (by kernel_rfl) (by kernel_rfl) (by rfl) (fun _ _ _ h => h) (Or.inl ⟨by rfl, ?_⟩) (by assumption) ?_
        rotate_left
        · intro w hSw
          (try dsimp only at hSw)
          go_simp
          with_reducible rfl
        try simp only [Act.put, List.getElem_toArray, List.getElem_cons_zero, List.getElem_cons_succ, List.setIfInBounds_toArray, List.set_cons_zero, List.set_cons_succ]
        refine wpAnyN_step (i := 4) (listed' := #[true, true, true, true, true]) (by kernel_rfl) rfl (by rfl) (fun K hK => ?_)
        refine step_store32 (g := gg) (i := 6) (by rfl) _ _ (by rfl) (by rfl) (by rfl) q6 q7 q8 qf ?_
        refine hK.out _ _ ?_ (fun hHeld => ?_)
        · exact fun h => absurd h (by decide)
        clear hK K
        try simp only [Act.put, List.getElem_toArray, List.getElem_cons_zero, List.getElem_cons_succ]
        refine wpAnyN_done (by kernel_rfl) ?_ _
        skip
        have HOn6 := Lib.hid (O6.out.third (o := ⟨2, 30, 0⟩))
        have HBn6 := Lib.hid (bel_third (u := .int .i64 2) (v := .int .i64 30) (z := .int .i64 0) B6.out (Nat.le_trans HNQ.out qN))
        generalize hw6 : ((wz.setCell ⟨gg, 6, none⟩ (.int .i64 2)).setCell ⟨gg, 7, none⟩ (.int .i64 30)).setCell ⟨gg, 8, none⟩ (.int .i64 0) = wv6 at *
        clear hw6 q6 q7 q8 qf qN qlt O6 B6 HOn5 HBn5 k0 hl0 hHeld
        have HTr := HT.out.keep HBn6.out
        have T4 := Lib.hid (HTr.keep ((Below.refl wv6.heap.size wv6).alloc (Nat.le_refl _) (.cells #[.int .i64 (30 - (j : Int)), .slice (some ⟨gg, 0, none⟩) 4 cap] 29)))
        have X4 := Lib.hid ((HOn6.out.opsLie (p := 30 - (j : Int)) (A := some ⟨gg, 0, none⟩) (c := cap) (l := [⟨2, 1 + (j : Int), 0⟩, ⟨5, (j : Int), 0⟩, ⟨2, 30, 0⟩, ⟨0, 97 + (j : Int), 0⟩]) (Nat.le_of_ble_eq_true rfl)).below ((Below.refl wv6.heap.size wv6).alloc (Nat.le_refl _) (.cells #[.int .i64 (30 - (j : Int)), .slice (some ⟨gg, 0, none⟩) 4 cap] 29)))
        have x0 := HOn6.out.blk.cell 0
        have x1 := HOn6.out.blk.cell 1
        have xf := HOn6.out.blk.frozen 0
        have t0 := HTr.blk.cell 0
        have tf := HTr.blk.frozen 0
        have hTl := HTr.blk.lt
        simp only [List.getElem?_toArray, List.getElem?_cons_succ, List.getElem?_cons_zero] at x0 x1 t0
        clear HTr HOn6
        go_wp2_with (at_builtin; refine wpList_append_lies _ rfl _ _ _ rfl (w1.heap.size + 1) 29 i0 _ 2 32 Try.underlying23 hi iz0 iz1 iz2 rfl (by decide) V rs.length (tkC rs) rfl T4.out.row ⟨wv6.heap.size, 0, none⟩ 1 1 [.int .i64 (30 - (j : Int)), .slice (some ⟨gg, 0, none⟩) 4 cap] rfl rfl (World.news_of_block (cs := #[.int .i64 (30 - (j : Int)), .slice (some ⟨gg, 0, none⟩) 4 cap]) (t := 29) (fr := (0, 0)) (heap_alloc_new _ _)) (by simp [Value.oneCell']) (by decide) (by unfold maxLen; omega) (by omega) (by simp; omega) (wv6.heap.size + 1) (by simp) ?_)
        intro ga capa w7 hown hgrow hat hlt7
        have y := T4.out.blk.grown hgrow (own_block T4.out.row T4.out.blk (by decide))
        have y0 := y.cell 0
        have y1 := y.frozen 0
        simp only [List.getElem?_toArray, List.getElem?_cons_zero] at y0
        have TP := Lib.hid (T4.out.push (x := (⟨30 - (j : Int), [⟨2, 1 + (j : Int), 0⟩, ⟨5, (j : Int), 0⟩, ⟨2, 30, 0⟩, ⟨0, 97 + (j : Int), 0⟩]⟩, some ⟨gg, 0, none⟩, cap)) X4.out (by rw [hrl]; exact hown) hgrow)
        clear y hown hgrow hat T4 X4 x0 x1 xf t0 tf
        have HCF := Lib.hid (show chainF j = ⟨30 - (j : Int), [⟨2, 1 + (j : Int), 0⟩, ⟨5, (j : Int), 0⟩, ⟨2, 30, 0⟩, ⟨0, 97 + (j : Int), 0⟩]⟩ by unfold chainF; rw [if_pos (by omega)])
        go_wp2_with fail
        go_roundg (N - (j + 1))
        case measure => omega
        case rel => exact ⟨j + 1, _, rs ++ [(⟨30 - (j : Int), [⟨2, 1 + (j : Int), 0⟩, ⟨5, (j : Int), 0⟩, ⟨2, 30, 0⟩, ⟨0, 97 + (j : Int), 0⟩]⟩, some ⟨gg, 0, none⟩, cap)], by omega, by go_num, TP.out, by rw [List.map_append, HS.out, List.range_succ, List.map_append, List.map_singleton, List.map_singleton, HCF.out], Nat.le_refl _⟩
      · as_aux_lemma =>
        have hj0 : (0 : Int) < (j : Int) := by omega
        go_wp2_with (first | (go_at_call 21; refine (o_any _ _ _ _).mono ?_; rintro e wo ⟨rfl, hbo⟩; have hzo := hbo.size; have HBo := Lib.hid hbo; clear hbo) | (go_at_call 20; refine (t_any _ _ _ _ _).mono ?_; rintro e wg ⟨rfl, hbg⟩; have hzg := hbg.size; have HBg := Lib.hid hbg; clear hbg))
        have HOPS := Lib.hid ((Whole.made wo 32 #[.int .i64 5, .int .i64 (j : Int), .int .i64 0]).same (HBg.out.block _ (by simp)))
        have HO := Lib.hid (OL.of_whole (b := wg.heap.size) (pr := .int .i64 (30 - (j : Int))) (l := [(⟨5, (j : Int), 0⟩ : Kn.Op)]) (N := wo.heap.size) (Whole.made wg 29 _) (HOPS.out.alloc _) (Nat.le_refl _) (Nat.le_of_ble_eq_true rfl))
        have HBX := Lib.hid (((HBo.out.alloc HBo.out.size (.cells #[.int .i64 5, .int .i64 (j : Int), .int .i64 0] 32)).trans (HBg.out.mono (by simp only [World.size_alloc]; omega))).alloc (by simp only [World.size_alloc] at hzg; omega) (.cells #[.int .i64 (30 - (j : Int)), .slice (some ⟨wo.heap.size, 0, none⟩) 1 1] 29))
        have HNB := Lib.hid (show wo.heap.size ≤ wg.heap.size by simp only [World.size_alloc] at hzg; omega)
        have HNX := Lib.hid hzo
        have HXB := Lib.hid (Nat.le_trans hzo HNB.out)
        have htb := HO.out.blk.lt
        have k0 := HO.out.blk.cell 1
        have k1 := HO.out.blk.frozen 1
        simp only [List.getElem?_toArray, List.getElem?_cons_succ, List.getElem?_cons_zero] at k0
        generalize hV0 : Value.slice (some ⟨wo.heap.size, 0, none⟩) 1 1 = V0 at *
        generalize hw0 : wg.alloc (.cells #[.int .i64 (30 - (j : Int)), V0] 29) = wv0 at *
        obtain ⟨ol0, hol0⟩ : ∃ l : List Kn.Op, l = [⟨5, (j : Int), 0⟩] := ⟨_, rfl⟩
        rw [← hol0] at HO
        have HL0 := Lib.hid (show ol0.length ≤ 90 by rw [hol0]; exact Nat.le_of_ble_eq_true rfl)
        have HE0 := Lib.hid hol0
        clear hol0 hV0 hw0
        have hl0 : Addr.block (⟨wg.heap.size, 1, none⟩) < wv0.heap.size := htb
        refine wp_region_need (S := fun w' => w'.cell? (⟨wg.heap.size, 1, none⟩) = some (V0)) (need := fun i => i != 8) 9 #[false, false, false, false, false, false, false, false, false] (by rfl) (by rfl) (by kernel_rfl) ?_ (fun hHeld => ?_)
        · (try dsimp only)
          exact k0
        refine wpAnyN_take (i := 0) (v := ?_) (listed' := #[true, false, false, false, false, false, false, false, false]) rfl (by kernel_rfl) (by kernel_rfl) (by kernel_rfl) (by rfl) (fun _ _ _ h => h) (Or.inl ⟨by rfl, ?_⟩) (by assumption) ?_
        rotate_left
        · intro w hSw
          (try dsimp only at hSw)
          go_simp
          with_reducible rfl
        try simp only [Act.put, List.getElem_toArray, List.getElem_cons_zero, List.setIfInBounds_toArray, List.set_cons_zero, List.set_cons_succ]
        refine wpAnyN_take (i := 1) (v := ?_) (listed' := #[true, true, false, false, false, false, false, false, false]) rfl (by kernel_rfl) (by kernel_rfl) (by kernel_rfl) (by rfl) (fun _ _ _ h => h) (Or.inl ⟨by rfl, ?_⟩) (by assumption) ?_
        rotate_left
        · intro w hSw
          (try dsimp only at hSw)
          go_simp
          with_reducible rfl
        try simp only [Act.put, List.getElem_toArray, List.getElem_cons_zero, List.getElem_cons_succ, List.setIfInBounds_toArray, List.set_cons_zero, List.set_cons_succ]
        refine wpAnyN_take (i := 2) (v := ?_) (listed' := #[true, true, true, false, false, false, false, false, false]) rfl (by kernel_rfl) (by kernel_rfl) (by kernel_rfl) (by rfl) (fun _ _ _ h => h) (Or.inl ⟨by rfl, ?_⟩) (by assumption) ?_
        rotate_left
        · intro w hSw
          (try dsimp only at hSw)
          go_simp
          with_reducible rfl
        try simp only [Act.put, List.getElem_toArray, List.getElem_cons_zero, List.getElem_cons_succ, List.setIfInBounds_toArray, List.set_cons_zero, List.set_cons_succ]
        refine wpAnyN_take (i := 3) (v := ?_) (listed' := #[true, true, true, true, false, false, false, false, false]) rfl (by kernel_rfl) (by kernel_rfl) (by kernel_rfl) (by rfl) (fun _ _ _ h => h) (Or.inl ⟨by rfl, ?_⟩) (by assumption) ?_
        rotate_left
        · intro w hSw
          (try dsimp only at hSw)
          go_simp
          with_reducible rfl
        try simp only [Act.put, List.getElem_toArray, List.getElem_cons_zero, List.getElem_cons_succ, List.setIfInBounds_toArray, List.set_cons_zero, List.set_cons_succ]
        refine wpAnyN_step (i := 4) (listed' := #[true, true, true, true, true, false, false, false, false]) (by kernel_rfl) rfl (by rfl) (fun K hK => ?_)
        refine step_o (by rfl) _ _ _ (by rfl) (5) ((j : Int) - 1) (0) (by rfl) (by first | exact Eq.trans (b := Value.int .i64 (IntKind.i64.wrap ((j : Int) - 1))) rfl (congrArg (Value.int .i64) (by rw [IntKind.wrap_i64]; omega)) | rfl) (by rfl) ?_
        intro wo0 hb0
        have hz0' : wv0.heap.size ≤ wo0.heap.size := hb0.size
        have O0' := Lib.hid ((HO.out.keep (Below.drew (Below.refl _ _))).keep hb0)
        have B0' := Lib.hid ((HBX.out.drew).trans (hb0.mono HBX.out.size))
        refine hK.out _ _ ?_ (fun hHeld => ?_)
        · (try dsimp only)
          exact fun _ => (hb0.cell (p := ⟨wg.heap.size, 1, none⟩) hl0).trans hHeld
        clear hK K
        replace hHeld := hHeld rfl
        try simp only [Act.put, List.getElem_toArray, List.getElem_cons_zero, List.getElem_cons_succ, List.setIfInBounds_toArray, List.set_cons_zero, List.set_cons_succ]
        replace hl0 := Nat.lt_of_lt_of_le hl0 hz0'
        refine wpAnyN_step (i := 5) (listed' := #[true, true, true, true, true, true, false, false, false]) (by kernel_rfl) rfl (by rfl) (fun K hK => ?_)
        refine step_ops1 (by rfl) _ (by rfl) (5) ((j : Int) - 1) (0) (by rfl) ?_
        have O4 := Lib.hid (O0'.out.keep ((Below.refl wo0.heap.size wo0).alloc (Nat.le_refl _) (.cells #[.int .i64 (5), .int .i64 ((j : Int) - 1), .int .i64 (0)] 32)))
        have B4 := Lib.hid (B0'.out.alloc B0'.out.size (.cells #[.int .i64 (5), .int .i64 ((j : Int) - 1), .int .i64 (0)] 32))
        clear O0' B0'
        refine hK.out _ _ ?_ (fun hHeld => ?_)
        · (try dsimp only)
          exact fun _ => (World.cell?_alloc_lt _ _ _ hl0).trans hHeld
        clear hK K
        replace hHeld := hHeld rfl
        try simp only [Act.put, List.getElem_toArray, List.getElem_cons_zero, List.getElem_cons_succ, List.setIfInBounds_toArray, List.set_cons_zero, List.set_cons_succ]
        refine wpAnyN_step (i := 6) (listed' := #[true, true, true, true, true, true, true, false, false]) (by kernel_rfl) rfl (by rfl) (fun K hK => ?_)
        refine step_append_lies _ (by rfl) _ _ _ (by rfl) (wo.heap.size) 32 j0 _ 3 24 Try.underlying27 hj jz0 jz1 jz2 rfl (by decide) V0 (ol0).length (opsC (ol0)) (by rfl) O4.out.row ⟨wo0.heap.size, 0, none⟩ 1 1 [.int .i64 (5), .int .i64 ((j : Int) - 1), .int .i64 (0)] (by rfl) (by rfl) (World.news_of_block (cs := #[.int .i64 (5), .int .i64 ((j : Int) - 1), .int .i64 (0)]) (t := 32) (fr := (0, 0)) (heap_alloc_new _ _)) (by simp [Value.oneCell']) (by decide) (by unfold maxLen; have := HL0.out; omega) (by have := HL0.out; omega) (Nat.le_of_lt (Nat.lt_of_le_of_lt HNB.out (lt_alloc hl0 _))) (wo0.heap.size + 1) (by simp) ?_
        intro gg cap w5 hown hgrow hat hlt5
        have hVlt := O4.out.row.lt
        have y := O4.out.blk.grown hgrow (own_block O4.out.row O4.out.blk (by decide))
        have y1 := y.cell 1
        have yf := y.frozen 1
        simp only [List.getElem?_toArray, List.getElem?_cons_succ, List.getElem?_cons_zero] at y1
        have OP := Lib.hid (O4.out.push (m := [⟨5, (j : Int) - 1, 0⟩]) hown hgrow)
        have HBP := Lib.hid (bel_push (i := 1) B4.out hgrow (Nat.le_refl _) (fun k hk => Nat.le_trans (HNX.out) (hVlt k hk).1) (HXB.out) (.slice (some ⟨gg, 0, none⟩) ((ol0).length + 1) cap))
        clear hown
        refine hK.out _ _ ?_ (fun hHeld => ?_)
        · (try dsimp only)
          exact fun _ => (hgrow.cell_far (⟨wg.heap.size, 1, none⟩) (lt_alloc hl0 _) (fun e => own_block O4.out.row O4.out.blk (by decide) e.symm)).trans hHeld
        clear hK K
        replace hHeld := hHeld rfl
        try simp only [Act.put, List.getElem_toArray, List.getElem_cons_zero, List.getElem_cons_succ, List.setIfInBounds_toArray, List.set_cons_zero, List.set_cons_succ]
        refine wpAnyN_take (i := 7) (v := ?_) (listed' := #[true, true, true, true, true, true, true, true, false]) rfl (by kernel_rfl) (by kernel_rfl) (by kernel_rfl) (by rfl) (fun _ _ _ h => h) (Or.inl ⟨by rfl, ?_⟩) (by assumption) ?_
        rotate_left
        · intro w hSw
          (try dsimp only at hSw)
          go_simp
          with_reducible rfl
        try simp only [Act.put, List.getElem_toArray, List.getElem_cons_zero, List.getElem_cons_succ, List.setIfInBounds_toArray, List.set_cons_zero, List.set_cons_succ]
        refine wpAnyN_step (i := 8) (listed' := #[true, true, true, true, true, true, true, true, true]) (by kernel_rfl) rfl (by rfl) (fun K hK => ?_)
        refine step_store27 (by rfl) _ _ (by rfl) (by rfl) (by rfl) y1 yf ?_
        refine hK.out _ _ ?_ (fun hHeld => ?_)
        · exact fun h => absurd h (by decide)
        clear hK K
        try simp only [Act.put, List.getElem_toArray, List.getElem_cons_zero, List.getElem_cons_succ]
        refine wpAnyN_done (by kernel_rfl) ?_ _
        skip
        have HOn1 := OP
        have HBn1 := HBP
        clear OP HBP y yf y1 hVlt hgrow hat hHeld hl0 O4 B4
        generalize hV1 : Value.slice (some ⟨gg, 0, none⟩) ((ol0).length + 1) cap = V1 at *
        generalize hw1 : w5.setCell ⟨wg.heap.size, 1, none⟩ V1 = wv1 at *
        clear hV1 hw1
        obtain ⟨ol1, hol1⟩ : ∃ l : List Kn.Op, l = ol0 ++ [⟨5, (j : Int) - 1, 0⟩] := ⟨_, rfl⟩
        rw [← hol1] at HOn1
        have HL1 := Lib.hid (show ol1.length ≤ 91 by have := HL0.out; rw [hol1, List.length_append, List.length_singleton]; omega)
        have HE1 := Lib.hid hol1
        clear hol1
        replace htb := HOn1.out.blk.lt
        replace k0 := HOn1.out.blk.cell 1
        replace k1 := HOn1.out.blk.frozen 1
        simp only [List.getElem?_toArray, List.getElem?_cons_succ, List.getElem?_cons_zero] at k0
        go_wp2_with fail
        have hl0 : Addr.block (⟨wg.heap.size, 1, none⟩) < wv1.heap.size := htb
        refine wp_region_need (S := fun w' => w'.cell? (⟨wg.heap.size, 1, none⟩) = some (V1)) (need := fun i => i != 8) 9 #[false, false, false, false, false, false, false, false, false] (by rfl) (by rfl) (by kernel_rfl) ?_ (fun hHeld => ?_)
        · (try dsimp only)
          exact k0
        refine wpAnyN_take (i := 0) (v := ?_) (listed' := #[true, false, false, false, false, false, false, false, false]) rfl (by kernel_rfl) (by kernel_rfl) (by kernel_rfl) (by rfl) (fun _ _ _ h => h) (Or.inl ⟨by rfl, ?_⟩) (by assumption) ?_
        rotate_left
        · intro w hSw
          (try dsimp only at hSw)
          go_simp
          with_reducible rfl
        try simp only [Act.put, List.getElem_toArray, List.getElem_cons_zero, List.setIfInBounds_toArray, List.set_cons_zero, List.set_cons_succ]
        refine wpAnyN_take (i := 1) (v := ?_) (listed' := #[true, true, false, false, false, false, false, false, false]) rfl (by kernel_rfl) (by kernel_rfl) (by kernel_rfl) (by rfl) (fun _ _ _ h => h) (Or.inl ⟨by rfl, ?_⟩) (by assumption) ?_
        rotate_left
        · intro w hSw
          (try dsimp only at hSw)
          go_simp
          with_reducible rfl
        try simp only [Act.put, List.getElem_toArray, List.getElem_cons_zero, List.getElem_cons_succ, List.setIfInBounds_toArray, List.set_cons_zero, List.set_cons_succ]
        refine wpAnyN_take (i := 2) (v := ?_) (listed' := #[true, true, true, false, false, false, false, false, false]) rfl (by kernel_rfl) (by kernel_rfl) (by kernel_rfl) (by rfl) (fun _ _ _ h => h) (Or.inl ⟨by rfl, ?_⟩) (by assumption) ?_
        rotate_left
        · intro w hSw
          (try dsimp only at hSw)
          go_simp
          with_reducible rfl
        try simp only [Act.put, List.getElem_toArray, List.getElem_cons_zero, List.getElem_cons_succ, List.setIfInBounds_toArray, List.set_cons_zero, List.set_cons_succ]
        refine wpAnyN_take (i := 3) (v := ?_) (listed' := #[true, true, true, true, false, false, false, false, false]) rfl (by kernel_rfl) (by kernel_rfl) (by kernel_rfl) (by rfl) (fun _ _ _ h => h) (Or.inl ⟨by rfl, ?_⟩) (by assumption) ?_
        rotate_left
        · intro w hSw
          (try dsimp only at hSw)
          go_simp
          with_reducible rfl
        try simp only [Act.put, List.getElem_toArray, List.getElem_cons_zero, List.getElem_cons_succ, List.setIfInBounds_toArray, List.set_cons_zero, List.set_cons_succ]
        refine wpAnyN_step (i := 4) (listed' := #[true, true, true, true, true, false, false, false, false]) (by kernel_rfl) rfl (by rfl) (fun K hK => ?_)
        refine step_o (by rfl) _ _ _ (by rfl) (0) (97 + (j : Int)) (0) (by rfl) (by first | exact Eq.trans (b := Value.int .i64 (IntKind.i64.wrap (97 + (j : Int)))) rfl (congrArg (Value.int .i64) (by rw [IntKind.wrap_i64]; omega)) | rfl) (by rfl) ?_
        intro wo0 hb0
        have hz0' : wv1.heap.size ≤ wo0.heap.size := hb0.size
        have O0' := Lib.hid ((HOn1.out.keep (Below.drew (Below.refl _ _))).keep hb0)
        have B0' := Lib.hid ((HBn1.out.drew).trans (hb0.mono HBn1.out.size))
        refine hK.out _ _ ?_ (fun hHeld => ?_)
        · (try dsimp only)
          exact fun _ => (hb0.cell (p := ⟨wg.heap.size, 1, none⟩) hl0).trans hHeld
        clear hK K
        replace hHeld := hHeld rfl
        try simp only [Act.put, List.getElem_toArray, List.getElem_cons_zero, List.getElem_cons_succ, List.setIfInBounds_toArray, List.set_cons_zero, List.set_cons_succ]
        replace hl0 := Nat.lt_of_lt_of_le hl0 hz0'
        refine wpAnyN_step (i := 5) (listed' := #[true, true, true, true, true, true, false, false, false]) (by kernel_rfl) rfl (by rfl) (fun K hK => ?_)
        refine step_ops1 (by rfl) _ (by rfl) (0) (97 + (j : Int)) (0) (by rfl) ?_
        have O4 := Lib.hid (O0'.out.keep ((Below.refl wo0.heap.size wo0).alloc (Nat.le_refl _) (.cells #[.int .i64 (0), .int .i64 (97 + (j : Int)), .int .i64 (0)] 32)))
        have B4 := Lib.hid (B0'.out.alloc B0'.out.size (.cells #[.int .i64 (0), .int .i64 (97 + (j : Int)), .int .i64 (0)] 32))
        clear O0' B0'
        refine hK.out _ _ ?_ (fun hHeld => ?_)
        · (try dsimp only)
          exact fun _ => (World.cell?_alloc_lt _ _ _ hl0).trans hHeld
        clear hK K
        replace hHeld := hHeld rfl
        try simp only [Act.put, List.getElem_toArray, List.getElem_cons_zero, List.getElem_cons_succ, List.setIfInBounds_toArray, List.set_cons_zero, List.set_cons_succ]
        refine wpAnyN_step (i := 6) (listed' := #[true, true, true, true, true, true, true, false, false]) (by kernel_rfl) rfl (by rfl) (fun K hK => ?_)
        refine step_append_lies _ (by rfl) _ _ _ (by rfl) (wo.heap.size) 32 j0 _ 3 24 Try.underlying27 hj jz0 jz1 jz2 rfl (by decide) V1 (ol1).length (opsC (ol1)) (by rfl) O4.out.row ⟨wo0.heap.size, 0, none⟩ 1 1 [.int .i64 (0), .int .i64 (97 + (j : Int)), .int .i64 (0)] (by rfl) (by rfl) (World.news_of_block (cs := #[.int .i64 (0), .int .i64 (97 + (j : Int)), .int .i64 (0)]) (t := 32) (fr := (0, 0)) (heap_alloc_new _ _)) (by simp [Value.oneCell']) (by decide) (by unfold maxLen; have := HL1.out; omega) (by have := HL1.out; omega) (Nat.le_of_lt (Nat.lt_of_le_of_lt HNB.out (lt_alloc hl0 _))) (wo0.heap.size + 1) (by simp) ?_
        intro gg cap w5 hown hgrow hat hlt5
        have hVlt := O4.out.row.lt
        have y := O4.out.blk.grown hgrow (own_block O4.out.row O4.out.blk (by decide))
        have y1 := y.cell 1
        have yf := y.frozen 1
        simp only [List.getElem?_toArray, List.getElem?_cons_succ, List.getElem?_cons_zero] at y1
        have OP := Lib.hid (O4.out.push (m := [⟨0, 97 + (j : Int), 0⟩]) hown hgrow)
        have HBP := Lib.hid (bel_push (i := 1) B4.out hgrow (Nat.le_refl _) (fun k hk => Nat.le_trans (HNX.out) (hVlt k hk).1) (HXB.out) (.slice (some ⟨gg, 0, none⟩) ((ol1).length + 1) cap))
        clear hown
        refine hK.out _ _ ?_ (fun hHeld => ?_)
        · (try dsimp only)
          exact fun _ => (hgrow.cell_far (⟨wg.heap.size, 1, none⟩) (lt_alloc hl0 _) (fun e => own_block O4.out.row O4.out.blk (by decide) e.symm)).trans hHeld
        clear hK K
        replace hHeld := hHeld rfl
        try simp only [Act.put, List.getElem_toArray, List.getElem_cons_zero, List.getElem_cons_succ, List.setIfInBounds_toArray, List.set_cons_zero, List.set_cons_succ]
        refine wpAnyN_take (i := 7) (v := ?_) (listed' := #[true, true, true, true, true, true, true, true, false]) rfl (by kernel_rfl) (by kernel_rfl) (by kernel_rfl) (by rfl) (fun _ _ _ h => h) (Or.inl ⟨by rfl, ?_⟩) (by assumption) ?_
        rotate_left
        · intro w hSw
          (try dsimp only at hSw)
          go_simp
          with_reducible rfl
        try simp only [Act.put, List.getElem_toArray, List.getElem_cons_zero, List.getElem_cons_succ, List.setIfInBounds_toArray, List.set_cons_zero, List.set_cons_succ]
        refine wpAnyN_step (i := 8) (listed' := #[true, true, true, true, true, true, true, true, true]) (by kernel_rfl) rfl (by rfl) (fun K hK => ?_)
        refine step_store27 (by rfl) _ _ (by rfl) (by rfl) (by rfl) y1 yf ?_
        refine hK.out _ _ ?_ (fun hHeld => ?_)
        · exact fun h => absurd h (by decide)
        clear hK K
        try simp only [Act.put, List.getElem_toArray, List.getElem_cons_zero, List.getElem_cons_succ]
        refine wpAnyN_done (by kernel_rfl) ?_ _
        skip
        have HOn2 := OP
        have HBn2 := HBP
        clear OP HBP y yf y1 hVlt hgrow hat hHeld hl0 O4 B4
        generalize hV2 : Value.slice (some ⟨gg, 0, none⟩) ((ol1).length + 1) cap = V2 at *
        generalize hw2 : w5.setCell ⟨wg.heap.size, 1, none⟩ V2 = wv2 at *
        clear hV2 hw2
        obtain ⟨ol2, hol2⟩ : ∃ l : List Kn.Op, l = ol1 ++ [⟨0, 97 + (j : Int), 0⟩] := ⟨_, rfl⟩
        rw [← hol2] at HOn2
        have HL2 := Lib.hid (show ol2.length ≤ 92 by have := HL1.out; rw [hol2, List.length_append, List.length_singleton]; omega)
        have HE2 := Lib.hid hol2
        clear hol2
        replace htb := HOn2.out.blk.lt
        replace k0 := HOn2.out.blk.cell 1
        replace k1 := HOn2.out.blk.frozen 1
        simp only [List.getElem?_toArray, List.getElem?_cons_succ, List.getElem?_cons_zero] at k0
        have x0 := HOn2.out.blk.cell 0
        have xf := HOn2.out.blk.frozen 0
        simp only [List.getElem?_toArray, List.getElem?_cons_zero] at x0
        go_upto_region 15 with fail
        have HOn3 := Lib.hid (HOn2.out.prio (.int .i64 (30 - (j : Int))))
        have HBn3 := Lib.hid (HBn2.out.setCell (p := ⟨wg.heap.size, 0, none⟩) HXB.out (.int .i64 (30 - (j : Int))))
        generalize hw3 : wv2.setCell ⟨wg.heap.size, 0, none⟩ (.int .i64 (30 - (j : Int))) = wv3 at *
        clear hw3 x0 xf k0 k1 htb HOn2 HBn2 HO HBX HOn1 HBn1
        obtain ⟨g2, cap2, cur2, hVe, hNg, hgw, hle2, hmx2, hsz2, htk2⟩ := HOn3.out.open_ (by rw [HE2.out]; simp)
        subst hVe
        have hL2p : 0 < ol2.length := by rw [HE2.out]; simp
        have hl0 := HOn3.out.blk.lt
        have k0 := HOn3.out.blk.cell 1
        simp only [List.getElem?_toArray, List.getElem?_cons_succ, List.getElem?_cons_zero] at k0
        refine wp_region_need (S := fun w' => w'.cell? (⟨wg.heap.size, 1, none⟩) = some (.slice (some ⟨g2, 0, none⟩) ol2.length cap2)) (need := fun i => i != 8) 9 #[false, false, false, false, false, false, false, false, false] (by rfl) (by rfl) (by kernel_rfl) ?_ (fun hHeld => ?_)
        · (try dsimp only)
          exact k0
        refine wpAnyN_take (i := 0) (v := ?_) (listed' := #[true, false, false, false, false, false, false, false, false]) rfl (by kernel_rfl) (by kernel_rfl) (by kernel_rfl) (by rfl) (fun _ _ _ h => h) (Or.inl ⟨by rfl, ?_⟩) (by assumption) ?_
        rotate_left
        · intro w hSw
          (try dsimp only at hSw)
          go_simp
          with_reducible rfl
        try simp only [Act.put, List.getElem_toArray, List.getElem_cons_zero, List.setIfInBounds_toArray, List.set_cons_zero, List.set_cons_succ]
        refine wpAnyN_take (i := 1) (v := ?_) (listed' := #[true, true, false, false, false, false, false, false, false]) rfl (by kernel_rfl) (by kernel_rfl) (by kernel_rfl) (by rfl) (fun _ _ _ h => h) (Or.inl ⟨by rfl, ?_⟩) (by assumption) ?_
        rotate_left
        · intro w hSw
          (try dsimp only at hSw)
          go_simp
          with_reducible rfl
        try simp only [Act.put, List.getElem_toArray, List.getElem_cons_zero, List.getElem_cons_succ, List.setIfInBounds_toArray, List.set_cons_zero, List.set_cons_succ]
        refine wpAnyN_take (i := 4) (v := ?_) (listed' := #[true, true, false, false, true, false, false, false, false]) rfl (by kernel_rfl) (by kernel_rfl) (by kernel_rfl) (by rfl) (fun _ _ _ h => h) (Or.inl ⟨by rfl, ?_⟩) (by assumption) ?_
        rotate_left
        · intro w hSw
          (try dsimp only at hSw)
          go_simp
          with_reducible rfl
        try simp only [Act.put, List.getElem_toArray, List.getElem_cons_zero, List.getElem_cons_succ, List.setIfInBounds_toArray, List.set_cons_zero, List.set_cons_succ]
        refine wpAnyN_take (i := 5) (v := ?_) (listed' := #[true, true, false, false, true, true, false, false, false]) rfl (by kernel_rfl) (by kernel_rfl) (by kernel_rfl) (by rfl) (fun _ _ _ h => h) (Or.inl ⟨by rfl, ?_⟩) (by assumption) ?_
        rotate_left
        · intro w hSw
          (try dsimp only at hSw)
          go_simp
          with_reducible rfl
        try simp only [Act.put, List.getElem_toArray, List.getElem_cons_zero, List.getElem_cons_succ, List.setIfInBounds_toArray, List.set_cons_zero, List.set_cons_succ]
        refine wpAnyN_step (i := 2) (listed' := #[true, true, true, false, true, true, false, false, false]) (by kernel_rfl) rfl (by rfl) (fun K hK => ?_)
        refine step_o (by rfl) _ _ _ (by rfl) 2 (1 + (j : Int)) 0 (by rfl) (by first | exact Eq.trans (b := Value.int .i64 (IntKind.i64.wrap (1 + (j : Int)))) rfl (congrArg (Value.int .i64) (by rw [IntKind.wrap_i64]; omega)) | rfl) (by rfl) ?_
        intro wq hbq
        have O3' := Lib.hid ((HOn3.out.keep (Below.drew (Below.refl _ _))).keep hbq)
        have B3' := Lib.hid ((HBn3.out.drew).trans (hbq.mono HBn3.out.size))
        have hzq : wv3.heap.size ≤ wq.heap.size := hbq.size
        have hg2 := Lib.hid (hgw.same (hbq.block _ hgw.lt))
        refine hK.out _ _ ?_ (fun hHeld => ?_)
        · (try dsimp only)
          exact fun _ => (hbq.cell (p := ⟨wg.heap.size, 1, none⟩) hl0).trans hHeld
        clear hK K
        replace hHeld := hHeld rfl
        try simp only [Act.put, List.getElem_toArray, List.getElem_cons_zero, List.getElem_cons_succ, List.setIfInBounds_toArray, List.set_cons_zero, List.set_cons_succ]
        replace hl0 := Nat.lt_of_lt_of_le hl0 hzq
        refine wpAnyN_step (i := 3) (listed' := #[true, true, true, true, true, true, false, false, false]) (by kernel_rfl) rfl (by rfl) (fun K hK => ?_)
        refine step_ops1 (by rfl) _ (by rfl) 2 (1 + (j : Int)) 0 (by rfl) ?_
        have O4 := Lib.hid (O3'.out.keep ((Below.refl wq.heap.size wq).alloc (Nat.le_refl _) (.cells #[.int .i64 2, .int .i64 (1 + (j : Int)), .int .i64 0] 32)))
        have B4 := Lib.hid (B3'.out.alloc B3'.out.size (.cells #[.int .i64 2, .int .i64 (1 + (j : Int)), .int .i64 0] 32))
        have hg3 := Lib.hid (hg2.out.alloc (.cells #[.int .i64 2, .int .i64 (1 + (j : Int)), .int .i64 0] 32))
        have hrow0 : (wq.alloc (.cells #[.int .i64 2, .int .i64 (1 + (j : Int)), .int .i64 0] 32)).ownsRow wq.heap.size 32 3 (.slice (some ⟨wq.heap.size, 0, none⟩) 1 1) 1 (opsC [⟨2, 1 + (j : Int), 0⟩]) := ⟨rfl, .inr ⟨wq.heap.size, 1, _, rfl, Nat.le_refl _, Whole.made wq 32 _, Nat.le_refl _, Nat.le_of_ble_eq_true rfl, rfl, rfl⟩⟩
        clear O3' B3' hg2
        refine hK.out _ _ ?_ (fun hHeld => ?_)
        · (try dsimp only)
          exact fun _ => (World.cell?_alloc_lt _ _ _ hl0).trans hHeld
        clear hK K
        replace hHeld := hHeld rfl
        try simp only [Act.put, List.getElem_toArray, List.getElem_cons_zero, List.getElem_cons_succ, List.setIfInBounds_toArray, List.set_cons_zero, List.set_cons_succ]
        refine wpAnyN_step (i := 6) (listed' := #[true, true, true, true, true, true, true, false, false]) (by kernel_rfl) rfl (by rfl) (fun K hK => ?_)
        refine step_append_lies _ (by rfl) _ _ _ (by rfl) (wq.heap.size) 32 j0 _ 3 24 Try.underlying27 hj jz0 jz1 jz2 rfl (by decide) (.slice (some ⟨wq.heap.size, 0, none⟩) 1 1) 1 (opsC [⟨2, 1 + (j : Int), 0⟩]) (by rfl) hrow0 ⟨g2, 0, none⟩ ol2.length cap2 (opsC ol2) (by rfl) (opsC_len3 _) (ops_cells hg3.out htk2) (opsC_one _) hL2p (by unfold maxLen; have := HL2.out; omega) (by have := HL2.out; omega) (by simp) (wq.heap.size + 1) (by simp) ?_
        intro gg cap w5 hown hgrow hat hlt5
        have y := O4.out.blk.grown hgrow (own_block hrow0 O4.out.blk (by decide))
        have y1 := y.cell 1
        have yf := y.frozen 1
        simp only [List.getElem?_toArray, List.getElem?_cons_succ, List.getElem?_cons_zero] at y1
        have OP := Lib.hid (OL.swap (l' := [⟨2, 1 + (j : Int), 0⟩] ++ ol2) (V' := .slice (some ⟨gg, 0, none⟩) (1 + ol2.length) cap) (by rw [List.length_append, opsC_app]; exact hown) y)
        have HBP := Lib.hid (bel_push (i := 1) B4.out hgrow (Nat.le_refl _) (fun k hk => by (have hk : wq.heap.size = k := by simpa [Value.ownBlock] using hk); rw [← hk]; exact Nat.le_trans HBn3.out.size hzq) HXB.out (.slice (some ⟨gg, 0, none⟩) (1 + ol2.length) cap))
        clear hown hat
        refine hK.out _ _ ?_ (fun hHeld => ?_)
        · (try dsimp only)
          exact fun _ => (hgrow.cell_far (⟨wg.heap.size, 1, none⟩) (lt_alloc hl0 _) (fun e => own_block hrow0 O4.out.blk (by decide) e.symm)).trans hHeld
        clear hK K
        replace hHeld := hHeld rfl
        try simp only [Act.put, List.getElem_toArray, List.getElem_cons_zero, List.getElem_cons_succ, List.setIfInBounds_toArray, List.set_cons_zero, List.set_cons_succ]
        refine wpAnyN_take (i := 7) (v := ?_) (listed' := #[true, true, true, true, true, true, true, true, false]) rfl (by kernel_rfl) (by kernel_rfl) (by kernel_rfl) (by rfl) (fun _ _ _ h => h) (Or.inl ⟨by rfl, ?_⟩) (by assumption) ?_
        rotate_left
        · intro w hSw
          (try dsimp only at hSw)
          go_simp
          with_reducible rfl
        try simp only [Act.put, List.getElem_toArray, List.getElem_cons_zero, List.getElem_cons_succ, List.setIfInBounds_toArray, List.set_cons_zero, List.set_cons_succ]
        refine wpAnyN_step (i := 8) (listed' := #[true, true, true, true, true, true, true, true, true]) (by kernel_rfl) rfl (by rfl) (fun K hK => ?_)
        refine step_store27 (by rfl) _ _ (by rfl) (by rfl) (by rfl) y1 yf ?_
        refine hK.out _ _ ?_ (fun hHeld => ?_)
        · exact fun h => absurd h (by decide)
        clear hK K
        try simp only [Act.put, List.getElem_toArray, List.getElem_cons_zero, List.getElem_cons_succ]
        refine wpAnyN_done (by kernel_rfl) ?_ _
        skip
        have hl4 : 1 + ol2.length = 4 := by rw [HE2.out, HE1.out, HE0.out]; rfl
        rw [hl4] at OP HBP ⊢
        have HOn5 : Hid (OL (w5.setCell ⟨wg.heap.size, 1, none⟩ (.slice (some ⟨gg, 0, none⟩) 4 cap)) wg.heap.size wq.heap.size (.int .i64 (30 - (j : Int))) (.slice (some ⟨gg, 0, none⟩) 4 cap) [⟨2, 1 + (j : Int), 0⟩, ⟨5, (j : Int), 0⟩, ⟨5, (j : Int) - 1, 0⟩, ⟨0, 97 + (j : Int), 0⟩]) := by have := OP; rw [HE2.out, HE1.out, HE0.out] at this; exact this
        have HBn5 := HBP
        have HNQ := Lib.hid (show wr.heap.size ≤ wq.heap.size from Nat.le_trans HBn3.out.size hzq)
        clear OP HBP y1 yf y hgrow hHeld O4 B4 hg3 hrow0 hl0 k0 HOn3 HBn3 hgw htk2
        generalize hw5 : w5.setCell ⟨wg.heap.size, 1, none⟩ (.slice (some ⟨gg, 0, none⟩) 4 cap) = wv5 at *
        clear hw5
        have HOn6 := HOn5
        have HBn6 := HBn5
        clear HOn5 HBn5
        generalize hw6 : wv5 = wv6 at *
        clear hw6
        have hj1 : ((j : Int) == 0) = false := by simpa using (by omega : ¬ (j : Int) = 0)
        have HTr := HT.out.keep HBn6.out
        have T4 := Lib.hid (HTr.keep ((Below.refl wv6.heap.size wv6).alloc (Nat.le_refl _) (.cells #[.int .i64 (30 - (j : Int)), .slice (some ⟨gg, 0, none⟩) 4 cap] 29)))
        have X4 := Lib.hid ((HOn6.out.opsLie (p := 30 - (j : Int)) (A := some ⟨gg, 0, none⟩) (c := cap) (l := [⟨2, 1 + (j : Int), 0⟩, ⟨5, (j : Int), 0⟩, ⟨5, (j : Int) - 1, 0⟩, ⟨0, 97 + (j : Int), 0⟩]) (Nat.le_of_ble_eq_true rfl)).below ((Below.refl wv6.heap.size wv6).alloc (Nat.le_refl _) (.cells #[.int .i64 (30 - (j : Int)), .slice (some ⟨gg, 0, none⟩) 4 cap] 29)))
        have x0 := HOn6.out.blk.cell 0
        have x1 := HOn6.out.blk.cell 1
        have xf := HOn6.out.blk.frozen 0
        have t0 := HTr.blk.cell 0
        have tf := HTr.blk.frozen 0
        have hTl := HTr.blk.lt
        simp only [List.getElem?_toArray, List.getElem?_cons_succ, List.getElem?_cons_zero] at x0 x1 t0
        clear HTr HOn6
        go_wp2_with (at_builtin; refine wpList_append_lies _ rfl _ _ _ rfl (w1.heap.size + 1) 29 i0 _ 2 32 Try.underlying23 hi iz0 iz1 iz2 rfl (by decide) V rs.length (tkC rs) rfl T4.out.row ⟨wv6.heap.size, 0, none⟩ 1 1 [.int .i64 (30 - (j : Int)), .slice (some ⟨gg, 0, none⟩) 4 cap] rfl rfl (World.news_of_block (cs := #[.int .i64 (30 - (j : Int)), .slice (some ⟨gg, 0, none⟩) 4 cap]) (t := 29) (fr := (0, 0)) (heap_alloc_new _ _)) (by simp [Value.oneCell']) (by decide) (by unfold maxLen; omega) (by omega) (by simp; omega) (wv6.heap.size + 1) (by simp) ?_)
        intro ga capa w7 hown hgrow hat hlt7
        have y := T4.out.blk.grown hgrow (own_block T4.out.row T4.out.blk (by decide))
        have y0 := y.cell 0
        have y1 := y.frozen 0
        simp only [List.getElem?_toArray, List.getElem?_cons_zero] at y0
        have TP := Lib.hid (T4.out.push (x := (⟨30 - (j : Int), [⟨2, 1 + (j : Int), 0⟩, ⟨5, (j : Int), 0⟩, ⟨5, (j : Int) - 1, 0⟩, ⟨0, 97 + (j : Int), 0⟩]⟩, some ⟨gg, 0, none⟩, cap)) X4.out (by rw [hrl]; exact hown) hgrow)
        clear y hown hgrow hat T4 X4 x0 x1 xf t0 tf
        have HCF := Lib.hid (show chainF j = ⟨30 - (j : Int), [⟨2, 1 + (j : Int), 0⟩, ⟨5, (j : Int), 0⟩, ⟨5, (j : Int) - 1, 0⟩, ⟨0, 97 + (j : Int), 0⟩]⟩ by unfold chainF; rw [if_neg (by omega)])
        go_wp2_with fail
        go_roundg (N - (j + 1))
        case measure => omega
        case rel => exact ⟨j + 1, _, rs ++ [(⟨30 - (j : Int), [⟨2, 1 + (j : Int), 0⟩, ⟨5, (j : Int), 0⟩, ⟨5, (j : Int) - 1, 0⟩, ⟨0, 97 + (j : Int), 0⟩]⟩, some ⟨gg, 0, none⟩, cap)], by omega, by go_num, TP.out, by rw [List.map_append, HS.out, List.range_succ, List.map_append, List.map_singleton, List.map_singleton, HCF.out], Nat.le_refl _⟩
    · have hlt' : ¬ (j : Int) < N := by omega
      have hjn : N = j := by omega
      subst hjn
      have hrl : rs.length = N := by have := congrArg List.length hrs; simpa using this
      have hzr := hT.bel.size
      have k0 := hT.blk.cell 0
      have k1 := hT.blk.frozen 0
      simp only [List.getElem?_toArray, List.getElem?_cons_zero] at k0
      have hl0 := hT.blk.lt
      have HT := Lib.hid hT
      have HS := Lib.hid hrs
      clear hT hrs hnil
      go_wp2_with fail
      refine wp_region_need (S := fun w' => w'.cell? (⟨w1.heap.size, 0, none⟩) = some V) (need := fun i => i != 16) 17 #[false, false, false, false, false, false, false, false, false, false, false, false, false, false, false, false, false] (by rfl) (by rfl) (by kernel_rfl) ?_ (fun hHeld => ?_)
      · (try dsimp only)
        exact k0
      refine wpAnyN_take (i := 0) (v := ?_) (listed' := #[true, false, false, false, false, false, false, false, false, false, false, false, false, false, false, false, false]) rfl (by kernel_rfl) (by kernel_rfl) (by kernel_rfl) (by rfl) (fun _ _ _ h => h) (Or.inl ⟨by rfl, ?_⟩) (by assumption) ?_
      rotate_left
      · intro w hSw
        (try dsimp only at hSw)
        go_simp
        with_reducible rfl
      try simp only [Act.put, List.getElem_toArray, List.getElem_cons_zero, List.setIfInBounds_toArray, List.set_cons_zero, List.set_cons_succ]
      refine wpAnyN_take (i := 1) (v := ?_) (listed' := #[true, true, false, false, false, false, false, false, false, false, false, false, false, false, false, false, false]) rfl (by kernel_rfl) (by kernel_rfl) (by kernel_rfl) (by rfl) (fun _ _ _ h => h) (Or.inl ⟨by rfl, ?_⟩) (by assumption) ?_
      rotate_left
      · intro w hSw
        (try dsimp only at hSw)
        go_simp
        with_reducible rfl
      try simp only [Act.put, List.getElem_toArray, List.getElem_cons_zero, List.getElem_cons_succ, List.setIfInBounds_toArray, List.set_cons_zero, List.set_cons_succ]
      refine wpAnyN_take (i := 3) (v := ?_) (listed' := #[true, true, false, true, false, false, false, false, false, false, false, false, false, false, false, false, false]) rfl (by kernel_rfl) (by kernel_rfl) (by kernel_rfl) (by rfl) (fun _ _ _ h => h) (Or.inl ⟨by rfl, ?_⟩) (by assumption) ?_
      rotate_left
      · intro w hSw
        (try dsimp only at hSw)
        go_simp
        with_reducible rfl
      try simp only [Act.put, List.getElem_toArray, List.getElem_cons_zero, List.getElem_cons_succ, List.setIfInBounds_toArray, List.set_cons_zero, List.set_cons_succ]
      refine wpAnyN_take (i := 4) (v := ?_) (listed' := #[true, true, false, true, true, false, false, false, false, false, false, false, false, false, false, false, false]) rfl (by kernel_rfl) (by kernel_rfl) (by kernel_rfl) (by rfl) (fun _ _ _ h => h) (Or.inl ⟨by rfl, ?_⟩) (by assumption) ?_
      rotate_left
      · intro w hSw
        (try dsimp only at hSw)
        go_simp
        with_reducible rfl
      try simp only [Act.put, List.getElem_toArray, List.getElem_cons_zero, List.getElem_cons_succ, List.setIfInBounds_toArray, List.set_cons_zero, List.set_cons_succ]
      refine wpAnyN_step (i := 2) (listed' := #[true, true, true, true, true, false, false, false, false, false, false, false, false, false, false, false, false]) (by kernel_rfl) rfl (by rfl) (fun K hK => ?_)
      refine step_o (by rfl) _ _ _ (by rfl) (2) (15) (0) (by rfl) (by rfl) (by rfl) ?_
      intro wa h_wa
      have z_wa : wr.heap.size ≤ wa.heap.size := h_wa.size
      have T_wa := Lib.hid ((HT.out.keep (Below.drew (Below.refl _ _))).keep h_wa)
      refine hK.out _ _ ?_ (fun hHeld => ?_)
      · (try dsimp only)
        exact fun _ => (h_wa.cell (p := ⟨w1.heap.size, 0, none⟩) hl0).trans hHeld
      clear hK K
      replace hHeld := hHeld rfl
      try simp only [Act.put, List.getElem_toArray, List.getElem_cons_zero, List.getElem_cons_succ, List.setIfInBounds_toArray, List.set_cons_zero, List.set_cons_succ]
      replace hl0 := Nat.lt_of_lt_of_le hl0 z_wa
      refine wpAnyN_step (i := 5) (listed' := #[true, true, true, true, true, true, false, false, false, false, false, false, false, false, false, false, false]) (by kernel_rfl) rfl (by rfl) (fun K hK => ?_)
      refine step_o (by rfl) _ _ _ (by rfl) (5) ((N : Int) - 1) (0) (by rfl) (by first | exact Eq.trans (b := Value.int .i64 (IntKind.i64.wrap ((N : Int) - 1))) rfl (congrArg (Value.int .i64) (by rw [IntKind.wrap_i64]; omega)) | rfl) (by rfl) ?_
      intro wb h_wb
      have z_wb : wa.heap.size ≤ wb.heap.size := h_wb.size
      have T_wb := Lib.hid ((T_wa.out).keep h_wb)
      refine hK.out _ _ ?_ (fun hHeld => ?_)
      · (try dsimp only)
        exact fun _ => (h_wb.cell (p := ⟨w1.heap.size, 0, none⟩) hl0).trans hHeld
      clear hK K
      replace hHeld := hHeld rfl
      try simp only [Act.put, List.getElem_toArray, List.getElem_cons_zero, List.getElem_cons_succ, List.setIfInBounds_toArray, List.set_cons_zero, List.set_cons_succ]
      replace hl0 := Nat.lt_of_lt_of_le hl0 z_wb
      refine wpAnyN_step (i := 6) (listed' := #[true, true, true, true, true, true, true, false, false, false, false, false, false, false, false, false, false]) (by kernel_rfl) rfl (by rfl) (fun K hK => ?_)
      refine step_o (by rfl) _ _ _ (by rfl) (0) (90) (0) (by rfl) (by rfl) (by rfl) ?_
      intro wc h_wc
      have z_wc : wb.heap.size ≤ wc.heap.size := h_wc.size
      have T_wc := Lib.hid ((T_wb.out).keep h_wc)
      refine hK.out _ _ ?_ (fun hHeld => ?_)
      · (try dsimp only)
        exact fun _ => (h_wc.cell (p := ⟨w1.heap.size, 0, none⟩) hl0).trans hHeld
      clear hK K
      replace hHeld := hHeld rfl
      try simp only [Act.put, List.getElem_toArray, List.getElem_cons_zero, List.getElem_cons_succ, List.setIfInBounds_toArray, List.set_cons_zero, List.set_cons_succ]
      replace hl0 := Nat.lt_of_lt_of_le hl0 z_wc
      refine wpAnyN_step (i := 7) (listed' := #[true, true, true, true, true, true, true, true, false, false, false, false, false, false, false, false, false]) (by kernel_rfl) rfl (by rfl) (fun K hK => ?_)
      refine step_ops3 (by rfl) _ _ _ (by rfl) (2) (15) (0) (5) ((N : Int) - 1) (0) (0) (90) (0) (by rfl) (by rfl) (by rfl) ?_
      have hal7 := (Below.refl wc.heap.size wc).alloc (Nat.le_refl _) (.cells #[.int .i64 (2), .int .i64 (15), .int .i64 (0), .int .i64 (5), .int .i64 ((N : Int) - 1), .int .i64 (0), .int .i64 (0), .int .i64 (90), .int .i64 (0)] 32)
      have T_m7 := Lib.hid ((T_wc.out).keep hal7)
      have GN7 := Lib.hid (Whole.made wc 32 #[.int .i64 (2), .int .i64 (15), .int .i64 (0), .int .i64 (5), .int .i64 ((N : Int) - 1), .int .i64 (0), .int .i64 (0), .int .i64 (90), .int .i64 (0)])
      refine hK.out _ _ ?_ (fun hHeld => ?_)
      · (try dsimp only)
        exact fun _ => (World.cell?_alloc_lt _ _ _ hl0).trans hHeld
      clear hK K
      replace hHeld := hHeld rfl
      try simp only [Act.put, List.getElem_toArray, List.getElem_cons_zero, List.getElem_cons_succ, List.setIfInBounds_toArray, List.set_cons_zero, List.set_cons_succ]
      replace hl0 := lt_alloc hl0 (.cells #[.int .i64 (2), .int .i64 (15), .int .i64 (0), .int .i64 (5), .int .i64 ((N : Int) - 1), .int .i64 (0), .int .i64 (0), .int .i64 (90), .int .i64 (0)] 32)
      refine wpAnyN_step (i := 8) (listed' := #[true, true, true, true, true, true, true, true, true, false, false, false, false, false, false, false, false]) (by kernel_rfl) rfl (by rfl) (fun K hK => ?_)
      refine step_t (by rfl) _ _ (by rfl) (1) (some ⟨wc.heap.size, 0, none⟩) 3 3 (by rfl) (by rfl) ?_
      intro wd h_wd
      have z_wd := h_wd.size
      have T_wd := Lib.hid ((T_m7.out).keep h_wd)
      have G0_wd := Lib.hid (GN7.out.same (h_wd.block _ GN7.out.lt))
      refine hK.out _ _ ?_ (fun hHeld => ?_)
      · (try dsimp only)
        exact fun _ => (h_wd.cell (p := ⟨w1.heap.size, 0, none⟩) hl0).trans hHeld
      clear hK K
      replace hHeld := hHeld rfl
      try simp only [Act.put, List.getElem_toArray, List.getElem_cons_zero, List.getElem_cons_succ, List.setIfInBounds_toArray, List.set_cons_zero, List.set_cons_succ]
      replace hl0 := Nat.lt_of_lt_of_le hl0 z_wd
      refine wpAnyN_step (i := 9) (listed' := #[true, true, true, true, true, true, true, true, true, true, false, false, false, false, false, false, false]) (by kernel_rfl) rfl (by rfl) (fun K hK => ?_)
      refine step_o (by rfl) _ _ _ (by rfl) (2) (31) (0) (by rfl) (by rfl) (by rfl) ?_
      intro we h_we
      have z_we : wd.heap.size ≤ we.heap.size := h_we.size
      have T_we := Lib.hid ((T_wd.out).keep h_we)
      have G0_we := Lib.hid (G0_wd.out.same (h_we.block _ G0_wd.out.lt))
      refine hK.out _ _ ?_ (fun hHeld => ?_)
      · (try dsimp only)
        exact fun _ => (h_we.cell (p := ⟨w1.heap.size, 0, none⟩) hl0).trans hHeld
      clear hK K
      replace hHeld := hHeld rfl
      try simp only [Act.put, List.getElem_toArray, List.getElem_cons_zero, List.getElem_cons_succ, List.setIfInBounds_toArray, List.set_cons_zero, List.set_cons_succ]
      replace hl0 := Nat.lt_of_lt_of_le hl0 z_we
      refine wpAnyN_step (i := 10) (listed' := #[true, true, true, true, true, true, true, true, true, true, true, false, false, false, false, false, false]) (by kernel_rfl) rfl (by rfl) (fun K hK => ?_)
      refine step_o (by rfl) _ _ _ (by rfl) (0) (77) (0) (by rfl) (by rfl) (by rfl) ?_
      intro wf h_wf
      have z_wf : we.heap.size ≤ wf.heap.size := h_wf.size
      have T_wf := Lib.hid ((T_we.out).keep h_wf)
      have G0_wf := Lib.hid (G0_we.out.same (h_wf.block _ G0_we.out.lt))
      refine hK.out _ _ ?_ (fun hHeld => ?_)
      · (try dsimp only)
        exact fun _ => (h_wf.cell (p := ⟨w1.heap.size, 0, none⟩) hl0).trans hHeld
      clear hK K
      replace hHeld := hHeld rfl
      try simp only [Act.put, List.getElem_toArray, List.getElem_cons_zero, List.getElem_cons_succ, List.setIfInBounds_toArray, List.set_cons_zero, List.set_cons_succ]
      replace hl0 := Nat.lt_of_lt_of_le hl0 z_wf
      refine wpAnyN_step (i := 11) (listed' := #[true, true, true, true, true, true, true, true, true, true, true, true, false, false, false, false, false]) (by kernel_rfl) rfl (by rfl) (fun K hK => ?_)
      refine step_ops2 (by rfl) _ _ (by rfl) (2) (31) (0) (0) (77) (0) (by rfl) (by rfl) ?_
      have hal11 := (Below.refl wf.heap.size wf).alloc (Nat.le_refl _) (.cells #[.int .i64 (2), .int .i64 (31), .int .i64 (0), .int .i64 (0), .int .i64 (77), .int .i64 (0)] 32)
      have T_m11 := Lib.hid ((T_wf.out).keep hal11)
      have G0_m11 := Lib.hid (G0_wf.out.same (hal11.block _ G0_wf.out.lt))
      have GN11 := Lib.hid (Whole.made wf 32 #[.int .i64 (2), .int .i64 (31), .int .i64 (0), .int .i64 (0), .int .i64 (77), .int .i64 (0)])
      refine hK.out _ _ ?_ (fun hHeld => ?_)
      · (try dsimp only)
        exact fun _ => (World.cell?_alloc_lt _ _ _ hl0).trans hHeld
      clear hK K
      replace hHeld := hHeld rfl
      try simp only [Act.put, List.getElem_toArray, List.getElem_cons_zero, List.getElem_cons_succ, List.setIfInBounds_toArray, List.set_cons_zero, List.set_cons_succ]
      replace hl0 := lt_alloc hl0 (.cells #[.int .i64 (2), .int .i64 (31), .int .i64 (0), .int .i64 (0), .int .i64 (77), .int .i64 (0)] 32)
      refine wpAnyN_step (i := 12) (listed' := #[true, true, true, true, true, true, true, true, true, true, true, true, true, false, false, false, false]) (by kernel_rfl) rfl (by rfl) (fun K hK => ?_)
      refine step_t (by rfl) _ _ (by rfl) (5) (some ⟨wf.heap.size, 0, none⟩) 2 2 (by rfl) (by rfl) ?_
      intro wh h_wh
      have z_wh := h_wh.size
      have T_wh := Lib.hid ((T_m11.out).keep h_wh)
      have G0_wh := Lib.hid (G0_m11.out.same (h_wh.block _ G0_m11.out.lt))
      have G1_wh := Lib.hid (GN11.out.same (h_wh.block _ GN11.out.lt))
      refine hK.out _ _ ?_ (fun hHeld => ?_)
      · (try dsimp only)
        exact fun _ => (h_wh.cell (p := ⟨w1.heap.size, 0, none⟩) hl0).trans hHeld
      clear hK K
      replace hHeld := hHeld rfl
      try simp only [Act.put, List.getElem_toArray, List.getElem_cons_zero, List.getElem_cons_succ, List.setIfInBounds_toArray, List.set_cons_zero, List.set_cons_succ]
      replace hl0 := Nat.lt_of_lt_of_le hl0 z_wh
      refine wpAnyN_step (i := 13) (listed' := #[true, true, true, true, true, true, true, true, true, true, true, true, true, true, false, false, false]) (by kernel_rfl) rfl (by rfl) (fun K hK => ?_)
      refine step_task2 (by rfl) _ _ (by rfl) 1 5 (some ⟨wc.heap.size, 0, none⟩) (some ⟨wf.heap.size, 0, none⟩) 3 3 2 2 (by rfl) (by rfl) ?_
      have hal13 := (Below.refl wh.heap.size wh).alloc (Nat.le_refl _) (.cells #[.int .i64 1, .slice (some ⟨wc.heap.size, 0, none⟩) 3 3, .int .i64 5, .slice (some ⟨wf.heap.size, 0, none⟩) 2 2] 29)
      have T_m13 := Lib.hid ((T_wh.out).keep hal13)
      have G0_m13 := Lib.hid (G0_wh.out.same (hal13.block _ G0_wh.out.lt))
      have G1_m13 := Lib.hid (G1_wh.out.same (hal13.block _ G1_wh.out.lt))
      refine hK.out _ _ ?_ (fun hHeld => ?_)
      · (try dsimp only)
        exact fun _ => (World.cell?_alloc_lt _ _ _ hl0).trans hHeld
      clear hK K
      replace hHeld := hHeld rfl
      try simp only [Act.put, List.getElem_toArray, List.getElem_cons_zero, List.getElem_cons_succ, List.setIfInBounds_toArray, List.set_cons_zero, List.set_cons_succ]
      replace hl0 := lt_alloc hl0 (.cells #[.int .i64 1, .slice (some ⟨wc.heap.size, 0, none⟩) 3 3, .int .i64 5, .slice (some ⟨wf.heap.size, 0, none⟩) 2 2] 29)
      refine wpAnyN_step (i := 14) (listed' := #[true, true, true, true, true, true, true, true, true, true, true, true, true, true, true, false, false]) (by kernel_rfl) rfl (by rfl) (fun K hK => ?_)
      refine step_append_lies _ (by rfl) _ _ _ (by rfl) (w1.heap.size + 1) 29 i0 _ 2 32 Try.underlying23 hi iz0 iz1 iz2 rfl (by decide) V rs.length (tkC rs) (by rfl) T_m13.out.row ⟨wh.heap.size, 0, none⟩ 2 2 [.int .i64 1, .slice (some ⟨wc.heap.size, 0, none⟩) 3 3, .int .i64 5, .slice (some ⟨wf.heap.size, 0, none⟩) 2 2] (by rfl) (by rfl) (World.news_of_block (cs := #[.int .i64 1, .slice (some ⟨wc.heap.size, 0, none⟩) 3 3, .int .i64 5, .slice (some ⟨wf.heap.size, 0, none⟩) 2 2]) (t := 29) (fr := (0, 0)) (heap_alloc_new _ _)) (by simp [Value.oneCell']) (by decide) (by unfold maxLen; omega) (by omega) (by have := hl0; omega) (wh.heap.size + 1) (by simp) ?_
      intro gg cap w5 hown hgrow hat hlt5
      have y := T_m13.out.blk.grown hgrow (own_block T_m13.out.row T_m13.out.blk (by decide))
      have y0 := y.cell 0
      have y1 := y.frozen 0
      simp only [List.getElem?_toArray, List.getElem?_cons_zero] at y0
      have TP := Lib.hid (TL.pushes (ms := [(⟨1, [⟨2, 15, 0⟩, ⟨5, (N : Int) - 1, 0⟩, ⟨0, 90, 0⟩]⟩, some ⟨wc.heap.size, 0, none⟩, 3), (⟨5, [⟨2, 31, 0⟩, ⟨0, 77, 0⟩]⟩, some ⟨wf.heap.size, 0, none⟩, 2)]) T_m13.out (List.forall_mem_cons.2 ⟨.of_whole (Nat.le_of_ble_eq_true rfl) rfl G0_m13.out, List.forall_mem_cons.2 ⟨.of_whole (Nat.le_of_ble_eq_true rfl) rfl G1_m13.out, fun _ h => by cases h⟩⟩) hown hgrow)
      refine hK.out _ _ ?_ (fun hHeld => ?_)
      · (try dsimp only)
        exact fun _ => (hgrow.cell_far (⟨w1.heap.size, 0, none⟩) hl0 (fun e => own_block T_m13.out.row T_m13.out.blk (by decide) e.symm)).trans hHeld
      clear hK K
      replace hHeld := hHeld rfl
      try simp only [Act.put, List.getElem_toArray, List.getElem_cons_zero, List.getElem_cons_succ, List.setIfInBounds_toArray, List.set_cons_zero, List.set_cons_succ]
      refine wpAnyN_take (i := 15) (v := ?_) (listed' := #[true, true, true, true, true, true, true, true, true, true, true, true, true, true, true, true, false]) rfl (by kernel_rfl) (by kernel_rfl) (by kernel_rfl) (by rfl) (fun _ _ _ h => h) (Or.inl ⟨by rfl, ?_⟩) (by assumption) ?_
      rotate_left
      · intro w hSw
        (try dsimp only at hSw)
        go_simp
        with_reducible rfl
      try simp only [Act.put, List.getElem_toArray, List.getElem_cons_zero, List.getElem_cons_succ, List.setIfInBounds_toArray, List.set_cons_zero, List.set_cons_succ]
      refine wpAnyN_step (i := 16) (listed' := #[true, true, true, true, true, true, true, true, true, true, true, true, true, true, true, true, true]) (by kernel_rfl) rfl (by rfl) (fun K hK => ?_)
      refine step_store23 (by rfl) _ _ (by rfl) (by rfl) (by rfl) y0 y1 ?_
      refine hK.out _ _ ?_ (fun hHeld => ?_)
      · exact fun h => absurd h (by decide)
      clear hK K
      try simp only [Act.put, List.getElem_toArray, List.getElem_cons_zero, List.getElem_cons_succ]
      refine wpAnyN_done (by kernel_rfl) ?_ _
      skip
      rw [hrl]
      have TP2 : Hid (TL w1 (w5.setCell ⟨w1.heap.size, 0, none⟩ (.slice (some ⟨gg, 0, none⟩) (N + 2) cap)) (.slice (some ⟨gg, 0, none⟩) (N + 2) cap) (.slice none 0 0) (.slice none 0 0) N (rs ++ [(⟨1, [⟨2, 15, 0⟩, ⟨5, (N : Int) - 1, 0⟩, ⟨0, 90, 0⟩]⟩, some ⟨wc.heap.size, 0, none⟩, 3), (⟨5, [⟨2, 31, 0⟩, ⟨0, 77, 0⟩]⟩, some ⟨wf.heap.size, 0, none⟩, 2)])) := by have := TP; rw [hrl] at this; exact this
      clear TP
      have TP := TP2
      clear TP2
      have z0 := TP.out.blk.cell 0
      have z1 := TP.out.blk.cell 1
      have z2 := TP.out.blk.cell 2
      have z3 := TP.out.blk.cell 3
      have zf := TP.out.blk.frozen 0
      have hlt4 := TP.out.blk.lt
      simp only [List.getElem?_toArray, List.getElem?_cons_zero, List.getElem?_cons_succ] at z0 z1 z2 z3
      clear hown hgrow hat y y0 y1 hl0 hHeld k0 k1 HT
      have hrun := chain_run (n := N) (by omega) (by omega)
      have hf := Lib.hid hrun.1
      have hout := Lib.hid hrun.2
      clear hrun
      go_wp2_with fail
      refine (run_at (t := chainT N) (ticks := 200) (ops := 1000) (by simp [chainT]) rfl rfl rfl rfl rfl ?tab hf.out (by omega) (by omega)).mono ?_
      case tab => exact (TP.out.tab (t := chainT N) (by rw [List.map_append, HS.out]; rfl) (Reads.nil _) (Reads.nil _) (by rw [List.length_append, hrl]; show N + 2 ≤ 1000; omega) (Nat.zero_le _) (Nat.zero_le _)).1
      rintro e w9 hRR
      obtain ⟨P9, Q9, R9, pn, pc, qn, qc, rn, rc, rfl, hb9, HRA⟩ := hRR.opened
      clear hRR
      generalize Kn.runT (chainT N) 200 1000 = k at *
      have hbel := HB1.out.trans ((TP.out.bel.trans (hb9.mono TP.out.bel.size)).mono hz1)
      have HBE := Lib.hid (hbel.alloc hbel.size (.cells #[.slice P9 pn pc, .slice Q9 qn qc, .slice R9 rn rc, .int .i64 k.ticks, .int .i64 k.ops] 36))
      have HC := Lib.hid (HRA.out.conv _ ((Below.refl w9.heap.size w9).alloc (Nat.le_refl _) (.cells #[.slice P9 pn pc, .slice Q9 qn qc, .slice R9 rn rc, .int .i64 k.ticks, .int .i64 k.ops] 36)))
      clear hb9 hbel 
      have HC2 : (convert 34 9 (.slice P9 pn pc)).run Try.prog (w9.alloc (.cells #[.slice P9 pn pc, .slice Q9 qn qc, .slice R9 rn rc, .int .i64 k.ticks, .int .i64 k.ops] 36)) = .ok (.string (lettersB N ++ ⟨#[90, 77]⟩)) (w9.alloc (.cells #[.slice P9 pn pc, .slice Q9 qn qc, .slice R9 rn rc, .int .i64 k.ticks, .int .i64 k.ops] 36)) := by
        rw [HC.out, hout.out]
        have hA := str_add (letters N) [90, 77]
        unfold lettersB
        rw [hA]
        rfl
      have hL := run_lettersB N (by omega)
      have hs2 : ((lettersB N).size : Int) ≤ 26 := by rw [lettersB_size]; omega
      clear HC hout TP
      go_wp2_with (first | (go_at_call 23; refine (num_any _ _).mono ?_; rintro e w3 ⟨rfl, rfl⟩))
      go_ret
      exact ⟨rfl, HBE.out⟩
end Go.Proofs.Ytncbgnpoffolcaa
