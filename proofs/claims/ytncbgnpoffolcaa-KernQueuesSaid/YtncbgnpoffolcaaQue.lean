/-
  KernQueues: the walk of the law.
-/
import Derived.Test.YtncbgnpoffolcaaWn
import Derived.Test.YtncbgnpoffolcaaSb
import Derived.Test.YtncbgnpoffolcaaOq
import Derived.Test.YtncbgnpoffolcaaRnd
import Derived.Test.YtncbgnpoffolcaaQueP
namespace Go.Proofs.Ytncbgnpoffolcaa
open Go.RowKit
theorem lettersB_push (n : Nat) : lettersB n ++ ⟨#[UInt8.ofNat (97 + n)]⟩ = lettersB (n + 1) := by
  have := str_add (letters n) [UInt8.ofNat (97 + n)]
  unfold lettersB
  have e : letters (n + 1) = letters n ++ [UInt8.ofNat (97 + n)] := by
    unfold letters
    rw [List.range_succ, List.map_append]
    rfl
  rw [e]
  exact this
theorem quesS_succ (q : Nat) : quesS (q + 1) = quesS q ++ [⟨7, 0, (q : Int)⟩] := by
  unfold quesS
  rw [List.range_succ, List.map_append]
  rfl
theorem quesR_succ (q : Nat) : quesR (q + 1) = quesR q ++ [⟨8, 0, 0⟩, ⟨9, 0, 0⟩] := by
  unfold quesR
  rw [List.range_succ, List.flatMap_append]
  simp
theorem quesS_len (q : Nat) : (quesS q).length = q := by simp [quesS]
theorem quesR_len (q : Nat) : (quesR q).length = 2 * q := by
  induction q with
  | zero => rfl
  | succ q ih =>
    rw [quesR_succ, List.length_append, ih]
    simp
    omega
set_option maxRecDepth 100000 in
set_option maxHeartbeats 16000000 in
theorem kernQueues_any (a b : Int) (f : Bool) (w : World) : Calls Try.prog 10 #[.int .i64 a, .int .i64 b, .bool f] w fun r w' => r = .returned (.bool true) ∧ Below w.heap.size w w' := by
  obtain ⟨j0, hj, jz0, jz1, jz2⟩ := info_parts info32'
  by_cases b0 : a < 1
  · as_aux_lemma =>
      go_enter Try.func10, Try.ntmps10
      go_wp2_with fail
      refine (alive_any w).mono ?_
      rintro e w1 ⟨rfl, hb1⟩
      go_wp2_with fail
      go_ret
      exact ⟨rfl, hb1⟩
  by_cases b1 : 16 < a
  · as_aux_lemma =>
      go_enter Try.func10, Try.ntmps10
      go_wp2_with fail
      refine (alive_any w).mono ?_
      rintro e w1 ⟨rfl, hb1⟩
      go_wp2_with fail
      go_ret
      exact ⟨rfl, hb1⟩
  by_cases b2 : b < 1
  · as_aux_lemma =>
      go_enter Try.func10, Try.ntmps10
      go_wp2_with fail
      refine (alive_any w).mono ?_
      rintro e w1 ⟨rfl, hb1⟩
      go_wp2_with fail
      go_ret
      exact ⟨rfl, hb1⟩
  by_cases b3 : 20 < b
  · as_aux_lemma =>
      go_enter Try.func10, Try.ntmps10
      go_wp2_with fail
      refine (alive_any w).mono ?_
      rintro e w1 ⟨rfl, hb1⟩
      go_wp2_with fail
      go_ret
      exact ⟨rfl, hb1⟩
  obtain ⟨SZ, rfl⟩ : ∃ N : Nat, a = N := ⟨a.toNat, by omega⟩
  obtain ⟨N, rfl⟩ : ∃ N : Nat, b = N := ⟨b.toNat, by omega⟩
  go_enter Try.func10, Try.ntmps10
  go_wp2_with fail
  refine (alive_any w).mono ?_
  rintro e w1 ⟨rfl, hb1⟩
  have HB1 := Lib.hid hb1
  have hz1 := hb1.size
  clear hb1
  go_wp2_with fail
  have HI := Lib.hid (show OL ((w1.alloc (.cells #[.int .i64 0, .slice none 0 0] 29)).alloc (.cells #[.int .i64 0, .slice none 0 0] 29)) (w1.heap.size) (w1.heap.size + 2) (.int .i64 0) (.slice none 0 0) [] from OL.start ((Whole.made w1 29 _).alloc _))
  have HJ := Lib.hid (show OL ((w1.alloc (.cells #[.int .i64 0, .slice none 0 0] 29)).alloc (.cells #[.int .i64 0, .slice none 0 0] 29)) (w1.heap.size + 1) (w1.heap.size + 2) (.int .i64 0) (.slice none 0 0) [] from OL.start (by have := Whole.made (w1.alloc (.cells #[.int .i64 0, .slice none 0 0] 29)) 29 #[.int .i64 0, .slice none 0 0]; rw [World.size_alloc] at this; exact this))
  have HK := Lib.hid (show Below w1.heap.size w1 ((w1.alloc (.cells #[.int .i64 0, .slice none 0 0] 29)).alloc (.cells #[.int .i64 0, .slice none 0 0] 29)) from ((Below.refl _ _).alloc (Nat.le_refl _) _).alloc (by simp) _)
  go_loopg [10, 11] N (fun kk s i wr => ∃ (q : Nat) (V Vr : Value), q ≤ N ∧ i = .int .i64 q ∧ s = .string (lettersB q) ∧ OL wr (w1.heap.size) (w1.heap.size + 2) (.int .i64 0) V (quesS q) ∧ OL wr (w1.heap.size + 1) (w1.heap.size + 2) (.int .i64 0) Vr (quesR q) ∧ (∀ k, Vr.ownBlock = some k → V.ownBlock ≠ some k) ∧ Below w1.heap.size w1 wr ∧ N - q ≤ kk)
  case atStart => exact ⟨0, _, _, Nat.zero_le _, rfl, rfl, HI.out, HJ.out, (by intro k hk; cases hk), HK.out, by omega⟩
  case round =>
    clear HI HJ HK
    obtain ⟨q, V, Vr, hq, rfl, rfl, hO, hQ, hD, hbx, hkk⟩ := hrel
    obtain ⟨ols, hols⟩ : ∃ ol : List Kn.Op, ol = quesS q := ⟨_, rfl⟩
    obtain ⟨olr, holr⟩ : ∃ ol : List Kn.Op, ol = quesR q := ⟨_, rfl⟩
    rw [← hols] at hO
    rw [← holr] at hQ
    have HLS := Lib.hid (show ols.length ≤ 100 by rw [hols, quesS_len]; omega)
    have HLR := Lib.hid (show olr.length ≤ 100 by rw [holr, quesR_len]; omega)
    have HOS := Lib.hid hols
    have HOR := Lib.hid holr
    have HO := Lib.hid hO
    have HQ := Lib.hid hQ
    have HD := Lib.hid hD
    have HBX := Lib.hid hbx
    have htb := hO.blk.lt
    have hl1i := hQ.blk.lt
    by_cases hqN : q < N
    · have hqN' : (q : Int) < N := by omega
      have k0 := hO.blk.cell 1
      have k1 := hO.blk.frozen 1
      simp only [List.getElem?_toArray, List.getElem?_cons_succ, List.getElem?_cons_zero] at k0
      clear hO hQ hD hols holr hbx
      have HNX := Lib.hid (show w1.heap.size ≤ w1.heap.size + 2 by omega)
      have HXB := Lib.hid (Nat.le_refl w1.heap.size)
      go_wp2_with fail
      have hl1 := hl1i
      have hl0 : Addr.block (⟨w1.heap.size, 1, none⟩) < wr.heap.size := htb
      refine wp_region_need (S := fun w' => w'.cell? (⟨w1.heap.size, 1, none⟩) = some (V)) (need := fun i => i != 7) 8 #[false, false, false, false, false, false, false, false] (by rfl) (by rfl) (by kernel_rfl) ?_ (fun hHeld => ?_)
      · (try dsimp only)
        exact k0
      refine wpAnyN_take (i := 0) (v := ?_) (listed' := #[true, false, false, false, false, false, false, false]) rfl (by kernel_rfl) (by kernel_rfl) (by kernel_rfl) (by rfl) (fun _ _ _ h => h) (Or.inl ⟨by rfl, ?_⟩) (by assumption) ?_
      rotate_left
      · intro w hSw
        (try dsimp only at hSw)
        go_simp
        with_reducible rfl
      try simp only [Act.put, List.getElem_toArray, List.getElem_cons_zero, List.setIfInBounds_toArray, List.set_cons_zero, List.set_cons_succ]
      refine wpAnyN_take (i := 1) (v := ?_) (listed' := #[true, true, false, false, false, false, false, false]) rfl (by kernel_rfl) (by kernel_rfl) (by kernel_rfl) (by rfl) (fun _ _ _ h => h) (Or.inl ⟨by rfl, ?_⟩) (by assumption) ?_
      rotate_left
      · intro w hSw
        (try dsimp only at hSw)
        go_simp
        with_reducible rfl
      try simp only [Act.put, List.getElem_toArray, List.getElem_cons_zero, List.getElem_cons_succ, List.setIfInBounds_toArray, List.set_cons_zero, List.set_cons_succ]
      refine wpAnyN_take (i := 2) (v := ?_) (listed' := #[true, true, true, false, false, false, false, false]) rfl (by kernel_rfl) (by kernel_rfl) (by kernel_rfl) (by rfl) (fun _ _ _ h => h) (Or.inl ⟨by rfl, ?_⟩) (by assumption) ?_
      rotate_left
      · intro w hSw
        (try dsimp only at hSw)
        go_simp
        with_reducible rfl
      try simp only [Act.put, List.getElem_toArray, List.getElem_cons_zero, List.getElem_cons_succ, List.setIfInBounds_toArray, List.set_cons_zero, List.set_cons_succ]
      refine wpAnyN_step (i := 3) (listed' := #[true, true, true, true, false, false, false, false]) (by kernel_rfl) rfl (by rfl) (fun K hK => ?_)
      refine step_o (by rfl) _ _ _ (by rfl) (7) (0) ((q : Int)) (by rfl) (by rfl) (by rfl) ?_
      intro wo0 hb0
      have hz0' : wr.heap.size ≤ wo0.heap.size := hb0.size
      have O0' := Lib.hid ((HO.out.keep (Below.drew (Below.refl _ _))).keep hb0)
      have B0' := Lib.hid ((HBX.out.drew).trans (hb0.mono HBX.out.size))
      have Q0' := Lib.hid ((HQ.out.keep (Below.drew (Below.refl _ _))).keep hb0)
      refine hK.out _ _ ?_ (fun hHeld => ?_)
      · (try dsimp only)
        exact fun _ => (hb0.cell (p := ⟨w1.heap.size, 1, none⟩) hl0).trans hHeld
      clear hK K
      replace hHeld := hHeld rfl
      try simp only [Act.put, List.getElem_toArray, List.getElem_cons_zero, List.getElem_cons_succ, List.setIfInBounds_toArray, List.set_cons_zero, List.set_cons_succ]
      replace hl0 := Nat.lt_of_lt_of_le hl0 hz0'
      replace hl1 := Nat.lt_of_lt_of_le hl1 hz0'
      refine wpAnyN_step (i := 4) (listed' := #[true, true, true, true, true, false, false, false]) (by kernel_rfl) rfl (by rfl) (fun K hK => ?_)
      refine step_ops1 (by rfl) _ (by rfl) (7) (0) ((q : Int)) (by rfl) ?_
      have O4 := Lib.hid (O0'.out.keep ((Below.refl wo0.heap.size wo0).alloc (Nat.le_refl _) (.cells #[.int .i64 (7), .int .i64 (0), .int .i64 ((q : Int))] 32)))
      have B4 := Lib.hid (B0'.out.alloc B0'.out.size (.cells #[.int .i64 (7), .int .i64 (0), .int .i64 ((q : Int))] 32))
      clear O0' B0'
      have Q4 := Lib.hid (Q0'.out.keep ((Below.refl wo0.heap.size wo0).alloc (Nat.le_refl _) (.cells #[.int .i64 (7), .int .i64 (0), .int .i64 ((q : Int))] 32)))
      refine hK.out _ _ ?_ (fun hHeld => ?_)
      · (try dsimp only)
        exact fun _ => (World.cell?_alloc_lt _ _ _ hl0).trans hHeld
      clear hK K
      replace hHeld := hHeld rfl
      try simp only [Act.put, List.getElem_toArray, List.getElem_cons_zero, List.getElem_cons_succ, List.setIfInBounds_toArray, List.set_cons_zero, List.set_cons_succ]
      refine wpAnyN_step (i := 5) (listed' := #[true, true, true, true, true, true, false, false]) (by kernel_rfl) rfl (by rfl) (fun K hK => ?_)
      refine step_append_lies _ (by rfl) _ _ _ (by rfl) (w1.heap.size + 2) 32 j0 _ 3 24 Try.underlying27 hj jz0 jz1 jz2 rfl (by decide) V (ols).length (opsC (ols)) (by rfl) O4.out.row ⟨wo0.heap.size, 0, none⟩ 1 1 [.int .i64 (7), .int .i64 (0), .int .i64 ((q : Int))] (by rfl) (by rfl) (World.news_of_block (cs := #[.int .i64 (7), .int .i64 (0), .int .i64 ((q : Int))]) (t := 32) (fr := (0, 0)) (heap_alloc_new _ _)) (by simp [Value.oneCell']) (by decide) (by unfold maxLen; have := HLS.out; omega) (by have := HLS.out; omega) (lt_alloc hl1 _) (wo0.heap.size + 1) (by simp) ?_
      intro gg cap w5 hown hgrow hat hlt5
      have hVlt := O4.out.row.lt
      have y := O4.out.blk.grown hgrow (own_block O4.out.row O4.out.blk (by decide))
      have y1 := y.cell 1
      have yf := y.frozen 1
      simp only [List.getElem?_toArray, List.getElem?_cons_succ, List.getElem?_cons_zero] at y1
      have OP := Lib.hid (O4.out.push (m := [⟨7, 0, (q : Int)⟩]) hown hgrow)
      have HBP := Lib.hid (bel_push (i := 1) B4.out hgrow (Nat.le_refl _) (fun k hk => Nat.le_trans (HNX.out) (hVlt k hk).1) (HXB.out) (.slice (some ⟨gg, 0, none⟩) ((ols).length + 1) cap))
      have QP := Lib.hid (Q4.out.other O4.out.blk O4.out.row hgrow HD.out (Nat.succ_ne_self _) (.slice (some ⟨gg, 0, none⟩) ((ols).length + 1) cap) 1)
      have HDN := Lib.hid (disj_next (c := cap) (n := (ols).length + 1) HD.out Q4.out (by simp : _ = wo0.heap.size + 1) hat)
      clear hown
      refine hK.out _ _ ?_ (fun hHeld => ?_)
      · (try dsimp only)
        exact fun _ => (hgrow.cell_far (⟨w1.heap.size, 1, none⟩) (lt_alloc hl0 _) (fun e => own_block O4.out.row O4.out.blk (by decide) e.symm)).trans hHeld
      clear hK K
      replace hHeld := hHeld rfl
      try simp only [Act.put, List.getElem_toArray, List.getElem_cons_zero, List.getElem_cons_succ, List.setIfInBounds_toArray, List.set_cons_zero, List.set_cons_succ]
      refine wpAnyN_take (i := 6) (v := ?_) (listed' := #[true, true, true, true, true, true, true, false]) rfl (by kernel_rfl) (by kernel_rfl) (by kernel_rfl) (by rfl) (fun _ _ _ h => h) (Or.inl ⟨by rfl, ?_⟩) (by assumption) ?_
      rotate_left
      · intro w hSw
        (try dsimp only at hSw)
        go_simp
        with_reducible rfl
      try simp only [Act.put, List.getElem_toArray, List.getElem_cons_zero, List.getElem_cons_succ, List.setIfInBounds_toArray, List.set_cons_zero, List.set_cons_succ]
      refine wpAnyN_step (i := 7) (listed' := #[true, true, true, true, true, true, true, true]) (by kernel_rfl) rfl (by rfl) (fun K hK => ?_)
      refine step_store27 (by rfl) _ _ (by rfl) (by rfl) (by rfl) y1 yf ?_
      refine hK.out _ _ ?_ (fun hHeld => ?_)
      · exact fun h => absurd h (by decide)
      clear hK K
      try simp only [Act.put, List.getElem_toArray, List.getElem_cons_zero, List.getElem_cons_succ]
      refine wpAnyN_done (by kernel_rfl) ?_ _
      generalize hwv : w5.setCell ⟨w1.heap.size, 1, none⟩ (.slice (some ⟨gg, 0, none⟩) (ols.length + 1) cap) = wv at *
      clear hwv
      have HSN := OP
      have HRN := QP
      have HDS := Lib.hid (disj_symm HDN.out)
      have HBX2 := HBP
      replace HXB := Lib.hid (show w1.heap.size ≤ w1.heap.size + 1 by omega)
      replace htb := QP.out.blk.lt
      replace hl1i := QP.out.blk.lt
      replace k0 := QP.out.blk.cell 1
      replace k1 := QP.out.blk.frozen 1
      simp only [List.getElem?_toArray, List.getElem?_cons_succ, List.getElem?_cons_zero] at k0
      clear OP QP HDN HBP HO HQ HD HBX O4 B4 Q4 y yf y1 hVlt hgrow hat hHeld hl0 hl1
      go_wp2_with fail
      have hl1 := hl1i
      have hl0 : Addr.block (⟨w1.heap.size + 1, 1, none⟩) < wv.heap.size := htb
      refine wp_region_need (S := fun w' => w'.cell? (⟨w1.heap.size + 1, 1, none⟩) = some (Vr)) (need := fun i => i != 7) 8 #[false, false, false, false, false, false, false, false] (by rfl) (by rfl) (by kernel_rfl) ?_ (fun hHeld => ?_)
      · (try dsimp only)
        exact k0
      refine wpAnyN_take (i := 0) (v := ?_) (listed' := #[true, false, false, false, false, false, false, false]) rfl (by kernel_rfl) (by kernel_rfl) (by kernel_rfl) (by rfl) (fun _ _ _ h => h) (Or.inl ⟨by rfl, ?_⟩) (by assumption) ?_
      rotate_left
      · intro w hSw
        (try dsimp only at hSw)
        go_simp
        with_reducible rfl
      try simp only [Act.put, List.getElem_toArray, List.getElem_cons_zero, List.setIfInBounds_toArray, List.set_cons_zero, List.set_cons_succ]
      refine wpAnyN_take (i := 1) (v := ?_) (listed' := #[true, true, false, false, false, false, false, false]) rfl (by kernel_rfl) (by kernel_rfl) (by kernel_rfl) (by rfl) (fun _ _ _ h => h) (Or.inl ⟨by rfl, ?_⟩) (by assumption) ?_
      rotate_left
      · intro w hSw
        (try dsimp only at hSw)
        go_simp
        with_reducible rfl
      try simp only [Act.put, List.getElem_toArray, List.getElem_cons_zero, List.getElem_cons_succ, List.setIfInBounds_toArray, List.set_cons_zero, List.set_cons_succ]
      refine wpAnyN_step (i := 2) (listed' := #[true, true, true, false, false, false, false, false]) (by kernel_rfl) rfl (by rfl) (fun K hK => ?_)
      refine step_o (by rfl) _ _ _ (by rfl) (8) (0) (0) (by rfl) (by rfl) (by rfl) ?_
      intro wo0 hb0
      have hz0' : wv.heap.size ≤ wo0.heap.size := hb0.size
      have O0' := Lib.hid ((HRN.out.keep (Below.drew (Below.refl _ _))).keep hb0)
      have B0' := Lib.hid ((HBX2.out.drew).trans (hb0.mono HBX2.out.size))
      have Q0' := Lib.hid ((HSN.out.keep (Below.drew (Below.refl _ _))).keep hb0)
      refine hK.out _ _ ?_ (fun hHeld => ?_)
      · (try dsimp only)
        exact fun _ => (hb0.cell (p := ⟨w1.heap.size + 1, 1, none⟩) hl0).trans hHeld
      clear hK K
      replace hHeld := hHeld rfl
      try simp only [Act.put, List.getElem_toArray, List.getElem_cons_zero, List.getElem_cons_succ, List.setIfInBounds_toArray, List.set_cons_zero, List.set_cons_succ]
      replace hl0 := Nat.lt_of_lt_of_le hl0 hz0'
      replace hl1 := Nat.lt_of_lt_of_le hl1 hz0'
      refine wpAnyN_step (i := 3) (listed' := #[true, true, true, true, false, false, false, false]) (by kernel_rfl) rfl (by rfl) (fun K hK => ?_)
      refine step_o (by rfl) _ _ _ (by rfl) (9) (0) (0) (by rfl) (by rfl) (by rfl) ?_
      intro wo1 hb1
      have hz1' : wo0.heap.size ≤ wo1.heap.size := hb1.size
      have O1' := Lib.hid (O0'.out.keep hb1)
      have B1' := Lib.hid (B0'.out.trans (hb1.mono B0'.out.size))
      have Q1' := Lib.hid (Q0'.out.keep hb1)
      clear O0' B0' Q0'
      refine hK.out _ _ ?_ (fun hHeld => ?_)
      · (try dsimp only)
        exact fun _ => (hb1.cell (p := ⟨w1.heap.size + 1, 1, none⟩) hl0).trans hHeld
      clear hK K
      replace hHeld := hHeld rfl
      try simp only [Act.put, List.getElem_toArray, List.getElem_cons_zero, List.getElem_cons_succ, List.setIfInBounds_toArray, List.set_cons_zero, List.set_cons_succ]
      replace hl0 := Nat.lt_of_lt_of_le hl0 hz1'
      replace hl1 := Nat.lt_of_lt_of_le hl1 hz1'
      refine wpAnyN_step (i := 4) (listed' := #[true, true, true, true, true, false, false, false]) (by kernel_rfl) rfl (by rfl) (fun K hK => ?_)
      refine step_ops2 (by rfl) _ _ (by rfl) (8) (0) (0) (9) (0) (0) (by rfl) (by rfl) ?_
      have O4 := Lib.hid (O1'.out.keep ((Below.refl wo1.heap.size wo1).alloc (Nat.le_refl _) (.cells #[.int .i64 (8), .int .i64 (0), .int .i64 (0), .int .i64 (9), .int .i64 (0), .int .i64 (0)] 32)))
      have B4 := Lib.hid (B1'.out.alloc B1'.out.size (.cells #[.int .i64 (8), .int .i64 (0), .int .i64 (0), .int .i64 (9), .int .i64 (0), .int .i64 (0)] 32))
      clear O1' B1'
      have Q4 := Lib.hid (Q1'.out.keep ((Below.refl wo1.heap.size wo1).alloc (Nat.le_refl _) (.cells #[.int .i64 (8), .int .i64 (0), .int .i64 (0), .int .i64 (9), .int .i64 (0), .int .i64 (0)] 32)))
      refine hK.out _ _ ?_ (fun hHeld => ?_)
      · (try dsimp only)
        exact fun _ => (World.cell?_alloc_lt _ _ _ hl0).trans hHeld
      clear hK K
      replace hHeld := hHeld rfl
      try simp only [Act.put, List.getElem_toArray, List.getElem_cons_zero, List.getElem_cons_succ, List.setIfInBounds_toArray, List.set_cons_zero, List.set_cons_succ]
      refine wpAnyN_step (i := 5) (listed' := #[true, true, true, true, true, true, false, false]) (by kernel_rfl) rfl (by rfl) (fun K hK => ?_)
      refine step_append_lies _ (by rfl) _ _ _ (by rfl) (w1.heap.size + 2) 32 j0 _ 3 24 Try.underlying27 hj jz0 jz1 jz2 rfl (by decide) Vr (olr).length (opsC (olr)) (by rfl) O4.out.row ⟨wo1.heap.size, 0, none⟩ 2 2 [.int .i64 (8), .int .i64 (0), .int .i64 (0), .int .i64 (9), .int .i64 (0), .int .i64 (0)] (by rfl) (by rfl) (World.news_of_block (cs := #[.int .i64 (8), .int .i64 (0), .int .i64 (0), .int .i64 (9), .int .i64 (0), .int .i64 (0)]) (t := 32) (fr := (0, 0)) (heap_alloc_new _ _)) (by simp [Value.oneCell']) (by decide) (by unfold maxLen; have := HLR.out; omega) (by have := HLR.out; omega) (lt_alloc hl1 _) (wo1.heap.size + 1) (by simp) ?_
      intro gg cap w5 hown hgrow hat hlt5
      have hVlt := O4.out.row.lt
      have y := O4.out.blk.grown hgrow (own_block O4.out.row O4.out.blk (by decide))
      have y1 := y.cell 1
      have yf := y.frozen 1
      simp only [List.getElem?_toArray, List.getElem?_cons_succ, List.getElem?_cons_zero] at y1
      have OP := Lib.hid (O4.out.push (m := [⟨8, 0, 0⟩, ⟨9, 0, 0⟩]) hown hgrow)
      have HBP := Lib.hid (bel_push (i := 1) B4.out hgrow (Nat.le_refl _) (fun k hk => Nat.le_trans (HNX.out) (hVlt k hk).1) (HXB.out) (.slice (some ⟨gg, 0, none⟩) ((olr).length + 2) cap))
      have QP := Lib.hid (Q4.out.other O4.out.blk O4.out.row hgrow HDS.out (Nat.ne_of_lt (Nat.lt_succ_self _)) (.slice (some ⟨gg, 0, none⟩) ((olr).length + 2) cap) 1)
      have HDN := Lib.hid (disj_next (c := cap) (n := (olr).length + 2) HDS.out Q4.out (by simp : _ = wo1.heap.size + 1) hat)
      clear hown
      refine hK.out _ _ ?_ (fun hHeld => ?_)
      · (try dsimp only)
        exact fun _ => (hgrow.cell_far (⟨w1.heap.size + 1, 1, none⟩) (lt_alloc hl0 _) (fun e => own_block O4.out.row O4.out.blk (by decide) e.symm)).trans hHeld
      clear hK K
      replace hHeld := hHeld rfl
      try simp only [Act.put, List.getElem_toArray, List.getElem_cons_zero, List.getElem_cons_succ, List.setIfInBounds_toArray, List.set_cons_zero, List.set_cons_succ]
      refine wpAnyN_take (i := 6) (v := ?_) (listed' := #[true, true, true, true, true, true, true, false]) rfl (by kernel_rfl) (by kernel_rfl) (by kernel_rfl) (by rfl) (fun _ _ _ h => h) (Or.inl ⟨by rfl, ?_⟩) (by assumption) ?_
      rotate_left
      · intro w hSw
        (try dsimp only at hSw)
        go_simp
        with_reducible rfl
      try simp only [Act.put, List.getElem_toArray, List.getElem_cons_zero, List.getElem_cons_succ, List.setIfInBounds_toArray, List.set_cons_zero, List.set_cons_succ]
      refine wpAnyN_step (i := 7) (listed' := #[true, true, true, true, true, true, true, true]) (by kernel_rfl) rfl (by rfl) (fun K hK => ?_)
      refine step_store27 (by rfl) _ _ (by rfl) (by rfl) (by rfl) y1 yf ?_
      refine hK.out _ _ ?_ (fun hHeld => ?_)
      · exact fun h => absurd h (by decide)
      clear hK K
      try simp only [Act.put, List.getElem_toArray, List.getElem_cons_zero, List.getElem_cons_succ]
      refine wpAnyN_done (by kernel_rfl) ?_ _
      generalize hwu : w5.setCell ⟨w1.heap.size + 1, 1, none⟩ (.slice (some ⟨gg, 0, none⟩) (olr.length + 2) cap) = wu at *
      clear hwu
      have HA := Lib.hid (lettersB_push q)
      have hL := run_letter q (by omega)
      have hs2 : ((lettersB q).size : Int) ≤ 26 := by rw [lettersB_size]; omega
      go_wp2_with fail
      go_roundg (N - (q + 1))
      case measure => omega
      case rel => exact ⟨q + 1, _, _, by omega, by go_num, congrArg Value.string (Eq.trans (by simp) HA.out), by rw [quesS_succ, ← HOS.out]; exact QP.out, by rw [quesR_succ, ← HOR.out]; exact OP.out, disj_symm HDN.out, HBP.out, Nat.le_refl _⟩
    · have hqN' : ¬ (q : Int) < N := by omega
      have hqn : N = q := by omega
      subst hqn
      obtain ⟨A1, c1, hV1⟩ := hO.shape
      obtain ⟨A2, c2, hV2⟩ := hQ.shape
      subst hV1
      subst hV2
      have hrun := ques_run (size := SZ) (n := N) (first := f) (by omega) (by omega) (by omega) (by omega)
      have HF := Lib.hid hrun.1
      have HU := Lib.hid hrun.2.1
      have HST := Lib.hid hrun.2.2
      clear hO hQ hD hols holr hbx hrun
      cases f
      · skip
        have hne1 : w1.heap.size + 1 ≠ w1.heap.size := Nat.succ_ne_self _
        have hne2 : w1.heap.size ≠ w1.heap.size + 1 := Nat.ne_of_lt (Nat.lt_succ_self _)
        have O1 := HO.out.prio (.int .i64 5)
        have Q1 := HQ.out.far (i := 0) (u := .int .i64 5) HO.out.blk hne1
        have O2 := O1.far (i := 0) (u := .int .i64 6) Q1.blk hne2
        have Q2 := Q1.prio (.int .i64 6)
        have B2 := (HBX.out.setCell (p := ⟨w1.heap.size, 0, none⟩) (Nat.le_refl _) (.int .i64 5)).setCell (p := ⟨w1.heap.size + 1, 0, none⟩) (Nat.le_succ _) (.int .i64 6)
        have x0 := HO.out.blk.cell 0
        have xf := HO.out.blk.frozen 0
        have r0 := HQ.out.blk.cell 0
        have rf := HQ.out.blk.frozen 0
        simp only [List.getElem?_toArray, List.getElem?_cons_zero] at x0 r0
        have P1 := Lib.hid O2
        have P2 := Lib.hid Q2
        have P3 := Lib.hid B2
        clear O1 O2 Q1 Q2 B2
        go_upto_region 17 with fail
        generalize ((wr.setCell ⟨w1.heap.size, 0, none⟩ (.int .i64 5)).setCell ⟨w1.heap.size + 1, 0, none⟩ (.int .i64 6)) = WW at *
        clear x0 xf r0 rf
        have x0 := P1.out.blk.cell 0
        have x1 := P1.out.blk.cell 1
        have r0 := P2.out.blk.cell 0
        have r1 := P2.out.blk.cell 1
        have hxl := P1.out.blk.lt
        have hrl := P2.out.blk.lt
        simp only [List.getElem?_toArray, List.getElem?_cons_zero, List.getElem?_cons_succ] at x0 x1 r0 r1
        have L1 := Lib.hid (((P1.out.opsLie (p := 5) (Nat.le_trans HLS.out (by decide))).below ((Below.refl WW.heap.size WW).alloc (Nat.le_refl _) (.cells #[.int .i64 (SZ : Int)] 3))).below ((Below.refl _ (WW.alloc (.cells #[.int .i64 (SZ : Int)] 3))).alloc (Nat.le_refl _) (.cells #[.int .i64 5, .slice A1 ols.length c1, .int .i64 6, .slice A2 olr.length c2] 29)))
        have L2 := Lib.hid (((P2.out.opsLie (p := 6) (Nat.le_trans HLR.out (by decide))).below ((Below.refl WW.heap.size WW).alloc (Nat.le_refl _) (.cells #[.int .i64 (SZ : Int)] 3))).below ((Below.refl _ (WW.alloc (.cells #[.int .i64 (SZ : Int)] 3))).alloc (Nat.le_refl _) (.cells #[.int .i64 5, .slice A1 ols.length c1, .int .i64 6, .slice A2 olr.length c2] 29)))
        have HW2 := Whole.made (WW.alloc (.cells #[.int .i64 (SZ : Int)] 3)) 29 #[.int .i64 5, .slice A1 ols.length c1, .int .i64 6, .slice A2 olr.length c2]
        rw [World.size_alloc] at HW2
        have HW1 := Lib.hid ((Whole.made WW 3 #[.int .i64 (SZ : Int)]).alloc (.cells #[.int .i64 5, .slice A1 ols.length c1, .int .i64 6, .slice A2 olr.length c2] 29))
        replace HW2 := Lib.hid HW2
        have B4 := Lib.hid ((P3.out.alloc P3.out.size (.cells #[.int .i64 (SZ : Int)] 3)).alloc (P3.out.alloc P3.out.size (.cells #[.int .i64 (SZ : Int)] 3)).size (.cells #[.int .i64 5, .slice A1 ols.length c1, .int .i64 6, .slice A2 olr.length c2] 29))
        go_wp2_with fail
        refine (run_at (t := quesT SZ N false) (ticks := 10) (ops := 1000) rfl rfl rfl rfl rfl rfl ?tab HF.out (by omega) (by omega)).mono ?_
        case tab => exact TabRd.of_rows (l := [(⟨5, ols⟩, A1, c1), (⟨6, olr⟩, A2, c2)]) (Reads.of_whole (n := 2) (sz := 2) HW2.out HW2.out.lt rfl) (by rw [HOS.out, HOR.out]; rfl) (List.forall_mem_cons.2 ⟨L1.out.reads, List.forall_mem_cons.2 ⟨L2.out.reads, fun _ h => by cases h⟩⟩) (Reads.nil _) (Reads.of_whole (n := 1) (sz := 1) HW1.out HW1.out.lt rfl) (by show (2 : Nat) ≤ maxLen; unfold maxLen; decide) (Nat.zero_le _) (by show (1 : Nat) ≤ maxLen; unfold maxLen; decide)
        rintro e w9 hRR
        obtain ⟨P9, Q9, R9, pn, pc, qn, qc, rn, rc, rfl, hb9, HRA⟩ := hRR.opened
        clear hRR
        generalize Kn.runT (quesT SZ N false) 10 1000 = k at *
        have hbel := HB1.out.trans ((B4.out.trans (hb9.mono B4.out.size)).mono hz1)
        have HBE := Lib.hid (hbel.alloc hbel.size (.cells #[.slice P9 pn pc, .slice Q9 qn qc, .slice R9 rn rc, .int .i64 k.ticks, .int .i64 k.ops] 36))
        have HC := Lib.hid (HRA.out.conv _ ((Below.refl w9.heap.size w9).alloc (Nat.le_refl _) (.cells #[.slice P9 pn pc, .slice Q9 qn qc, .slice R9 rn rc, .int .i64 k.ticks, .int .i64 k.ops] 36)))
        clear hb9 hbel 
        have hq := HRA.out.tlen
        have hl2 := congrArg List.length HST.out
        rw [List.length_map] at hl2
        have hqn : qn = 2 := by rw [hq, hl2]; rfl
        subst hqn
        have HR2 := HRA.out.tasks _ ((Below.refl w9.heap.size w9).alloc (Nat.le_refl _) (.cells #[.slice P9 pn pc, .slice Q9 2 qc, .slice R9 rn rc, .int .i64 k.ticks, .int .i64 k.ops] 36))
        rw [HST.out] at HR2
        obtain ⟨ad, rfl, hab, hac⟩ := HR2.intAt (k := 0) (by decide)
        obtain ⟨ad2, eA, hab2, hac2⟩ := HR2.intAt (k := 1) (by decide)
        injection eA with eA
        subst eA
        have hz9 : ad.add 0 = ad := by cases ad; rfl
        rw [hz9] at hac
        have hac' : (w9.alloc (.cells #[.slice P9 pn pc, .slice (some ad) 2 qc, .slice R9 rn rc, .int .i64 k.ticks, .int .i64 k.ops] 36)).cell? ad = some (.int .i64 2) := hac
        have hac2' : (w9.alloc (.cells #[.slice P9 pn pc, .slice (some ad) 2 qc, .slice R9 rn rc, .int .i64 k.ticks, .int .i64 k.ops] 36)).cell? (ad.add 1) = some (.int .i64 2) := hac2
        have e1 : ad.add 1 = ⟨ad.block, ad.off + 1, none⟩ := rfl
        rw [e1] at hac2'
        have hac3 : w9.cell? ⟨ad.block, ad.off + 1, none⟩ = some (.int .i64 2) := by rw [← hac2']; exact (World.cell?_alloc_lt w9 _ ⟨ad.block, ad.off + 1, none⟩ hab2).symm
        clear hac hac2 HR2 hl2 hq e1
        have HC2 := HC.out
        rw [HU.out, show (⟨((List.range N).map fun i => UInt8.ofNat (97 + i)).toArray⟩ : ByteArray) = lettersB N from rfl] at HC2
        go_wp2_with (first | (go_at_call 23; refine (num_any _ _).mono ?_; rintro e w3 ⟨rfl, rfl⟩))
        go_ret
        exact ⟨rfl, HBE.out⟩
      · skip
        have hne1 : w1.heap.size + 1 ≠ w1.heap.size := Nat.succ_ne_self _
        have hne2 : w1.heap.size ≠ w1.heap.size + 1 := Nat.ne_of_lt (Nat.lt_succ_self _)
        have O1 := HO.out.prio (.int .i64 5)
        have Q1 := HQ.out.far (i := 0) (u := .int .i64 5) HO.out.blk hne1
        have O2 := O1.far (i := 0) (u := .int .i64 6) Q1.blk hne2
        have Q2 := Q1.prio (.int .i64 6)
        have B2 := (HBX.out.setCell (p := ⟨w1.heap.size, 0, none⟩) (Nat.le_refl _) (.int .i64 5)).setCell (p := ⟨w1.heap.size + 1, 0, none⟩) (Nat.le_succ _) (.int .i64 6)
        replace O2 := O2.far (i := 0) (u := .int .i64 4) Q2.blk hne2
        replace Q2 := Q2.prio (.int .i64 4)
        replace B2 := B2.setCell (p := ⟨w1.heap.size + 1, 0, none⟩) (Nat.le_succ _) (.int .i64 4)
        have x0 := HO.out.blk.cell 0
        have xf := HO.out.blk.frozen 0
        have r0 := HQ.out.blk.cell 0
        have rf := HQ.out.blk.frozen 0
        simp only [List.getElem?_toArray, List.getElem?_cons_zero] at x0 r0
        have P1 := Lib.hid O2
        have P2 := Lib.hid Q2
        have P3 := Lib.hid B2
        clear O1 O2 Q1 Q2 B2
        go_upto_region 17 with fail
        generalize (((wr.setCell ⟨w1.heap.size, 0, none⟩ (.int .i64 5)).setCell ⟨w1.heap.size + 1, 0, none⟩ (.int .i64 6)).setCell ⟨w1.heap.size + 1, 0, none⟩ (.int .i64 4)) = WW at *
        clear x0 xf r0 rf
        have x0 := P1.out.blk.cell 0
        have x1 := P1.out.blk.cell 1
        have r0 := P2.out.blk.cell 0
        have r1 := P2.out.blk.cell 1
        have hxl := P1.out.blk.lt
        have hrl := P2.out.blk.lt
        simp only [List.getElem?_toArray, List.getElem?_cons_zero, List.getElem?_cons_succ] at x0 x1 r0 r1
        have L1 := Lib.hid (((P1.out.opsLie (p := 5) (Nat.le_trans HLS.out (by decide))).below ((Below.refl WW.heap.size WW).alloc (Nat.le_refl _) (.cells #[.int .i64 (SZ : Int)] 3))).below ((Below.refl _ (WW.alloc (.cells #[.int .i64 (SZ : Int)] 3))).alloc (Nat.le_refl _) (.cells #[.int .i64 5, .slice A1 ols.length c1, .int .i64 4, .slice A2 olr.length c2] 29)))
        have L2 := Lib.hid (((P2.out.opsLie (p := 4) (Nat.le_trans HLR.out (by decide))).below ((Below.refl WW.heap.size WW).alloc (Nat.le_refl _) (.cells #[.int .i64 (SZ : Int)] 3))).below ((Below.refl _ (WW.alloc (.cells #[.int .i64 (SZ : Int)] 3))).alloc (Nat.le_refl _) (.cells #[.int .i64 5, .slice A1 ols.length c1, .int .i64 4, .slice A2 olr.length c2] 29)))
        have HW2 := Whole.made (WW.alloc (.cells #[.int .i64 (SZ : Int)] 3)) 29 #[.int .i64 5, .slice A1 ols.length c1, .int .i64 4, .slice A2 olr.length c2]
        rw [World.size_alloc] at HW2
        have HW1 := Lib.hid ((Whole.made WW 3 #[.int .i64 (SZ : Int)]).alloc (.cells #[.int .i64 5, .slice A1 ols.length c1, .int .i64 4, .slice A2 olr.length c2] 29))
        replace HW2 := Lib.hid HW2
        have B4 := Lib.hid ((P3.out.alloc P3.out.size (.cells #[.int .i64 (SZ : Int)] 3)).alloc (P3.out.alloc P3.out.size (.cells #[.int .i64 (SZ : Int)] 3)).size (.cells #[.int .i64 5, .slice A1 ols.length c1, .int .i64 4, .slice A2 olr.length c2] 29))
        go_wp2_with fail
        refine (run_at (t := quesT SZ N true) (ticks := 10) (ops := 1000) rfl rfl rfl rfl rfl rfl ?tab HF.out (by omega) (by omega)).mono ?_
        case tab => exact TabRd.of_rows (l := [(⟨5, ols⟩, A1, c1), (⟨4, olr⟩, A2, c2)]) (Reads.of_whole (n := 2) (sz := 2) HW2.out HW2.out.lt rfl) (by rw [HOS.out, HOR.out]; rfl) (List.forall_mem_cons.2 ⟨L1.out.reads, List.forall_mem_cons.2 ⟨L2.out.reads, fun _ h => by cases h⟩⟩) (Reads.nil _) (Reads.of_whole (n := 1) (sz := 1) HW1.out HW1.out.lt rfl) (by show (2 : Nat) ≤ maxLen; unfold maxLen; decide) (Nat.zero_le _) (by show (1 : Nat) ≤ maxLen; unfold maxLen; decide)
        rintro e w9 hRR
        obtain ⟨P9, Q9, R9, pn, pc, qn, qc, rn, rc, rfl, hb9, HRA⟩ := hRR.opened
        clear hRR
        generalize Kn.runT (quesT SZ N true) 10 1000 = k at *
        have hbel := HB1.out.trans ((B4.out.trans (hb9.mono B4.out.size)).mono hz1)
        have HBE := Lib.hid (hbel.alloc hbel.size (.cells #[.slice P9 pn pc, .slice Q9 qn qc, .slice R9 rn rc, .int .i64 k.ticks, .int .i64 k.ops] 36))
        have HC := Lib.hid (HRA.out.conv _ ((Below.refl w9.heap.size w9).alloc (Nat.le_refl _) (.cells #[.slice P9 pn pc, .slice Q9 qn qc, .slice R9 rn rc, .int .i64 k.ticks, .int .i64 k.ops] 36)))
        clear hb9 hbel 
        have hq := HRA.out.tlen
        have hl2 := congrArg List.length HST.out
        rw [List.length_map] at hl2
        have hqn : qn = 2 := by rw [hq, hl2]; rfl
        subst hqn
        have HR2 := HRA.out.tasks _ ((Below.refl w9.heap.size w9).alloc (Nat.le_refl _) (.cells #[.slice P9 pn pc, .slice Q9 2 qc, .slice R9 rn rc, .int .i64 k.ticks, .int .i64 k.ops] 36))
        rw [HST.out] at HR2
        obtain ⟨ad, rfl, hab, hac⟩ := HR2.intAt (k := 0) (by decide)
        obtain ⟨ad2, eA, hab2, hac2⟩ := HR2.intAt (k := 1) (by decide)
        injection eA with eA
        subst eA
        have hz9 : ad.add 0 = ad := by cases ad; rfl
        rw [hz9] at hac
        have hac' : (w9.alloc (.cells #[.slice P9 pn pc, .slice (some ad) 2 qc, .slice R9 rn rc, .int .i64 k.ticks, .int .i64 k.ops] 36)).cell? ad = some (.int .i64 2) := hac
        have hac2' : (w9.alloc (.cells #[.slice P9 pn pc, .slice (some ad) 2 qc, .slice R9 rn rc, .int .i64 k.ticks, .int .i64 k.ops] 36)).cell? (ad.add 1) = some (.int .i64 2) := hac2
        have e1 : ad.add 1 = ⟨ad.block, ad.off + 1, none⟩ := rfl
        rw [e1] at hac2'
        have hac3 : w9.cell? ⟨ad.block, ad.off + 1, none⟩ = some (.int .i64 2) := by rw [← hac2']; exact (World.cell?_alloc_lt w9 _ ⟨ad.block, ad.off + 1, none⟩ hab2).symm
        clear hac hac2 HR2 hl2 hq e1
        have HC2 := HC.out
        rw [HU.out, show (⟨((List.range N).map fun i => UInt8.ofNat (97 + i)).toArray⟩ : ByteArray) = lettersB N from rfl] at HC2
        go_wp2_with (first | (go_at_call 23; refine (num_any _ _).mono ?_; rintro e w3 ⟨rfl, rfl⟩))
        go_ret
        exact ⟨rfl, HBE.out⟩
end Go.Proofs.Ytncbgnpoffolcaa
