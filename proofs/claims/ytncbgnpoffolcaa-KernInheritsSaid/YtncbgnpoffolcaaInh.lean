/-
  KernInherits: the walk of the law.
-/
import Derived.Test.YtncbgnpoffolcaaWn
import Derived.Test.YtncbgnpoffolcaaSb
import Derived.Test.YtncbgnpoffolcaaTg
import Derived.Test.YtncbgnpoffolcaaInhP
namespace Go.Proofs.Ytncbgnpoffolcaa
open Go.RowKit
def inhB (low mid high : Int) : List Kn.Task := [⟨low, [⟨5, 0, 0⟩, ⟨2, 1, 0⟩, ⟨0, 108, 0⟩, ⟨6, 0, 0⟩, ⟨0, 122, 0⟩]⟩, ⟨mid, [⟨2, 1, 0⟩, ⟨0, 109, 0⟩]⟩, ⟨high, [⟨2, 1, 0⟩, ⟨5, 0, 0⟩, ⟨0, 104, 0⟩]⟩]
def inhRs (low mid high : Int) (g1 g2 g3 : Nat) : List (Kn.Task × Option Addr × Nat) := [(⟨low, [⟨5, 0, 0⟩, ⟨2, 1, 0⟩, ⟨0, 108, 0⟩, ⟨6, 0, 0⟩, ⟨0, 122, 0⟩]⟩, some ⟨g1, 0, none⟩, 5), (⟨mid, [⟨2, 1, 0⟩, ⟨0, 109, 0⟩]⟩, some ⟨g2, 0, none⟩, 2), (⟨high, [⟨2, 1, 0⟩, ⟨5, 0, 0⟩, ⟨0, 104, 0⟩]⟩, some ⟨g3, 0, none⟩, 3)]
theorem inh_tg {w0 wn : World} {low mid high : Int} {g1 g2 g3 : Nat} (h : Hs w0 wn [(g3, 32, #[.int .i64 2, .int .i64 1, .int .i64 0, .int .i64 5, .int .i64 0, .int .i64 0, .int .i64 0, .int .i64 104, .int .i64 0]), (g2, 32, #[.int .i64 2, .int .i64 1, .int .i64 0, .int .i64 0, .int .i64 109, .int .i64 0]), (g1, 32, #[.int .i64 5, .int .i64 0, .int .i64 0, .int .i64 2, .int .i64 1, .int .i64 0, .int .i64 0, .int .i64 108, .int .i64 0, .int .i64 6, .int .i64 0, .int .i64 0, .int .i64 0, .int .i64 122, .int .i64 0])]) :
    TG w0 (wn.heap.size + 1) wn.heap.size ((wn.alloc (.cells #[.int .i64 low, .slice (some ⟨g1, 0, none⟩) 5 5, .int .i64 mid, .slice (some ⟨g2, 0, none⟩) 2 2, .int .i64 high, .slice (some ⟨g3, 0, none⟩) 3 3] 29)).alloc (.cells #[.slice (some ⟨wn.heap.size, 0, none⟩) 3 3, .slice none 0 0, .int .i64 2, .slice none 0 0] 26))
      (.slice (some ⟨wn.heap.size, 0, none⟩) 3 3) (.slice none 0 0) (.slice none 0 0) 2 (inhRs low mid high g1 g2 g3) := by
  have h3 := ((h.alloc #[.int .i64 low, .slice (some ⟨g1, 0, none⟩) 5 5, .int .i64 mid, .slice (some ⟨g2, 0, none⟩) 2 2, .int .i64 high, .slice (some ⟨g3, 0, none⟩) 3 3] 29).alloc_at #[.slice (some ⟨wn.heap.size, 0, none⟩) 3 3, .slice none 0 0, .int .i64 2, .slice none 0 0] 26 (World.size_alloc _ _))
  have hz := h.bel.size
  refine TG.of_whole (l := inhRs low mid high g1 g2 g3) (h3.whole (.head _)) (h3.whole (.tail _ (.head _))) (by show (3 : Nat) ≤ 1000; omega) ?_ h3.bel hz (by omega)
  refine List.forall_mem_cons.2 ⟨.of_whole (Nat.le_of_ble_eq_true rfl) rfl (h3.whole (.tail _ (.tail _ (.tail _ (.tail _ (.head _)))))), List.forall_mem_cons.2 ⟨.of_whole (Nat.le_of_ble_eq_true rfl) rfl (h3.whole (.tail _ (.tail _ (.tail _ (.head _))))), List.forall_mem_cons.2 ⟨.of_whole (Nat.le_of_ble_eq_true rfl) rfl (h3.whole (.tail _ (.tail _ (.head _)))), fun _ h => by cases h⟩⟩⟩
set_option maxRecDepth 100000 in
set_option maxHeartbeats 16000000 in
theorem kernInherits_any (a b c : Int) (f : Bool) (w : World) : Calls Try.prog 9 #[.int .i64 a, .int .i64 b, .int .i64 c, .bool f] w fun r w' => r = .returned (.bool true) ∧ Below w.heap.size w w' := by
  obtain ⟨i0, hi, iz0, iz1, iz2⟩ := info_parts info29
  by_cases b0 : c < 1
  · as_aux_lemma =>
      go_enter Try.func9, Try.ntmps9
      go_wp2_with fail
      refine (alive_any w).mono ?_
      rintro e w1 ⟨rfl, hb1⟩
      go_wp2_with fail
      go_ret
      exact ⟨rfl, hb1⟩
  by_cases b1 : b ≤ c
  · as_aux_lemma =>
      go_enter Try.func9, Try.ntmps9
      go_wp2_with fail
      refine (alive_any w).mono ?_
      rintro e w1 ⟨rfl, hb1⟩
      go_wp2_with fail
      go_ret
      exact ⟨rfl, hb1⟩
  by_cases b2 : a ≤ b
  · as_aux_lemma =>
      go_enter Try.func9, Try.ntmps9
      go_wp2_with fail
      refine (alive_any w).mono ?_
      rintro e w1 ⟨rfl, hb1⟩
      go_wp2_with fail
      go_ret
      exact ⟨rfl, hb1⟩
  by_cases b3 : 31 < a
  · as_aux_lemma =>
      go_enter Try.func9, Try.ntmps9
      go_wp2_with fail
      refine (alive_any w).mono ?_
      rintro e w1 ⟨rfl, hb1⟩
      go_wp2_with fail
      go_ret
      exact ⟨rfl, hb1⟩
  obtain ⟨low, rfl⟩ : ∃ N : Nat, a = N := ⟨a.toNat, by omega⟩
  obtain ⟨mid, rfl⟩ : ∃ N : Nat, b = N := ⟨b.toNat, by omega⟩
  obtain ⟨high, rfl⟩ : ∃ N : Nat, c = N := ⟨c.toNat, by omega⟩
  have hf := Lib.hid (inh_fits (low := low) (mid := mid) (high := high) (chain := f) (by omega) (by omega) (by omega) (by omega))
  have hout := Lib.hid (inh_run (low := low) (mid := mid) (high := high) (chain := f) (by omega) (by omega) (by omega) (by omega))
  go_enter Try.func9, Try.ntmps9
  go_wp2_with fail
  refine (alive_any w).mono ?_
  rintro e w1 ⟨rfl, hb1⟩
  have HB1 := Lib.hid hb1
  have hz1 := hb1.size
  clear hb1
  have HH := Lib.hid (Hs.nil (Below.refl w1.heap.size w1))
  go_upto_region 5 with (first | (go_at_call 21; refine (o_any _ _ _ _).mono ?_; rintro e wn ⟨rfl, hb⟩; (first | replace HH := Lib.hid (HH.out.call0 hb) | replace HH := Lib.hid (HH.out.call1 hb)); (clear hb)) | (go_at_call 20; refine (t_any _ _ _ _ _).mono ?_; rintro e wn ⟨rfl, hb⟩; (replace HH := Lib.hid (HH.out.call1 hb)); (clear hb)))
  obtain ⟨wr, rs, hWW, hrs, hrl, hT⟩ : ∃ WW, ∃ rs : List (Kn.Task × Option Addr × Nat), WW = _ ∧ rs.map (·.1) = inhB low mid high ∧ rs.length = 3 ∧ TG w1 (wn.heap.size + 1) wn.heap.size WW (.slice (some ⟨wn.heap.size, 0, none⟩) 3 3) (.slice none 0 0) (.slice none 0 0) 2 rs := ⟨_, inhRs _ _ _ _ _ _, rfl, rfl, rfl, inh_tg HH.out⟩
  rw [← hWW]
  clear hWW HH
  have HS := Lib.hid hrs
  clear hrs
  obtain ⟨V, hV⟩ : ∃ V : Value, V = .slice (some ⟨wn.heap.size, 0, none⟩) 3 3 := ⟨_, rfl⟩
  cases f
  · skip
    have k0 := hT.blk.cell 0
    have k1 := hT.blk.cell 1
    have k2 := hT.blk.cell 2
    have k3 := hT.blk.cell 3
    have kf := hT.blk.frozen 0
    have hlt4 := hT.blk.lt
    simp only [List.getElem?_toArray, List.getElem?_cons_zero, List.getElem?_cons_succ] at k0 k1 k2 k3
    have BT := Lib.hid (hT).bel
    go_wp2_with fail
    refine (run_at (t := inhT low mid high false) (ticks := 100) (ops := 1000) rfl rfl rfl rfl rfl rfl ?tab hf.out (by omega) (by omega)).mono ?_
    case tab => exact ((hT).tab (t := inhT low mid high false) ((show _ = inhB low mid high ++ [] from List.append_nil _).trans (by rw [List.append_nil]; exact HS.out.symm)) (Reads.nil _) (Reads.nil _) (by omega) (Nat.zero_le _) (Nat.zero_le _)).1
    rintro e w9 hRR
    obtain ⟨P9, Q9, R9, pn, pc, qn, qc, rn, rc, rfl, hb9, HRA⟩ := hRR.opened
    clear hRR
    generalize Kn.runT (inhT low mid high false) 100 1000 = k at *
    have hbel := HB1.out.trans ((BT.out.trans (hb9.mono BT.out.size)).mono hz1)
    have HBE := Lib.hid (hbel.alloc hbel.size (.cells #[.slice P9 pn pc, .slice Q9 qn qc, .slice R9 rn rc, .int .i64 k.ticks, .int .i64 k.ops] 36))
    have HC := Lib.hid (HRA.out.conv _ ((Below.refl w9.heap.size w9).alloc (Nat.le_refl _) (.cells #[.slice P9 pn pc, .slice Q9 qn qc, .slice R9 rn rc, .int .i64 k.ticks, .int .i64 k.ops] 36)))
    clear hb9 hbel 
    have HC2 := HC.out
    rw [hout.out] at HC2
    go_wp2_with (first | (go_at_call 23; refine (num_any _ _).mono ?_; rintro e w3 ⟨rfl, rfl⟩))
    go_ret
    exact ⟨rfl, HBE.out⟩
  · rw [← hV] at hT
    have k0 := hT.blk.cell 0
    have k1 := hT.blk.frozen 0
    simp only [List.getElem?_toArray, List.getElem?_cons_zero] at k0
    have htb := hT.blk.lt
    have HT := Lib.hid hT
    clear hT hV
    go_wp2_with fail
    have hl0 : Addr.block (⟨wn.heap.size + 1, 0, none⟩) < wr.heap.size := htb
    refine wp_region_need (S := fun w' => w'.cell? (⟨wn.heap.size + 1, 0, none⟩) = some (V)) (need := fun i => i != 9) 10 #[false, false, false, false, false, false, false, false, false, false] (by rfl) (by rfl) (by kernel_rfl) ?_ (fun hHeld => ?_)
    · (try dsimp only)
      exact k0
    refine wpAnyN_take (i := 0) (v := ?_) (listed' := #[true, false, false, false, false, false, false, false, false, false]) rfl (by kernel_rfl) (by kernel_rfl) (by kernel_rfl) (by rfl) (fun _ _ _ h => h) (Or.inl ⟨by rfl, ?_⟩) (by assumption) ?_
    rotate_left
    · intro w hSw
      (try dsimp only at hSw)
      go_simp
      with_reducible rfl
    try simp only [Act.put, List.getElem_toArray, List.getElem_cons_zero, List.setIfInBounds_toArray, List.set_cons_zero, List.set_cons_succ]
    refine wpAnyN_take (i := 1) (v := ?_) (listed' := #[true, true, false, false, false, false, false, false, false, false]) rfl (by kernel_rfl) (by kernel_rfl) (by kernel_rfl) (by rfl) (fun _ _ _ h => h) (Or.inl ⟨by rfl, ?_⟩) (by assumption) ?_
    rotate_left
    · intro w hSw
      (try dsimp only at hSw)
      go_simp
      with_reducible rfl
    try simp only [Act.put, List.getElem_toArray, List.getElem_cons_zero, List.getElem_cons_succ, List.setIfInBounds_toArray, List.set_cons_zero, List.set_cons_succ]
    refine wpAnyN_take (i := 2) (v := ?_) (listed' := #[true, true, true, false, false, false, false, false, false, false]) rfl (by kernel_rfl) (by kernel_rfl) (by kernel_rfl) (by rfl) (fun _ _ _ h => h) (Or.inl ⟨by rfl, ?_⟩) (by assumption) ?_
    rotate_left
    · intro w hSw
      (try dsimp only at hSw)
      go_simp
      with_reducible rfl
    try simp only [Act.put, List.getElem_toArray, List.getElem_cons_zero, List.getElem_cons_succ, List.setIfInBounds_toArray, List.set_cons_zero, List.set_cons_succ]
    refine wpAnyN_step (i := 3) (listed' := #[true, true, true, true, false, false, false, false, false, false]) (by kernel_rfl) rfl (by rfl) (fun K hK => ?_)
    refine step_o (by rfl) _ _ _ (by rfl) (5) (1) (0) (by rfl) (by rfl) (by rfl) ?_
    intro wo0 hb0
    have hz0' : wr.heap.size ≤ wo0.heap.size := hb0.size
    have T0' := Lib.hid ((HT.out.keep (Below.drew (Below.refl _ _))).keep hb0)
    have hT0' := T0'.out.blk.lt
    refine hK.out _ _ ?_ (fun hHeld => ?_)
    · (try dsimp only)
      exact fun _ => (hb0.cell (p := ⟨wn.heap.size + 1, 0, none⟩) hl0).trans hHeld
    clear hK K
    replace hHeld := hHeld rfl
    try simp only [Act.put, List.getElem_toArray, List.getElem_cons_zero, List.getElem_cons_succ, List.setIfInBounds_toArray, List.set_cons_zero, List.set_cons_succ]
    replace hl0 := Nat.lt_of_lt_of_le hl0 hz0'
    refine wpAnyN_step (i := 4) (listed' := #[true, true, true, true, true, false, false, false, false, false]) (by kernel_rfl) rfl (by rfl) (fun K hK => ?_)
    refine step_ops1 (by rfl) _ (by rfl) (5) (1) (0) (by rfl) ?_
    refine hK.out _ _ ?_ (fun hHeld => ?_)
    · (try dsimp only)
      exact fun _ => (World.cell?_alloc_lt _ _ _ hl0).trans hHeld
    clear hK K
    replace hHeld := hHeld rfl
    try simp only [Act.put, List.getElem_toArray, List.getElem_cons_zero, List.getElem_cons_succ, List.setIfInBounds_toArray, List.set_cons_zero, List.set_cons_succ]
    refine wpAnyN_step (i := 5) (listed' := #[true, true, true, true, true, true, false, false, false, false]) (by kernel_rfl) rfl (by rfl) (fun K hK => ?_)
    refine step_t (by rfl) _ _ (by rfl) ((high : Int)) (some ⟨wo0.heap.size, 0, none⟩) 1 1 (by rfl) (by rfl) ?_
    intro wT hbt
    have hzT := hbt.size
    have T3 := ((T0'.out).keep ((Below.refl _ _).alloc (Nat.le_refl _) _)).keep hbt
    have X3 : OpsLie wT ((⟨(high : Int), [⟨5, 1, 0⟩]⟩ : Kn.Task), some ⟨wo0.heap.size, 0, none⟩, 1) := by (have h9 := (Whole.made wo0 32 #[.int .i64 (5), .int .i64 (1), .int .i64 (0)]).same (hbt.block _ (by simp))); exact .of_whole (Nat.le_of_ble_eq_true rfl) rfl h9
    have T4 := Lib.hid (T3.keep ((Below.refl wT.heap.size wT).alloc (Nat.le_refl _) (.cells #[.int .i64 ((high : Int)), .slice (some ⟨wo0.heap.size, 0, none⟩) 1 1] 29)))
    have X4 := Lib.hid (X3.below ((Below.refl wT.heap.size wT).alloc (Nat.le_refl _) (.cells #[.int .i64 ((high : Int)), .slice (some ⟨wo0.heap.size, 0, none⟩) 1 1] 29)))
    simp only [World.size_alloc] at hzT
    have h3 := T3.blk.lt
    clear T3 X3 T0'
    refine hK.out _ _ ?_ (fun hHeld => ?_)
    · (try dsimp only)
      exact fun _ => (hbt.cell (p := ⟨wn.heap.size + 1, 0, none⟩) (lt_alloc hl0 _)).trans hHeld
    clear hK K
    replace hHeld := hHeld rfl
    try simp only [Act.put, List.getElem_toArray, List.getElem_cons_zero, List.getElem_cons_succ, List.setIfInBounds_toArray, List.set_cons_zero, List.set_cons_succ]
    replace hl0 := Nat.lt_of_lt_of_le (lt_alloc hl0 _) hbt.size
    refine wpAnyN_step (i := 6) (listed' := #[true, true, true, true, true, true, true, false, false, false]) (by kernel_rfl) rfl (by rfl) (fun K hK => ?_)
    refine step_task1 (by rfl) _ (by rfl) ((high : Int)) (some ⟨wo0.heap.size, 0, none⟩) 1 1 (by rfl) ?_
    refine hK.out _ _ ?_ (fun hHeld => ?_)
    · (try dsimp only)
      exact fun _ => (World.cell?_alloc_lt _ _ _ hl0).trans hHeld
    clear hK K
    replace hHeld := hHeld rfl
    try simp only [Act.put, List.getElem_toArray, List.getElem_cons_zero, List.getElem_cons_succ, List.setIfInBounds_toArray, List.set_cons_zero, List.set_cons_succ]
    refine wpAnyN_step (i := 7) (listed' := #[true, true, true, true, true, true, true, true, false, false]) (by kernel_rfl) rfl (by rfl) (fun K hK => ?_)
    refine step_append_lies _ (by rfl) _ _ _ (by rfl) (wn.heap.size) 29 i0 _ 2 32 Try.underlying23 hi iz0 iz1 iz2 rfl (by omega) V rs.length (tkC rs) (by rfl) T4.out.row ⟨wT.heap.size, 0, none⟩ 1 1 [.int .i64 ((high : Int)), .slice (some ⟨wo0.heap.size, 0, none⟩) 1 1] (by rfl) (by rfl) (World.news_of_block (cs := #[.int .i64 ((high : Int)), .slice (some ⟨wo0.heap.size, 0, none⟩) 1 1]) (t := 29) (fr := (0, 0)) (heap_alloc_new _ _)) (by simp [Value.oneCell']) (by omega) (by unfold maxLen; omega) (by omega) (by simp; omega) (wT.heap.size + 1) (by simp) ?_
    intro gg cap w5 hown hgrow hat hlt5
    have hVlt := T4.out.row.lt
    have y := T4.out.blk.grown hgrow (own_block T4.out.row T4.out.blk (by decide))
    have y0 := y.cell 0
    have y1 := y.frozen 0
    simp only [List.getElem?_toArray, List.getElem?_cons_zero] at y0
    have TP := Lib.hid (T4.out.push (x := ((⟨(high : Int), [⟨5, 1, 0⟩]⟩ : Kn.Task), some ⟨wo0.heap.size, 0, none⟩, 1)) X4.out (by exact hown) hgrow)
    simp only [hrl] at TP
    clear y hown hat
    refine hK.out _ _ ?_ (fun hHeld => ?_)
    · (try dsimp only)
      exact fun _ => (hgrow.cell_far (⟨wn.heap.size + 1, 0, none⟩) (lt_alloc hl0 _) (fun e => own_block T4.out.row T4.out.blk (by decide) e.symm)).trans hHeld
    clear hK K
    replace hHeld := hHeld rfl
    try simp only [Act.put, List.getElem_toArray, List.getElem_cons_zero, List.getElem_cons_succ, List.setIfInBounds_toArray, List.set_cons_zero, List.set_cons_succ]
    refine wpAnyN_take (i := 8) (v := ?_) (listed' := #[true, true, true, true, true, true, true, true, true, false]) rfl (by kernel_rfl) (by kernel_rfl) (by kernel_rfl) (by rfl) (fun _ _ _ h => h) (Or.inl ⟨by rfl, ?_⟩) (by assumption) ?_
    rotate_left
    · intro w hSw
      (try dsimp only at hSw)
      go_simp
      with_reducible rfl
    try simp only [Act.put, List.getElem_toArray, List.getElem_cons_zero, List.getElem_cons_succ, List.setIfInBounds_toArray, List.set_cons_zero, List.set_cons_succ]
    refine wpAnyN_step (i := 9) (listed' := #[true, true, true, true, true, true, true, true, true, true]) (by kernel_rfl) rfl (by rfl) (fun K hK => ?_)
    refine step_store23 (by rfl) _ _ (by rfl) (by rfl) (by rfl) y0 y1 ?_
    refine hK.out _ _ ?_ (fun hHeld => ?_)
    · exact fun h => absurd h (by decide)
    clear hK K
    try simp only [Act.put, List.getElem_toArray, List.getElem_cons_zero, List.getElem_cons_succ]
    refine wpAnyN_done (by kernel_rfl) ?_ _
    have HS2 := Lib.hid (show (rs ++ [((⟨(high : Int), [⟨5, 1, 0⟩]⟩ : Kn.Task), (some ⟨wo0.heap.size, 0, none⟩ : Option Addr), (1 : Nat))]).map (·.1) = inhB low mid high ++ [⟨(high : Int), [⟨5, 1, 0⟩]⟩] by rw [List.map_append, HS.out]; rfl)
    rw [hrl]
    generalize hwv : w5.setCell ⟨wn.heap.size + 1, 0, none⟩ (.slice (some ⟨gg, 0, none⟩) (3 + 1) cap) = wv at *
    clear hwv
    skip
    have k0 := TP.out.blk.cell 0
    have k1 := TP.out.blk.cell 1
    have k2 := TP.out.blk.cell 2
    have k3 := TP.out.blk.cell 3
    have kf := TP.out.blk.frozen 0
    have hlt4 := TP.out.blk.lt
    simp only [List.getElem?_toArray, List.getElem?_cons_zero, List.getElem?_cons_succ] at k0 k1 k2 k3
    have BT := Lib.hid (TP.out).bel
    go_wp2_with fail
    refine (run_at (t := inhT low mid high true) (ticks := 100) (ops := 1000) rfl rfl rfl rfl rfl rfl ?tab hf.out (by omega) (by omega)).mono ?_
    case tab => exact ((TP.out).tab (t := inhT low mid high true) (HS2.out.symm) (Reads.nil _) (Reads.nil _) (by rw [List.length_append]; show rs.length + 1 ≤ 1000; omega) (Nat.zero_le _) (Nat.zero_le _)).1
    rintro e w9 hRR
    obtain ⟨P9, Q9, R9, pn, pc, qn, qc, rn, rc, rfl, hb9, HRA⟩ := hRR.opened
    clear hRR
    generalize Kn.runT (inhT low mid high true) 100 1000 = k at *
    have hbel := HB1.out.trans ((BT.out.trans (hb9.mono BT.out.size)).mono hz1)
    have HBE := Lib.hid (hbel.alloc hbel.size (.cells #[.slice P9 pn pc, .slice Q9 qn qc, .slice R9 rn rc, .int .i64 k.ticks, .int .i64 k.ops] 36))
    have HC := Lib.hid (HRA.out.conv _ ((Below.refl w9.heap.size w9).alloc (Nat.le_refl _) (.cells #[.slice P9 pn pc, .slice Q9 qn qc, .slice R9 rn rc, .int .i64 k.ticks, .int .i64 k.ops] 36)))
    clear hb9 hbel 
    have HC2 := HC.out
    rw [hout.out] at HC2
    go_wp2_with (first | (go_at_call 23; refine (num_any _ _).mono ?_; rintro e w3 ⟨rfl, rfl⟩))
    go_ret
    exact ⟨rfl, HBE.out⟩
end Go.Proofs.Ytncbgnpoffolcaa
