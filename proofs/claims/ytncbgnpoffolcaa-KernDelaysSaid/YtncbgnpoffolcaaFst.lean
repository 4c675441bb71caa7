/-
  KernFirst: the walk of the law.
-/
import Derived.Test.YtncbgnpoffolcaaWn
namespace Go.Proofs.Ytncbgnpoffolcaa
open Go.RowKit
def fstW (l : List Int) (n q i : Nat) : ByteArray := ⟨(((List.range q).flatMap (Kn.rowOf (prOf l) n) ++ Kn.rowOf (prOf l) i q).map Kn.byt).toArray⟩
theorem rowOf_len (pr : Nat → Int) (n y : Nat) : (Kn.rowOf pr n y).length ≤ n := by
  unfold Kn.rowOf
  rw [List.length_map]
  exact Nat.le_trans (List.length_filter_le _ _) (by simp)
theorem flat_len_le {α : Type} (f : Nat → List α) {b : Nat} (h : ∀ y, (f y).length ≤ b) : ∀ q, ((List.range q).flatMap f).length ≤ q * b
  | 0 => Nat.zero_le _
  | q + 1 => by
    rw [List.range_succ, List.flatMap_append, List.length_append]
    have := flat_len_le f h q
    have := h q
    have : (List.flatMap f [q]).length = (f q).length := by simp
    have : (q + 1) * b = q * b + b := Nat.succ_mul q b
    omega
theorem fstW_next (l : List Int) (n q : Nat) : fstW l n (q + 1) 0 = fstW l n q n := by
  unfold fstW
  rw [List.range_succ, List.flatMap_append, show Kn.rowOf (prOf l) 0 (q + 1) = [] from rfl, List.append_nil]
  simp
theorem fstW_end (l : List Int) (n : Nat) : fstW l n 32 0 = ⟨((Kn.order (Kn.rowOf (prOf l) n)).map Kn.byt).toArray⟩ := by
  unfold fstW Kn.order
  rw [show Kn.rowOf (prOf l) 0 32 = [] from rfl, List.append_nil]
theorem fstW_push {l : List Int} {n q i : Nat} (hq : q ≤ 32) (hn : n ≤ 26) (hi : i ≤ 26) (h : Kn.rowOf (prOf l) (i + 1) q = Kn.rowOf (prOf l) i q ++ [(i : Int)]) : fstW l n q i ++ ⟨#[UInt8.ofNat (97 + i)]⟩ = fstW l n q (i + 1) ∧ ((fstW l n q i).size : Int) ≤ 10000 := by
  refine ⟨?_, ?_⟩
  · unfold fstW
    rw [want_push, h, List.append_assoc]
  · have h1 := flat_len_le (Kn.rowOf (prOf l) n) (b := n) (rowOf_len _ _) q
    have h2 := rowOf_len (prOf l) i q
    have h3 : q * n ≤ 32 * 26 := Nat.mul_le_mul hq hn
    show ((Array.size _ : Nat) : Int) ≤ _
    simp only [List.size_toArray, List.length_map, List.length_append]
    omega
theorem first_fits {pr : Nat → Int} {n : Nat} (h1 : 1 ≤ n) (h2 : n ≤ 26) (hp : ∀ i, i < n → 0 ≤ pr i ∧ pr i ≤ 31) : (Kn.firstT pr n).fits = true := by
  unfold Kn.Table.fits Kn.firstT
  simp only [Bool.and_eq_true, decide_eq_true_eq, List.all_eq_true, List.length_map, List.length_range]
  refine ⟨⟨⟨by simp; omega, by simp⟩, by simp⟩, ?_⟩
  intro x hx
  obtain ⟨i, hi, rfl⟩ := List.mem_map.1 hx
  have := hp i (List.mem_range.1 hi)
  have := List.mem_range.1 hi
  simp [Kn.firstF, Kn.Task.fits, Kn.opsFit, Kn.Op.fits, Kn.bounds]
  omega
set_option maxRecDepth 100000 in
set_option maxHeartbeats 8000000 in
theorem kernFirst_any {l : List Int} {A : Option Addr} {c : Nat} {w : World} (hr : Reads w w.heap.size 1 A l.length (intV l)) : Calls Try.prog 7 #[.slice A l.length c] w fun r w' => r = .returned (.bool true) ∧ Below w.heap.size w w' := by
  have HR := Lib.hid hr
  clear hr
  obtain ⟨i0, hi, iz0, iz1, iz2⟩ := info_parts info29
  by_cases b0 : (l.length : Int) < 1
  · as_aux_lemma =>
      go_enter Try.func7, Try.ntmps7
      go_wp2_with fail
      refine (alive_any w).mono ?_
      rintro e w1 ⟨rfl, hb1⟩
      go_wp2_with fail
      go_ret
      exact ⟨rfl, hb1⟩
  by_cases b1 : 26 < (l.length : Int)
  · as_aux_lemma =>
      go_enter Try.func7, Try.ntmps7
      go_wp2_with fail
      refine (alive_any w).mono ?_
      rintro e w1 ⟨rfl, hb1⟩
      go_wp2_with fail
      go_ret
      exact ⟨rfl, hb1⟩
  obtain ⟨N, hN⟩ : ∃ N, N = l.length := ⟨_, rfl⟩
  rw [← hN] at b0 b1 HR ⊢
  have HN := Lib.hid hN
  clear hN
  go_enter Try.func7, Try.ntmps7
  go_wp2_with fail
  refine (alive_any w).mono ?_
  rintro e w1 ⟨rfl, hb1⟩
  have HB1 := Lib.hid hb1
  have hz1 := hb1.size
  clear hb1
  go_wp2_with fail
  have hnil := Lib.hid (TL.nil w1 (.slice none 0 0) (.slice none 0 0) 0)
  go_loopg [5] N (fun kk i wr => ∃ (j : Nat) (V : Value) (rs : List (Kn.Task × Option Addr × Nat)), j ≤ N ∧ i = .int .i64 j ∧ TL w1 wr V (.slice none 0 0) (.slice none 0 0) 0 rs ∧ rs.map (·.1) = (List.range j).map (Kn.firstF (prOf l)) ∧ (∀ i, i < j → 0 ≤ prOf l i ∧ prOf l i ≤ 31) ∧ N - j ≤ kk)
  case atStart => exact ⟨0, _, [], Nat.zero_le _, rfl, hnil.out, rfl, (by intro i hi; omega), by omega⟩
  case round =>
    obtain ⟨j, V, rs, hj, rfl, hT, hrs, hok, hkk⟩ := hrel
    by_cases hlt : j < N
    · have hlt' : (j : Int) < N := by omega
      have hll : j < l.length := by have := HN.out; omega
      have hrl : rs.length = j := by have := congrArg List.length hrs; simpa using this
      have hzr := hT.bel.size
      obtain ⟨ad, eA, hab, hac⟩ := ((HR.out.below HB1.out (Nat.le_refl _)).below (hT.bel.mono hz1) (Nat.le_refl _)).intAt' (HN.out) hll
      subst eA
      have E := Lib.hid (prOf_at hll)
      have k0 := hT.blk.cell 0
      have k1 := hT.blk.frozen 0
      simp only [List.getElem?_toArray, List.getElem?_cons_zero] at k0
      have habr : ad.block < wr.heap.size := by omega
      have htb := hT.blk.lt
      have HT := Lib.hid hT
      have HS := Lib.hid hrs
      have HOK := Lib.hid hok
      clear hT hrs hok
      generalize l[j] = v at *
      by_cases g0 : v < 0
      · as_aux_lemma =>
          go_wp2_with fail
          go_ret
          exact ⟨rfl, HB1.out.trans (HT.out.bel.mono hz1)⟩
      by_cases g1 : 31 < v
      · as_aux_lemma =>
          go_wp2_with fail
          go_ret
          exact ⟨rfl, HB1.out.trans (HT.out.bel.mono hz1)⟩
      have hadj : (ad.add j).block < wr.heap.size := by unfold Addr.add; split <;> exact habr
      have hadk : (ad.add j).block < w1.heap.size := by (have h9 : ad.block < w1.heap.size := by omega); unfold Addr.add; split <;> exact h9
      have hS0 := hac
      go_wp2_with fail
      refine wp_region_need (S := fun w' => w'.cell? (ad.add j) = some (.int .i64 v) ∧ w'.cell? (⟨w1.heap.size, 0, none⟩) = some (V)) (need := fun i => i != 14) 15 #[false, false, false, false, false, false, false, false, false, false, false, false, false, false, false] (by rfl) (by rfl) (by kernel_rfl) ?_ (fun hHeld => ?_)
      · (try dsimp only)
        exact ⟨hS0, k0⟩
      refine wpAnyN_take (i := 0) (v := ?_) (listed' := #[true, false, false, false, false, false, false, false, false, false, false, false, false, false, false]) rfl (by kernel_rfl) (by kernel_rfl) (by kernel_rfl) (by rfl) (fun _ _ _ h => h) (Or.inl ⟨by rfl, ?_⟩) (by assumption) ?_
      rotate_left
      · intro w hSw
        (try dsimp only at hSw)
        obtain ⟨hS0', hS1'⟩ := hSw
        go_simp
        with_reducible rfl
      try simp only [Act.put, List.getElem_toArray, List.getElem_cons_zero, List.setIfInBounds_toArray, List.set_cons_zero, List.set_cons_succ]
      refine wpAnyN_take (i := 1) (v := ?_) (listed' := #[true, true, false, false, false, false, false, false, false, false, false, false, false, false, false]) rfl (by kernel_rfl) (by kernel_rfl) (by kernel_rfl) (by rfl) (fun _ _ _ h => h) (Or.inl ⟨by rfl, ?_⟩) (by assumption) ?_
      rotate_left
      · intro w hSw
        (try dsimp only at hSw)
        obtain ⟨hS0', hS1'⟩ := hSw
        go_simp
        with_reducible rfl
      try simp only [Act.put, List.getElem_toArray, List.getElem_cons_zero, List.getElem_cons_succ, List.setIfInBounds_toArray, List.set_cons_zero, List.set_cons_succ]
      refine wpAnyN_take (i := 2) (v := ?_) (listed' := #[true, true, true, false, false, false, false, false, false, false, false, false, false, false, false]) rfl (by kernel_rfl) (by kernel_rfl) (by kernel_rfl) (by rfl) (fun _ _ _ h => h) (Or.inl ⟨by rfl, ?_⟩) (by assumption) ?_
      rotate_left
      · intro w hSw
        (try dsimp only at hSw)
        obtain ⟨hS0', hS1'⟩ := hSw
        go_simp
        with_reducible rfl
      try simp only [Act.put, List.getElem_toArray, List.getElem_cons_zero, List.getElem_cons_succ, List.setIfInBounds_toArray, List.set_cons_zero, List.set_cons_succ]
      refine wpAnyN_take (i := 3) (v := ?_) (listed' := #[true, true, true, true, false, false, false, false, false, false, false, false, false, false, false]) rfl (by kernel_rfl) (by kernel_rfl) (by kernel_rfl) (by rfl) (fun _ _ _ h => h) (Or.inl ⟨by rfl, ?_⟩) (by assumption) ?_
      rotate_left
      · intro w hSw
        (try dsimp only at hSw)
        obtain ⟨hS0', hS1'⟩ := hSw
        go_simp
        with_reducible rfl
      try simp only [Act.put, List.getElem_toArray, List.getElem_cons_zero, List.getElem_cons_succ, List.setIfInBounds_toArray, List.set_cons_zero, List.set_cons_succ]
      refine wpAnyN_take (i := 4) (v := ?_) (listed' := #[true, true, true, true, true, false, false, false, false, false, false, false, false, false, false]) rfl (by kernel_rfl) (by kernel_rfl) (by kernel_rfl) (by rfl) (fun _ _ _ h => h) (Or.inl ⟨by rfl, ?_⟩) (by assumption) ?_
      rotate_left
      · intro w hSw
        (try dsimp only at hSw)
        obtain ⟨hS0', hS1'⟩ := hSw
        go_simp
        with_reducible rfl
      try simp only [Act.put, List.getElem_toArray, List.getElem_cons_zero, List.getElem_cons_succ, List.setIfInBounds_toArray, List.set_cons_zero, List.set_cons_succ]
      refine wpAnyN_take (i := 5) (v := ?_) (listed' := #[true, true, true, true, true, true, false, false, false, false, false, false, false, false, false]) rfl (by kernel_rfl) (by kernel_rfl) (by kernel_rfl) (by rfl) (fun _ _ _ h => h) (Or.inl ⟨by rfl, ?_⟩) (by assumption) ?_
      rotate_left
      · intro w hSw
        (try dsimp only at hSw)
        obtain ⟨hS0', hS1'⟩ := hSw
        go_simp
        with_reducible rfl
      try simp only [Act.put, List.getElem_toArray, List.getElem_cons_zero, List.getElem_cons_succ, List.setIfInBounds_toArray, List.set_cons_zero, List.set_cons_succ]
      refine wpAnyN_take (i := 6) (v := ?_) (listed' := #[true, true, true, true, true, true, true, false, false, false, false, false, false, false, false]) rfl (by kernel_rfl) (by kernel_rfl) (by kernel_rfl) (by rfl) (fun _ _ _ h => h) (Or.inl ⟨by rfl, ?_⟩) (by assumption) ?_
      rotate_left
      · intro w hSw
        (try dsimp only at hSw)
        obtain ⟨hS0', hS1'⟩ := hSw
        go_simp
        with_reducible rfl
      try simp only [Act.put, List.getElem_toArray, List.getElem_cons_zero, List.getElem_cons_succ, List.setIfInBounds_toArray, List.set_cons_zero, List.set_cons_succ]
      refine wpAnyN_take (i := 7) (v := ?_) (listed' := #[true, true, true, true, true, true, true, true, false, false, false, false, false, false, false]) rfl (by kernel_rfl) (by kernel_rfl) (by kernel_rfl) (by rfl) (fun _ _ _ h => h) (Or.inl ⟨by rfl, ?_⟩) (by assumption) ?_
      rotate_left
      · intro w hSw
        (try dsimp only at hSw)
        obtain ⟨hS0', hS1'⟩ := hSw
        go_simp
        with_reducible rfl
      try simp only [Act.put, List.getElem_toArray, List.getElem_cons_zero, List.getElem_cons_succ, List.setIfInBounds_toArray, List.set_cons_zero, List.set_cons_succ]
      refine wpAnyN_step (i := 8) (listed' := #[true, true, true, true, true, true, true, true, true, false, false, false, false, false, false]) (by kernel_rfl) rfl (by rfl) (fun K hK => ?_)
      refine step_o (by rfl) _ _ _ (by rfl) (0) (97 + (j : Int)) (0) (by rfl) (by first | rfl | (refine (rfl : _ = Value.int .i64 (IntKind.i64.wrap (97 + (j : Int)))).trans (congrArg _ (by rw [IntKind.wrap_i64]; omega)))) (by rfl) ?_
      intro wo0 hb0
      have hz0' : wr.heap.size ≤ wo0.heap.size := hb0.size
      have T0' := Lib.hid ((HT.out.keep (Below.drew (Below.refl _ _))).keep hb0)
      have hT0' := T0'.out.blk.lt
      refine hK.out _ _ ?_ (fun hHeld => ?_)
      · (try dsimp only)
        exact fun _ => ⟨(hb0.cell (p := ad.add j) (by simp; omega)).trans hHeld.1, (hb0.cell (p := ⟨w1.heap.size, 0, none⟩) (by simp; omega)).trans hHeld.2⟩
      clear hK K
      replace hHeld := hHeld rfl
      try simp only [Act.put, List.getElem_toArray, List.getElem_cons_zero, List.getElem_cons_succ, List.setIfInBounds_toArray, List.set_cons_zero, List.set_cons_succ]
      refine wpAnyN_step (i := 9) (listed' := #[true, true, true, true, true, true, true, true, true, true, false, false, false, false, false]) (by kernel_rfl) rfl (by rfl) (fun K hK => ?_)
      go_simp
      refine hK.out _ _ ?_ (fun hHeld => ?_)
      · (try dsimp only)
        exact fun _ => ⟨(World.cell?_alloc_lt _ _ _ (by first | omega | (simp; omega))).trans hHeld.1, (World.cell?_alloc_lt _ _ _ (by first | omega | (simp; omega))).trans hHeld.2⟩
      clear hK K
      replace hHeld := hHeld rfl
      try simp only [Act.put, List.getElem_toArray, List.getElem_cons_zero, List.getElem_cons_succ, List.setIfInBounds_toArray, List.set_cons_zero, List.set_cons_succ]
      refine wpAnyN_step (i := 10) (listed' := #[true, true, true, true, true, true, true, true, true, true, true, false, false, false, false]) (by kernel_rfl) rfl (by rfl) (fun K hK => ?_)
      refine step_t (by rfl) _ _ (by rfl) (v) (some ⟨wo0.heap.size, 0, none⟩) 1 1 (by rfl) (by rfl) ?_
      intro wT hbt
      have hzT := hbt.size
      have T3 := ((T0'.out).keep ((Below.refl _ _).alloc (Nat.le_refl _) _)).keep hbt
      have X3 : OpsLie wT (Kn.firstF (prOf l) j, some ⟨wo0.heap.size, 0, none⟩, 1) := .of_whole (Nat.le_of_ble_eq_true rfl) rfl ((Whole.made wo0 32 #[.int .i64 (0), .int .i64 (97 + (j : Int)), .int .i64 (0)]).same (hbt.block _ (by simp)))
      have T4 := Lib.hid (T3.keep ((Below.refl wT.heap.size wT).alloc (Nat.le_refl _) (.cells #[.int .i64 (v), .slice (some ⟨wo0.heap.size, 0, none⟩) 1 1] 29)))
      have X4 := Lib.hid (X3.below ((Below.refl wT.heap.size wT).alloc (Nat.le_refl _) (.cells #[.int .i64 (v), .slice (some ⟨wo0.heap.size, 0, none⟩) 1 1] 29)))
      simp only [World.size_alloc] at hzT
      have h3 := T3.blk.lt
      clear T3 X3 T0'
      refine hK.out _ _ ?_ (fun hHeld => ?_)
      · (try dsimp only)
        exact fun _ => ⟨(hbt.cell (p := ad.add j) (by simp; omega)).trans hHeld.1, (hbt.cell (p := ⟨w1.heap.size, 0, none⟩) (by simp; omega)).trans hHeld.2⟩
      clear hK K
      replace hHeld := hHeld rfl
      try simp only [Act.put, List.getElem_toArray, List.getElem_cons_zero, List.getElem_cons_succ, List.setIfInBounds_toArray, List.set_cons_zero, List.set_cons_succ]
      refine wpAnyN_step (i := 11) (listed' := #[true, true, true, true, true, true, true, true, true, true, true, true, false, false, false]) (by kernel_rfl) rfl (by rfl) (fun K hK => ?_)
      go_simp
      refine hK.out _ _ ?_ (fun hHeld => ?_)
      · (try dsimp only)
        exact fun _ => ⟨(World.cell?_alloc_lt _ _ _ (by first | omega | (simp; omega))).trans hHeld.1, (World.cell?_alloc_lt _ _ _ (by first | omega | (simp; omega))).trans hHeld.2⟩
      clear hK K
      replace hHeld := hHeld rfl
      try simp only [Act.put, List.getElem_toArray, List.getElem_cons_zero, List.getElem_cons_succ, List.setIfInBounds_toArray, List.set_cons_zero, List.set_cons_succ]
      refine wpAnyN_step (i := 12) (listed' := #[true, true, true, true, true, true, true, true, true, true, true, true, true, false, false]) (by kernel_rfl) rfl (by rfl) (fun K hK => ?_)
      refine step_append_lies _ (by rfl) _ _ _ (by rfl) (w1.heap.size + 1) 29 i0 _ 2 32 Try.underlying23 hi iz0 iz1 iz2 rfl (by omega) V rs.length (tkC rs) (by rfl) T4.out.row ⟨wT.heap.size, 0, none⟩ 1 1 [.int .i64 (v), .slice (some ⟨wo0.heap.size, 0, none⟩) 1 1] (by rfl) (by rfl) (World.news_of_block (cs := #[.int .i64 (v), .slice (some ⟨wo0.heap.size, 0, none⟩) 1 1]) (t := 29) (fr := (0, 0)) (heap_alloc_new _ _)) (by simp [Value.oneCell']) (by omega) (by unfold maxLen; omega) (by omega) (by simp; omega) (wT.heap.size + 1) (by simp) ?_
      intro gg cap w5 hown hgrow hat hlt5
      have hVlt := T4.out.row.lt
      have y := T4.out.blk.grown hgrow (own_block T4.out.row T4.out.blk (by decide))
      have y0 := y.cell 0
      have y1 := y.frozen 0
      simp only [List.getElem?_toArray, List.getElem?_cons_zero] at y0
      have TP := Lib.hid (T4.out.push (x := (Kn.firstF (prOf l) j, some ⟨wo0.heap.size, 0, none⟩, 1)) X4.out (by rw [← E.out] at hown; exact hown) hgrow)
      simp only [hrl] at TP
      clear y hown hat
      refine hK.out _ _ ?_ (fun hHeld => ?_)
      · (try dsimp only)
        exact fun _ => ⟨(hgrow.cell_far (ad.add j) (by simp; omega) (fun e => by have := hVlt _ e.symm; omega)).trans hHeld.1, (hgrow.cell_far (⟨w1.heap.size, 0, none⟩) (by simp; omega) (fun e => by have e : some (w1.heap.size) = V.ownBlock := e; have := hVlt _ e.symm; omega)).trans hHeld.2⟩
      clear hK K
      replace hHeld := hHeld rfl
      try simp only [Act.put, List.getElem_toArray, List.getElem_cons_zero, List.getElem_cons_succ, List.setIfInBounds_toArray, List.set_cons_zero, List.set_cons_succ]
      refine wpAnyN_take (i := 13) (v := ?_) (listed' := #[true, true, true, true, true, true, true, true, true, true, true, true, true, true, false]) rfl (by kernel_rfl) (by kernel_rfl) (by kernel_rfl) (by rfl) (fun _ _ _ h => h) (Or.inl ⟨by rfl, ?_⟩) (by assumption) ?_
      rotate_left
      · intro w hSw
        (try dsimp only at hSw)
        obtain ⟨hS0', hS1'⟩ := hSw
        go_simp
        with_reducible rfl
      try simp only [Act.put, List.getElem_toArray, List.getElem_cons_zero, List.getElem_cons_succ, List.setIfInBounds_toArray, List.set_cons_zero, List.set_cons_succ]
      refine wpAnyN_step (i := 14) (listed' := #[true, true, true, true, true, true, true, true, true, true, true, true, true, true, true]) (by kernel_rfl) rfl (by rfl) (fun K hK => ?_)
      go_simp
      refine hK.out _ _ ?_ (fun hHeld => ?_)
      · exact fun h => absurd h (by decide)
      clear hK K
      try simp only [Act.put, List.getElem_toArray, List.getElem_cons_zero, List.getElem_cons_succ, List.setIfInBounds_toArray, List.set_cons_zero, List.set_cons_succ]
      refine wpAnyN_done (by kernel_rfl) ?_ _
      go_wp2_with fail
      go_roundg (N - (j + 1))
      case measure => omega
      case rel => exact ⟨j + 1, _, rs ++ [(Kn.firstF (prOf l) j, some ⟨wo0.heap.size, 0, none⟩, 1)], by omega, by go_num, TP.out, by rw [List.map_append, HS.out, List.range_succ, List.map_append]; rfl, fun i hi => by rcases Nat.lt_or_ge i j with q | q; exact HOK.out i q; (have : i = j := by omega); subst this; rw [E.out]; exact ⟨by omega, by omega⟩, Nat.le_refl _⟩
    · have hlt' : ¬ (j : Int) < N := by omega
      have hjn : j = N := by omega
      have hrl : rs.length = j := by have := congrArg List.length hrs; simpa using this
      subst hjn
      have HRL := Lib.hid hrl
      obtain ⟨A1, c1, hV⟩ := hT.shape
      rw [hrl] at hV
      subst hV
      have k0 := hT.blk.cell 0
      have k1 := hT.blk.cell 1
      have k2 := hT.blk.cell 2
      have k3 := hT.blk.cell 3
      have kf := hT.blk.frozen 0
      have hlt4 := hT.blk.lt
      simp only [List.getElem?_toArray, List.getElem?_cons_zero, List.getElem?_cons_succ] at k0 k1 k2 k3
      have HT := Lib.hid hT
      have HS := Lib.hid hrs
      have HOK := Lib.hid hok
      clear hT hrs hok
      have hpr : ∀ i, i < j → 0 ≤ prOf l i ∧ prOf l i ≤ 31 := HOK.out
      have hf := first_fits (pr := prOf l) (n := j) (by omega) (by omega) hpr
      have hout := Lib.hid (Kn.first_run hf (by omega))
      have HP := Lib.hid hpr
      replace hf := Lib.hid hf
      clear hpr
      go_wp2_with fail
      refine (run_at (t := Kn.firstT (prOf l) j) (ticks := 0) (ops := 1000) (by simp [Kn.firstT]) rfl rfl rfl rfl rfl ?tab hf.out (by decide) (by decide)).mono ?_
      case tab => exact (HT.out.tab (t := Kn.firstT (prOf l) j) HS.out.symm (Reads.nil _) (Reads.nil _) (by have := HRL.out; omega) (Nat.zero_le _) (Nat.zero_le _)).1
      rintro e w9 hR
      obtain ⟨P, Q, R, pn, pc, qn, qc, rn, rc, rfl, hb9, HRA⟩ := hR.opened
      clear hR
      generalize Kn.runT (Kn.firstT (prOf l) j) 0 1000 = k at *
      have hbel := HB1.out.trans ((HT.out.bel.trans (hb9.mono HT.out.bel.size)).mono hz1)
      have HBE := Lib.hid (hbel.alloc hbel.size (.cells #[.slice P pn pc, .slice Q qn qc, .slice R rn rc, .int .i64 k.ticks, .int .i64 k.ops] 36))
      have HRD := Lib.hid (HR.out.below HBE.out (Nat.le_refl _))
      have HC := Lib.hid (HRA.out.conv _ ((Below.refl w9.heap.size w9).alloc (Nat.le_refl _) (.cells #[.slice P pn pc, .slice Q qn qc, .slice R rn rc, .int .i64 k.ticks, .int .i64 k.ops] 36)))
      clear hb9 hbel HT HS HOK hnil HB1 HR HRA k0 k1 k2 k3 kf hlt4 hf
      obtain ⟨w8, hw8⟩ : ∃ w8, w8 = w9.alloc (.cells #[.slice P pn pc, .slice Q qn qc, .slice R rn rc, .int .i64 k.ticks, .int .i64 k.ops] 36) := ⟨_, rfl⟩
      go_wp2_with fail
      go_loopg [8, 9] 32 (fun kk s p wr => ∃ q : Nat, q ≤ 32 ∧ p = .int .i64 q ∧ s = .string (fstW l j q 0) ∧ wr = w9.alloc (.cells #[.slice P pn pc, .slice Q qn qc, .slice R rn rc, .int .i64 k.ticks, .int .i64 k.ops] 36) ∧ 32 - q ≤ kk)
      case atStart => exact ⟨0, Nat.zero_le _, rfl, rfl, rfl, by omega⟩
      case round =>
        obtain ⟨q, hq, rfl, rfl, rfl, hkk2⟩ := hrel
        by_cases hq32 : q < 32
        · have hq32' : (q : Int) < 32 := by omega
          go_wp2_with fail
          go_loopg [8, 10] j (fun kk s p wr => ∃ i : Nat, i ≤ j ∧ p = .int .i64 i ∧ s = .string (fstW l j q i) ∧ wr = w9.alloc (.cells #[.slice P pn pc, .slice Q qn qc, .slice R rn rc, .int .i64 k.ticks, .int .i64 k.ops] 36) ∧ j - i ≤ kk)
          case atStart => exact ⟨0, Nat.zero_le _, rfl, rfl, rfl, by omega⟩
          case round =>
            obtain ⟨i, hi, rfl, rfl, rfl, hkk3⟩ := hrel
            by_cases hij : i < j
            · have hij' : (i : Int) < j := by omega
              obtain ⟨ad, eA, hab, hac⟩ := HRD.out.intAt' HN.out (show i < l.length by have := HN.out; omega)
              subst eA
              have E := Lib.hid (prOf_at (show i < l.length by have := HN.out; omega))
              have hp2 := HP.out i hij
              have hrs := Lib.hid (Kn.rowOf_succ (prOf l) i q)
              rw [E.out] at hp2 hrs
              generalize l[i] = v at *
              by_cases hv : v = q
              · as_aux_lemma =>
                  subst hv
                  have hrs2 : Kn.rowOf (prOf l) (i + 1) q = Kn.rowOf (prOf l) i q ++ [(i : Int)] := by rw [hrs.out, if_pos (by omega)]
                  obtain ⟨hA, hAs⟩ := fstW_push (show q ≤ 32 by omega) (show j ≤ 26 by omega) (show i ≤ 26 by omega) hrs2
                  have hL := run_letter i (by omega)
                  have HA := Lib.hid hA
                  clear hrs2 hA
                  go_wp2_with fail
                  go_roundg (j - (i + 1))
                  case measure => omega
                  case rel => exact ⟨i + 1, by omega, by go_num, congrArg Value.string (Eq.trans (by simp) HA.out), rfl, Nat.le_refl _⟩
              · as_aux_lemma =>
                  have hrs2 : Kn.rowOf (prOf l) (i + 1) q = Kn.rowOf (prOf l) i q := by rw [hrs.out, if_neg (by omega), List.append_nil]
                  have HS2 := Lib.hid (show fstW l j q (i + 1) = fstW l j q i by unfold fstW; rw [hrs2])
                  have hvb : (v == (q : Int)) = false := by simpa using hv
                  clear hrs2
                  go_wp2_with fail
                  go_roundg (j - (i + 1))
                  case measure => omega
                  case rel => exact ⟨i + 1, by omega, by go_num, by rw [HS2.out], rfl, Nat.le_refl _⟩
            · have hij' : ¬ (i : Int) < j := by omega
              have : i = j := by omega
              subst this
              go_wp2_with fail
              go_roundg (32 - (q + 1))
              case measure => omega
              case rel => exact ⟨q + 1, by omega, by go_num, by rw [← fstW_next], rfl, Nat.le_refl _⟩
        · have hq32' : ¬ (q : Int) < 32 := by omega
          have : q = 32 := by omega
          subst this
          have HC2 := HC.out
          rw [hout.out, ← fstW_end] at HC2
          go_wp2_with (first | (go_at_call 23; refine (num_any _ _).mono ?_; rintro e w3 ⟨rfl, rfl⟩))
          go_ret
          exact ⟨rfl, HBE.out⟩
end Go.Proofs.Ytncbgnpoffolcaa
