/-
  KernDelays: the walk of the law.
-/
import Derived.Test.YtncbgnpoffolcaaWn
import Derived.Test.YtncbgnpoffolcaaSb
import Derived.Test.YtncbgnpoffolcaaFst
import Derived.Test.YtncbgnpoffolcaaDlyP
namespace Go.Proofs.Ytncbgnpoffolcaa
open Go.RowKit
/-- What holds of the first j numbers. -/
def DlyOk (l1 l2 : List Int) (j lt : Nat) : Prop := (∀ i, i < j → 0 ≤ prOf l2 i ∧ prOf l2 i ≤ 31 ∧ 1 ≤ prOf l1 i ∧ prOf l1 i ≤ 1000 ∧ prOf l1 i ≤ lt) ∧ lt ≤ 1000 ∧ (0 < j → ∃ i, i < j ∧ prOf l1 i = lt) ∧ (j = 0 → lt = 0)
theorem DlyOk.more {l1 l2 : List Int} {j lt lt' : Nat} {v u : Int} (h : DlyOk l1 l2 j lt) (e1 : prOf l1 j = v) (e2 : prOf l2 j = u) (h1 : 0 ≤ u) (h2 : u ≤ 31) (h3 : 1 ≤ v) (h4 : v ≤ 1000) (hm : (v ≤ lt ∧ lt' = lt) ∨ ((lt : Int) < v ∧ (lt' : Int) = v)) : DlyOk l1 l2 (j + 1) lt' := by
  obtain ⟨a, b, c, d⟩ := h
  refine ⟨fun i hi => ?_, by clear a c d; omega, fun _ => ?_, fun q => by clear a c d; omega⟩
  · by_cases e : i = j
    · clear a c d
      subst e
      rw [e1, e2]
      omega
    · have := a i (by clear a c d; omega)
      clear a c d
      omega
  · rcases hm with ⟨q, rfl⟩ | ⟨q, q2⟩
    · by_cases hj : j = 0
      · have := d hj
        omega
      · obtain ⟨i, hi, e⟩ := c (by omega)
        exact ⟨i, by omega, e⟩
    · exact ⟨j, by omega, by rw [e1, q2]⟩
theorem rowAt_succ (d pr : Nat → Int) (n k y : Nat) : Kn.rowAt d pr (n + 1) k y = Kn.rowAt d pr n k y ++ if d n = k ∧ (pr n).toNat = y then [(n : Int)] else [] := by
  unfold Kn.rowAt
  rw [List.range_succ, List.filter_append, List.map_append]
  congr 1
  by_cases h : d n = k ∧ (pr n).toNat = y
  · rw [if_pos h]
    simp [h.1, h.2]
  · rw [if_neg h]
    have : (decide (d n = (k : Int)) && decide ((pr n).toNat = y)) = false := by
      rw [Bool.and_eq_false_iff, decide_eq_false_iff_not, decide_eq_false_iff_not]
      by_cases q : d n = k
      · exact .inr fun q2 => h ⟨q, q2⟩
      · exact .inl q
    simp [this]
def dlyW (l1 l2 : List Int) (n m q i : Nat) : ByteArray := ⟨((Kn.gone (prOf l1) (prOf l2) n m ++ (List.range q).flatMap (Kn.rowAt (prOf l1) (prOf l2) n (m + 1)) ++ Kn.rowAt (prOf l1) (prOf l2) i (m + 1) q).map Kn.byt).toArray⟩
theorem dlyW_next (l1 l2 : List Int) (n m q : Nat) : dlyW l1 l2 n m (q + 1) 0 = dlyW l1 l2 n m q n := by
  unfold dlyW
  rw [List.range_succ, List.flatMap_append, show Kn.rowAt (prOf l1) (prOf l2) 0 (m + 1) (q + 1) = [] from rfl, List.append_nil]
  simp
theorem dlyW_tick (l1 l2 : List Int) (n m : Nat) : dlyW l1 l2 n (m + 1) 0 0 = dlyW l1 l2 n m 32 0 := by
  unfold dlyW
  rw [Kn.gone_succ, show Kn.rowAt (prOf l1) (prOf l2) 0 (m + 1) 32 = [] from rfl, show Kn.rowAt (prOf l1) (prOf l2) 0 (m + 1 + 1) 0 = [] from rfl, List.append_nil, List.append_nil]
  show (⟨(((Kn.gone (prOf l1) (prOf l2) n m ++ Kn.order (Kn.rowAt (prOf l1) (prOf l2) n (m + 1))) ++ []).map Kn.byt).toArray⟩ : ByteArray) = _
  rw [List.append_nil]
  rfl
theorem dlyW_end (l1 l2 : List Int) (n m : Nat) : dlyW l1 l2 n m 0 0 = ⟨((Kn.gone (prOf l1) (prOf l2) n m).map Kn.byt).toArray⟩ := by
  unfold dlyW
  rw [show Kn.rowAt (prOf l1) (prOf l2) 0 (m + 1) 0 = [] from rfl, List.append_nil]
  show (⟨((Kn.gone (prOf l1) (prOf l2) n m ++ []).map Kn.byt).toArray⟩ : ByteArray) = _
  rw [List.append_nil]
theorem rowAt_len (d pr : Nat → Int) (n k y : Nat) : (Kn.rowAt d pr n k y).length ≤ n := by
  unfold Kn.rowAt
  rw [List.length_map]
  exact Nat.le_trans (List.length_filter_le _ _) (by simp)
theorem dlyW_push {l1 l2 : List Int} {n m q i : Nat} (hq : q ≤ 32) (hn : n ≤ 20) (hi : i ≤ 20) (h : Kn.rowAt (prOf l1) (prOf l2) (i + 1) (m + 1) q = Kn.rowAt (prOf l1) (prOf l2) i (m + 1) q ++ [(i : Int)]) : dlyW l1 l2 n m q i ++ ⟨#[UInt8.ofNat (97 + i)]⟩ = dlyW l1 l2 n m q (i + 1) ∧ ((dlyW l1 l2 n m q i).size : Int) ≤ 10000 := by
  refine ⟨?_, ?_⟩
  · unfold dlyW
    rw [want_push, h, List.append_assoc]
  · have h1 := flat_len_le (Kn.rowAt (prOf l1) (prOf l2) n (m + 1)) (b := n) (rowAt_len _ _ _ _) q
    have h2 := rowAt_len (prOf l1) (prOf l2) i (m + 1) q
    have h4 := Kn.gone_len (prOf l1) (prOf l2) n m
    have h3 : q * n ≤ 32 * 20 := Nat.mul_le_mul hq hn
    show ((Array.size _ : Nat) : Int) ≤ _
    simp only [List.size_toArray, List.length_map, List.length_append]
    omega
theorem delay_fits {d pr : Nat → Int} {n : Nat} (h1 : 1 ≤ n) (h2 : n ≤ 20) (hp : ∀ i, i < n → 0 ≤ pr i ∧ pr i ≤ 31 ∧ 1 ≤ d i ∧ d i ≤ 1000) : (Kn.delayT d pr n).fits = true := by
  unfold Kn.Table.fits Kn.delayT
  simp only [Bool.and_eq_true, decide_eq_true_eq, List.all_eq_true, List.length_map, List.length_range]
  refine ⟨⟨⟨by simp; omega, by simp⟩, by simp⟩, ?_⟩
  intro x hx
  obtain ⟨i, hi, rfl⟩ := List.mem_map.1 hx
  have := hp i (List.mem_range.1 hi)
  have := List.mem_range.1 hi
  simp [Kn.delayF, Kn.Task.fits, Kn.opsFit, Kn.Op.fits, Kn.bounds]
  omega
set_option maxRecDepth 100000 in
set_option maxHeartbeats 16000000 in
theorem kernDelays_any {l1 l2 : List Int} {A1 A2 : Option Addr} {c1 c2 : Nat} {w : World} (hr1 : Reads w w.heap.size 1 A1 l1.length (intV l1)) (hr2 : Reads w w.heap.size 1 A2 l2.length (intV l2)) : Calls Try.prog 8 #[.slice A1 l1.length c1, .slice A2 l2.length c2] w fun r w' => r = .returned (.bool true) ∧ Below w.heap.size w w' := by
  have HR1 := Lib.hid hr1
  have HR2 := Lib.hid hr2
  clear hr1 hr2
  obtain ⟨i0, hi, iz0, iz1, iz2⟩ := info_parts info29
  by_cases b0 : (l1.length : Int) < 1
  · as_aux_lemma =>
      go_enter Try.func8, Try.ntmps8
      go_wp2_with fail
      refine (alive_any w).mono ?_
      rintro e w1 ⟨rfl, hb1⟩
      go_wp2_with fail
      go_ret
      exact ⟨rfl, hb1⟩
  by_cases b1 : 20 < (l1.length : Int)
  · as_aux_lemma =>
      go_enter Try.func8, Try.ntmps8
      go_wp2_with fail
      refine (alive_any w).mono ?_
      rintro e w1 ⟨rfl, hb1⟩
      go_wp2_with fail
      go_ret
      exact ⟨rfl, hb1⟩
  by_cases b2 : ¬ ((l2.length : Int) = l1.length)
  · as_aux_lemma =>
      have b3 : ((l2.length : Int) != l1.length) = true := by simpa using b2
      go_enter Try.func8, Try.ntmps8
      go_wp2_with fail
      refine (alive_any w).mono ?_
      rintro e w1 ⟨rfl, hb1⟩
      go_wp2_with fail
      go_ret
      exact ⟨rfl, hb1⟩
  obtain ⟨N, hN⟩ : ∃ N, N = l1.length := ⟨_, rfl⟩
  have hN2 : N = l2.length := by omega
  rw [← hN] at b0 b1 b2 HR1
  rw [← hN2] at b2 HR2
  rw [← hN, ← hN2]
  have HN := Lib.hid hN
  have HN2 := Lib.hid hN2
  clear hN hN2 b2
  go_enter Try.func8, Try.ntmps8
  go_wp2_with fail
  refine (alive_any w).mono ?_
  rintro e w1 ⟨rfl, hb1⟩
  have HB1 := Lib.hid hb1
  have hz1 := hb1.size
  clear hb1
  go_wp2_with fail
  have hnil := Lib.hid (TL.nil w1 (.slice none 0 0) (.slice none 0 0) 0)
  go_loopg [7, 8] N (fun kk z i wr => ∃ (j : Nat) (V : Value) (rs : List (Kn.Task × Option Addr × Nat)) (lt : Nat), j ≤ N ∧ i = .int .i64 j ∧ z = .int .i64 lt ∧ TL w1 wr V (.slice none 0 0) (.slice none 0 0) 0 rs ∧ rs.map (·.1) = (List.range j).map (Kn.delayF (prOf l1) (prOf l2)) ∧ DlyOk l1 l2 j lt ∧ N - j ≤ kk)
  case atStart => exact ⟨0, _, [], 0, Nat.zero_le _, rfl, rfl, hnil.out, rfl, ⟨fun i hi => by omega, by omega, fun h => by omega, fun _ => rfl⟩, by omega⟩
  case round =>
    obtain ⟨j, V, rs, lt, hj, rfl, rfl, hT, hrs, hok, hkk⟩ := hrel
    by_cases hlt : j < N
    · have hlt' : (j : Int) < N := by omega
      have hll1 : j < l1.length := by have := HN.out; omega
      have hll2 : j < l2.length := by have := HN2.out; omega
      have hrl : rs.length = j := by have := congrArg List.length hrs; simpa using this
      have hzr := hT.bel.size
      obtain ⟨ad1, eA1, hab1, hac1⟩ := ((HR1.out.below HB1.out (Nat.le_refl _)).below (hT.bel.mono hz1) (Nat.le_refl _)).intAt' (HN.out) hll1
      obtain ⟨ad2, eA2, hab2, hac2⟩ := ((HR2.out.below HB1.out (Nat.le_refl _)).below (hT.bel.mono hz1) (Nat.le_refl _)).intAt' (HN2.out) hll2
      subst eA1
      subst eA2
      have E1 := Lib.hid (prOf_at hll1)
      have E2 := Lib.hid (prOf_at hll2)
      have k0 := hT.blk.cell 0
      have k1 := hT.blk.frozen 0
      simp only [List.getElem?_toArray, List.getElem?_cons_zero] at k0
      have habr1 : ad1.block < wr.heap.size := by omega
      have habr2 : ad2.block < wr.heap.size := by omega
      have htb := hT.blk.lt
      have hltm := hok.2.1
      have HT := Lib.hid hT
      have HS := Lib.hid hrs
      have HOK := Lib.hid hok
      clear hT hrs hok
      generalize l1[j] = v at *
      generalize l2[j] = u at *
      by_cases g0 : u < 0
      · as_aux_lemma =>
          go_wp2_with fail
          go_ret
          exact ⟨rfl, HB1.out.trans (HT.out.bel.mono hz1)⟩
      by_cases g1 : 31 < u
      · as_aux_lemma =>
          go_wp2_with fail
          go_ret
          exact ⟨rfl, HB1.out.trans (HT.out.bel.mono hz1)⟩
      by_cases g2 : v < 1
      · as_aux_lemma =>
          go_wp2_with fail
          go_ret
          exact ⟨rfl, HB1.out.trans (HT.out.bel.mono hz1)⟩
      by_cases g3 : 1000 < v
      · as_aux_lemma =>
          go_wp2_with fail
          go_ret
          exact ⟨rfl, HB1.out.trans (HT.out.bel.mono hz1)⟩
      have hadj1 : (ad1.add j).block < wr.heap.size := by unfold Addr.add; split <;> exact habr1
      have hadk1 : (ad1.add j).block < w1.heap.size := by (have h9 : ad1.block < w1.heap.size := by omega); unfold Addr.add; split <;> exact h9
      have hadj0 : (ad2.add j).block < wr.heap.size := by unfold Addr.add; split <;> exact habr2
      have hadk0 : (ad2.add j).block < w1.heap.size := by (have h9 : ad2.block < w1.heap.size := by omega); unfold Addr.add; split <;> exact h9
      have hS0 := hac2
      have hS1 := hac1
      by_cases gm : (lt : Int) < v
      · as_aux_lemma =>
        have HOK2 := Lib.hid (HOK.out.more (lt' := v.toNat) E1.out E2.out (by omega) (by omega) (by omega) (by omega) (.inr ⟨gm, by omega⟩))
        go_wp2_with fail
        have hl0 : Addr.block (ad2.add j) < wr.heap.size := hadj0
        have hl1 : Addr.block (ad1.add j) < wr.heap.size := hadj1
        have hl2 : Addr.block (⟨w1.heap.size, 0, none⟩) < wr.heap.size := htb
        refine wp_region_need (S := fun w' => w'.cell? (ad2.add j) = some (.int .i64 u) ∧ w'.cell? (ad1.add j) = some (.int .i64 v) ∧ w'.cell? (⟨w1.heap.size, 0, none⟩) = some (V)) (need := fun i => i != 19) 20 #[false, false, false, false, false, false, false, false, false, false, false, false, false, false, false, false, false, false, false, false] (by rfl) (by rfl) (by kernel_rfl) ?_ (fun hHeld => ?_)
        · (try dsimp only)
          exact ⟨hS0, hS1, k0⟩
        refine wpAnyN_take (i := 0) (v := ?_) (listed' := #[true, false, false, false, false, false, false, false, false, false, false, false, false, false, false, false, false, false, false, false]) rfl (by kernel_rfl) (by kernel_rfl) (by kernel_rfl) (by rfl) (fun _ _ _ h => h) (Or.inl ⟨by rfl, ?_⟩) (by assumption) ?_
        rotate_left
        · intro w hSw
          (try dsimp only at hSw)
          obtain ⟨hS0', hS1', hS2'⟩ := hSw
          go_simp
          with_reducible rfl
        try simp only [Act.put, List.getElem_toArray, List.getElem_cons_zero, List.setIfInBounds_toArray, List.set_cons_zero, List.set_cons_succ]
        refine wpAnyN_take (i := 1) (v := ?_) (listed' := #[true, true, false, false, false, false, false, false, false, false, false, false, false, false, false, false, false, false, false, false]) rfl (by kernel_rfl) (by kernel_rfl) (by kernel_rfl) (by rfl) (fun _ _ _ h => h) (Or.inl ⟨by rfl, ?_⟩) (by assumption) ?_
        rotate_left
        · intro w hSw
          (try dsimp only at hSw)
          obtain ⟨hS0', hS1', hS2'⟩ := hSw
          go_simp
          with_reducible rfl
        try simp only [Act.put, List.getElem_toArray, List.getElem_cons_zero, List.getElem_cons_succ, List.setIfInBounds_toArray, List.set_cons_zero, List.set_cons_succ]
        refine wpAnyN_take (i := 2) (v := ?_) (listed' := #[true, true, true, false, false, false, false, false, false, false, false, false, false, false, false, false, false, false, false, false]) rfl (by kernel_rfl) (by kernel_rfl) (by kernel_rfl) (by rfl) (fun _ _ _ h => h) (Or.inl ⟨by rfl, ?_⟩) (by assumption) ?_
        rotate_left
        · intro w hSw
          (try dsimp only at hSw)
          obtain ⟨hS0', hS1', hS2'⟩ := hSw
          go_simp
          with_reducible rfl
        try simp only [Act.put, List.getElem_toArray, List.getElem_cons_zero, List.getElem_cons_succ, List.setIfInBounds_toArray, List.set_cons_zero, List.set_cons_succ]
        refine wpAnyN_take (i := 3) (v := ?_) (listed' := #[true, true, true, true, false, false, false, false, false, false, false, false, false, false, false, false, false, false, false, false]) rfl (by kernel_rfl) (by kernel_rfl) (by kernel_rfl) (by rfl) (fun _ _ _ h => h) (Or.inl ⟨by rfl, ?_⟩) (by assumption) ?_
        rotate_left
        · intro w hSw
          (try dsimp only at hSw)
          obtain ⟨hS0', hS1', hS2'⟩ := hSw
          go_simp
          with_reducible rfl
        try simp only [Act.put, List.getElem_toArray, List.getElem_cons_zero, List.getElem_cons_succ, List.setIfInBounds_toArray, List.set_cons_zero, List.set_cons_succ]
        refine wpAnyN_take (i := 4) (v := ?_) (listed' := #[true, true, true, true, true, false, false, false, false, false, false, false, false, false, false, false, false, false, false, false]) rfl (by kernel_rfl) (by kernel_rfl) (by kernel_rfl) (by rfl) (fun _ _ _ h => h) (Or.inl ⟨by rfl, ?_⟩) (by assumption) ?_
        rotate_left
        · intro w hSw
          (try dsimp only at hSw)
          obtain ⟨hS0', hS1', hS2'⟩ := hSw
          go_simp
          with_reducible rfl
        try simp only [Act.put, List.getElem_toArray, List.getElem_cons_zero, List.getElem_cons_succ, List.setIfInBounds_toArray, List.set_cons_zero, List.set_cons_succ]
        refine wpAnyN_take (i := 5) (v := ?_) (listed' := #[true, true, true, true, true, true, false, false, false, false, false, false, false, false, false, false, false, false, false, false]) rfl (by kernel_rfl) (by kernel_rfl) (by kernel_rfl) (by rfl) (fun _ _ _ h => h) (Or.inl ⟨by rfl, ?_⟩) (by assumption) ?_
        rotate_left
        · intro w hSw
          (try dsimp only at hSw)
          obtain ⟨hS0', hS1', hS2'⟩ := hSw
          go_simp
          with_reducible rfl
        try simp only [Act.put, List.getElem_toArray, List.getElem_cons_zero, List.getElem_cons_succ, List.setIfInBounds_toArray, List.set_cons_zero, List.set_cons_succ]
        refine wpAnyN_take (i := 6) (v := ?_) (listed' := #[true, true, true, true, true, true, true, false, false, false, false, false, false, false, false, false, false, false, false, false]) rfl (by kernel_rfl) (by kernel_rfl) (by kernel_rfl) (by rfl) (fun _ _ _ h => h) (Or.inl ⟨by rfl, ?_⟩) (by assumption) ?_
        rotate_left
        · intro w hSw
          (try dsimp only at hSw)
          obtain ⟨hS0', hS1', hS2'⟩ := hSw
          go_simp
          with_reducible rfl
        try simp only [Act.put, List.getElem_toArray, List.getElem_cons_zero, List.getElem_cons_succ, List.setIfInBounds_toArray, List.set_cons_zero, List.set_cons_succ]
        refine wpAnyN_take (i := 7) (v := ?_) (listed' := #[true, true, true, true, true, true, true, true, false, false, false, false, false, false, false, false, false, false, false, false]) rfl (by kernel_rfl) (by kernel_rfl) (by kernel_rfl) (by rfl) (fun _ _ _ h => h) (Or.inl ⟨by rfl, ?_⟩) (by assumption) ?_
        rotate_left
        · intro w hSw
          (try dsimp only at hSw)
          obtain ⟨hS0', hS1', hS2'⟩ := hSw
          go_simp
          with_reducible rfl
        try simp only [Act.put, List.getElem_toArray, List.getElem_cons_zero, List.getElem_cons_succ, List.setIfInBounds_toArray, List.set_cons_zero, List.set_cons_succ]
        refine wpAnyN_take (i := 8) (v := ?_) (listed' := #[true, true, true, true, true, true, true, true, true, false, false, false, false, false, false, false, false, false, false, false]) rfl (by kernel_rfl) (by kernel_rfl) (by kernel_rfl) (by rfl) (fun _ _ _ h => h) (Or.inl ⟨by rfl, ?_⟩) (by assumption) ?_
        rotate_left
        · intro w hSw
          (try dsimp only at hSw)
          obtain ⟨hS0', hS1', hS2'⟩ := hSw
          go_simp
          with_reducible rfl
        try simp only [Act.put, List.getElem_toArray, List.getElem_cons_zero, List.getElem_cons_succ, List.setIfInBounds_toArray, List.set_cons_zero, List.set_cons_succ]
        refine wpAnyN_take (i := 9) (v := ?_) (listed' := #[true, true, true, true, true, true, true, true, true, true, false, false, false, false, false, false, false, false, false, false]) rfl (by kernel_rfl) (by kernel_rfl) (by kernel_rfl) (by rfl) (fun _ _ _ h => h) (Or.inl ⟨by rfl, ?_⟩) (by assumption) ?_
        rotate_left
        · intro w hSw
          (try dsimp only at hSw)
          obtain ⟨hS0', hS1', hS2'⟩ := hSw
          go_simp
          with_reducible rfl
        try simp only [Act.put, List.getElem_toArray, List.getElem_cons_zero, List.getElem_cons_succ, List.setIfInBounds_toArray, List.set_cons_zero, List.set_cons_succ]
        refine wpAnyN_take (i := 11) (v := ?_) (listed' := #[true, true, true, true, true, true, true, true, true, true, false, true, false, false, false, false, false, false, false, false]) rfl (by kernel_rfl) (by kernel_rfl) (by kernel_rfl) (by rfl) (fun _ _ _ h => h) (Or.inl ⟨by rfl, ?_⟩) (by assumption) ?_
        rotate_left
        · intro w hSw
          (try dsimp only at hSw)
          obtain ⟨hS0', hS1', hS2'⟩ := hSw
          go_simp
          with_reducible rfl
        try simp only [Act.put, List.getElem_toArray, List.getElem_cons_zero, List.getElem_cons_succ, List.setIfInBounds_toArray, List.set_cons_zero, List.set_cons_succ]
        refine wpAnyN_take (i := 12) (v := ?_) (listed' := #[true, true, true, true, true, true, true, true, true, true, false, true, true, false, false, false, false, false, false, false]) rfl (by kernel_rfl) (by kernel_rfl) (by kernel_rfl) (by rfl) (fun _ _ _ h => h) (Or.inl ⟨by rfl, ?_⟩) (by assumption) ?_
        rotate_left
        · intro w hSw
          (try dsimp only at hSw)
          obtain ⟨hS0', hS1', hS2'⟩ := hSw
          go_simp
          with_reducible rfl
        try simp only [Act.put, List.getElem_toArray, List.getElem_cons_zero, List.getElem_cons_succ, List.setIfInBounds_toArray, List.set_cons_zero, List.set_cons_succ]
        refine wpAnyN_step (i := 10) (listed' := #[true, true, true, true, true, true, true, true, true, true, true, true, true, false, false, false, false, false, false, false]) (by kernel_rfl) rfl (by rfl) (fun K hK => ?_)
        refine step_o (by rfl) _ _ _ (by rfl) (2) (v) (0) (by rfl) (by rfl) (by rfl) ?_
        intro wo0 hb0
        have hz0' : wr.heap.size ≤ wo0.heap.size := hb0.size
        have T0' := Lib.hid ((HT.out.keep (Below.drew (Below.refl _ _))).keep hb0)
        have hT0' := T0'.out.blk.lt
        refine hK.out _ _ ?_ (fun hHeld => ?_)
        · (try dsimp only)
          exact fun _ => ⟨(hb0.cell (p := ad2.add j) hl0).trans hHeld.1, (hb0.cell (p := ad1.add j) hl1).trans hHeld.2.1, (hb0.cell (p := ⟨w1.heap.size, 0, none⟩) hl2).trans hHeld.2.2⟩
        clear hK K
        replace hHeld := hHeld rfl
        try simp only [Act.put, List.getElem_toArray, List.getElem_cons_zero, List.getElem_cons_succ, List.setIfInBounds_toArray, List.set_cons_zero, List.set_cons_succ]
        replace hl0 := Nat.lt_of_lt_of_le hl0 hz0'
        replace hl1 := Nat.lt_of_lt_of_le hl1 hz0'
        replace hl2 := Nat.lt_of_lt_of_le hl2 hz0'
        refine wpAnyN_step (i := 13) (listed' := #[true, true, true, true, true, true, true, true, true, true, true, true, true, true, false, false, false, false, false, false]) (by kernel_rfl) rfl (by rfl) (fun K hK => ?_)
        refine step_o (by rfl) _ _ _ (by rfl) (0) (97 + (j : Int)) (0) (by rfl) (by first | exact Eq.trans (b := Value.int .i64 (IntKind.i64.wrap (97 + (j : Int)))) rfl (congrArg (Value.int .i64) (by rw [IntKind.wrap_i64]; omega)) | rfl) (by rfl) ?_
        intro wo1 hb1
        have hz1' : wo0.heap.size ≤ wo1.heap.size := hb1.size
        have T1' := Lib.hid ((T0'.out).keep hb1)
        have hT1' := T1'.out.blk.lt
        clear T0'
        refine hK.out _ _ ?_ (fun hHeld => ?_)
        · (try dsimp only)
          exact fun _ => ⟨(hb1.cell (p := ad2.add j) hl0).trans hHeld.1, (hb1.cell (p := ad1.add j) hl1).trans hHeld.2.1, (hb1.cell (p := ⟨w1.heap.size, 0, none⟩) hl2).trans hHeld.2.2⟩
        clear hK K
        replace hHeld := hHeld rfl
        try simp only [Act.put, List.getElem_toArray, List.getElem_cons_zero, List.getElem_cons_succ, List.setIfInBounds_toArray, List.set_cons_zero, List.set_cons_succ]
        replace hl0 := Nat.lt_of_lt_of_le hl0 hz1'
        replace hl1 := Nat.lt_of_lt_of_le hl1 hz1'
        replace hl2 := Nat.lt_of_lt_of_le hl2 hz1'
        refine wpAnyN_step (i := 14) (listed' := #[true, true, true, true, true, true, true, true, true, true, true, true, true, true, true, false, false, false, false, false]) (by kernel_rfl) rfl (by rfl) (fun K hK => ?_)
        refine step_ops2 (by rfl) _ _ (by rfl) (2) (v) (0) (0) (97 + (j : Int)) (0) (by rfl) (by rfl) ?_
        refine hK.out _ _ ?_ (fun hHeld => ?_)
        · (try dsimp only)
          exact fun _ => ⟨(World.cell?_alloc_lt _ _ _ hl0).trans hHeld.1, (World.cell?_alloc_lt _ _ _ hl1).trans hHeld.2.1, (World.cell?_alloc_lt _ _ _ hl2).trans hHeld.2.2⟩
        clear hK K
        replace hHeld := hHeld rfl
        try simp only [Act.put, List.getElem_toArray, List.getElem_cons_zero, List.getElem_cons_succ, List.setIfInBounds_toArray, List.set_cons_zero, List.set_cons_succ]
        refine wpAnyN_step (i := 15) (listed' := #[true, true, true, true, true, true, true, true, true, true, true, true, true, true, true, true, false, false, false, false]) (by kernel_rfl) rfl (by rfl) (fun K hK => ?_)
        refine step_t (by rfl) _ _ (by rfl) (u) (some ⟨wo1.heap.size, 0, none⟩) 2 2 (by rfl) (by rfl) ?_
        intro wT hbt
        have hzT := hbt.size
        have T3 := ((T1'.out).keep ((Below.refl _ _).alloc (Nat.le_refl _) _)).keep hbt
        have X3 : OpsLie wT (Kn.delayF (prOf l1) (prOf l2) j, some ⟨wo1.heap.size, 0, none⟩, 2) := by (have h9 := (Whole.made wo1 32 #[.int .i64 (2), .int .i64 (v), .int .i64 (0), .int .i64 (0), .int .i64 (97 + (j : Int)), .int .i64 (0)]).same (hbt.block _ (by simp))); rw [← E1.out] at h9; exact .of_whole (Nat.le_of_ble_eq_true rfl) rfl h9
        have T4 := Lib.hid (T3.keep ((Below.refl wT.heap.size wT).alloc (Nat.le_refl _) (.cells #[.int .i64 (u), .slice (some ⟨wo1.heap.size, 0, none⟩) 2 2] 29)))
        have X4 := Lib.hid (X3.below ((Below.refl wT.heap.size wT).alloc (Nat.le_refl _) (.cells #[.int .i64 (u), .slice (some ⟨wo1.heap.size, 0, none⟩) 2 2] 29)))
        simp only [World.size_alloc] at hzT
        have h3 := T3.blk.lt
        clear T3 X3 T1'
        refine hK.out _ _ ?_ (fun hHeld => ?_)
        · (try dsimp only)
          exact fun _ => ⟨(hbt.cell (p := ad2.add j) (lt_alloc hl0 _)).trans hHeld.1, (hbt.cell (p := ad1.add j) (lt_alloc hl1 _)).trans hHeld.2.1, (hbt.cell (p := ⟨w1.heap.size, 0, none⟩) (lt_alloc hl2 _)).trans hHeld.2.2⟩
        clear hK K
        replace hHeld := hHeld rfl
        try simp only [Act.put, List.getElem_toArray, List.getElem_cons_zero, List.getElem_cons_succ, List.setIfInBounds_toArray, List.set_cons_zero, List.set_cons_succ]
        replace hl0 := Nat.lt_of_lt_of_le (lt_alloc hl0 _) hbt.size
        replace hl1 := Nat.lt_of_lt_of_le (lt_alloc hl1 _) hbt.size
        replace hl2 := Nat.lt_of_lt_of_le (lt_alloc hl2 _) hbt.size
        refine wpAnyN_step (i := 16) (listed' := #[true, true, true, true, true, true, true, true, true, true, true, true, true, true, true, true, true, false, false, false]) (by kernel_rfl) rfl (by rfl) (fun K hK => ?_)
        refine step_task1 (by rfl) _ (by rfl) (u) (some ⟨wo1.heap.size, 0, none⟩) 2 2 (by rfl) ?_
        refine hK.out _ _ ?_ (fun hHeld => ?_)
        · (try dsimp only)
          exact fun _ => ⟨(World.cell?_alloc_lt _ _ _ hl0).trans hHeld.1, (World.cell?_alloc_lt _ _ _ hl1).trans hHeld.2.1, (World.cell?_alloc_lt _ _ _ hl2).trans hHeld.2.2⟩
        clear hK K
        replace hHeld := hHeld rfl
        try simp only [Act.put, List.getElem_toArray, List.getElem_cons_zero, List.getElem_cons_succ, List.setIfInBounds_toArray, List.set_cons_zero, List.set_cons_succ]
        refine wpAnyN_step (i := 17) (listed' := #[true, true, true, true, true, true, true, true, true, true, true, true, true, true, true, true, true, true, false, false]) (by kernel_rfl) rfl (by rfl) (fun K hK => ?_)
        refine step_append_lies _ (by rfl) _ _ _ (by rfl) (w1.heap.size + 1) 29 i0 _ 2 32 Try.underlying23 hi iz0 iz1 iz2 rfl (by omega) V rs.length (tkC rs) (by rfl) T4.out.row ⟨wT.heap.size, 0, none⟩ 1 1 [.int .i64 (u), .slice (some ⟨wo1.heap.size, 0, none⟩) 2 2] (by rfl) (by rfl) (World.news_of_block (cs := #[.int .i64 (u), .slice (some ⟨wo1.heap.size, 0, none⟩) 2 2]) (t := 29) (fr := (0, 0)) (heap_alloc_new _ _)) (by simp [Value.oneCell']) (by omega) (by unfold maxLen; omega) (by omega) (by simp; omega) (wT.heap.size + 1) (by simp) ?_
        intro gg cap w5 hown hgrow hat hlt5
        have hVlt := T4.out.row.lt
        have y := T4.out.blk.grown hgrow (own_block T4.out.row T4.out.blk (by decide))
        have y0 := y.cell 0
        have y1 := y.frozen 0
        simp only [List.getElem?_toArray, List.getElem?_cons_zero] at y0
        have TP := Lib.hid (T4.out.push (x := (Kn.delayF (prOf l1) (prOf l2) j, some ⟨wo1.heap.size, 0, none⟩, 2)) X4.out (by rw [← E2.out] at hown; exact hown) hgrow)
        simp only [hrl] at TP
        clear y hown hat
        refine hK.out _ _ ?_ (fun hHeld => ?_)
        · (try dsimp only)
          exact fun _ => ⟨(hgrow.cell_far (ad2.add j) (lt_alloc hl0 _) (fun e => absurd (hVlt _ e.symm).1 (Nat.not_le_of_lt (Nat.lt_succ_of_lt hadk0)))).trans hHeld.1, (hgrow.cell_far (ad1.add j) (lt_alloc hl1 _) (fun e => absurd (hVlt _ e.symm).1 (Nat.not_le_of_lt (Nat.lt_succ_of_lt hadk1)))).trans hHeld.2.1, (hgrow.cell_far (⟨w1.heap.size, 0, none⟩) (lt_alloc hl2 _) (fun e => absurd (hVlt _ e.symm).1 (Nat.not_succ_le_self _))).trans hHeld.2.2⟩
        clear hK K
        replace hHeld := hHeld rfl
        try simp only [Act.put, List.getElem_toArray, List.getElem_cons_zero, List.getElem_cons_succ, List.setIfInBounds_toArray, List.set_cons_zero, List.set_cons_succ]
        refine wpAnyN_take (i := 18) (v := ?_) (listed' := #[true, true, true, true, true, true, true, true, true, true, true, true, true, true, true, true, true, true, true, false]) rfl (by kernel_rfl) (by kernel_rfl) (by kernel_rfl) (by rfl) (fun _ _ _ h => h) (Or.inl ⟨by rfl, ?_⟩) (by assumption) ?_
        rotate_left
        · intro w hSw
          (try dsimp only at hSw)
          obtain ⟨hS0', hS1', hS2'⟩ := hSw
          go_simp
          with_reducible rfl
        try simp only [Act.put, List.getElem_toArray, List.getElem_cons_zero, List.getElem_cons_succ, List.setIfInBounds_toArray, List.set_cons_zero, List.set_cons_succ]
        refine wpAnyN_step (i := 19) (listed' := #[true, true, true, true, true, true, true, true, true, true, true, true, true, true, true, true, true, true, true, true]) (by kernel_rfl) rfl (by rfl) (fun K hK => ?_)
        refine step_store23 (by rfl) _ _ (by rfl) (by rfl) (by rfl) y0 y1 ?_
        refine hK.out _ _ ?_ (fun hHeld => ?_)
        · exact fun h => absurd h (by decide)
        clear hK K
        try simp only [Act.put, List.getElem_toArray, List.getElem_cons_zero, List.getElem_cons_succ]
        refine wpAnyN_done (by kernel_rfl) ?_ _
        go_wp2_with fail
        go_roundg (N - (j + 1))
        case measure => omega
        case rel => exact ⟨j + 1, _, rs ++ [(Kn.delayF (prOf l1) (prOf l2) j, some ⟨wo1.heap.size, 0, none⟩, 2)], v.toNat, by omega, by go_num, congrArg _ (by omega), TP.out, by rw [List.map_append, HS.out, List.range_succ, List.map_append]; rfl, HOK2.out, Nat.le_refl _⟩
      · as_aux_lemma =>
        have HOK2 := Lib.hid (HOK.out.more (lt' := lt) E1.out E2.out (by omega) (by omega) (by omega) (by omega) (.inl ⟨by omega, rfl⟩))
        go_wp2_with fail
        have hl0 : Addr.block (ad2.add j) < wr.heap.size := hadj0
        have hl1 : Addr.block (ad1.add j) < wr.heap.size := hadj1
        have hl2 : Addr.block (⟨w1.heap.size, 0, none⟩) < wr.heap.size := htb
        refine wp_region_need (S := fun w' => w'.cell? (ad2.add j) = some (.int .i64 u) ∧ w'.cell? (ad1.add j) = some (.int .i64 v) ∧ w'.cell? (⟨w1.heap.size, 0, none⟩) = some (V)) (need := fun i => i != 19) 20 #[false, false, false, false, false, false, false, false, false, false, false, false, false, false, false, false, false, false, false, false] (by rfl) (by rfl) (by kernel_rfl) ?_ (fun hHeld => ?_)
        · (try dsimp only)
          exact ⟨hS0, hS1, k0⟩
        refine wpAnyN_take (i := 0) (v := ?_) (listed' := #[true, false, false, false, false, false, false, false, false, false, false, false, false, false, false, false, false, false, false, false]) rfl (by kernel_rfl) (by kernel_rfl) (by kernel_rfl) (by rfl) (fun _ _ _ h => h) (Or.inl ⟨by rfl, ?_⟩) (by assumption) ?_
        rotate_left
        · intro w hSw
          (try dsimp only at hSw)
          obtain ⟨hS0', hS1', hS2'⟩ := hSw
          go_simp
          with_reducible rfl
        try simp only [Act.put, List.getElem_toArray, List.getElem_cons_zero, List.setIfInBounds_toArray, List.set_cons_zero, List.set_cons_succ]
        refine wpAnyN_take (i := 1) (v := ?_) (listed' := #[true, true, false, false, false, false, false, false, false, false, false, false, false, false, false, false, false, false, false, false]) rfl (by kernel_rfl) (by kernel_rfl) (by kernel_rfl) (by rfl) (fun _ _ _ h => h) (Or.inl ⟨by rfl, ?_⟩) (by assumption) ?_
        rotate_left
        · intro w hSw
          (try dsimp only at hSw)
          obtain ⟨hS0', hS1', hS2'⟩ := hSw
          go_simp
          with_reducible rfl
        try simp only [Act.put, List.getElem_toArray, List.getElem_cons_zero, List.getElem_cons_succ, List.setIfInBounds_toArray, List.set_cons_zero, List.set_cons_succ]
        refine wpAnyN_take (i := 2) (v := ?_) (listed' := #[true, true, true, false, false, false, false, false, false, false, false, false, false, false, false, false, false, false, false, false]) rfl (by kernel_rfl) (by kernel_rfl) (by kernel_rfl) (by rfl) (fun _ _ _ h => h) (Or.inl ⟨by rfl, ?_⟩) (by assumption) ?_
        rotate_left
        · intro w hSw
          (try dsimp only at hSw)
          obtain ⟨hS0', hS1', hS2'⟩ := hSw
          go_simp
          with_reducible rfl
        try simp only [Act.put, List.getElem_toArray, List.getElem_cons_zero, List.getElem_cons_succ, List.setIfInBounds_toArray, List.set_cons_zero, List.set_cons_succ]
        refine wpAnyN_take (i := 3) (v := ?_) (listed' := #[true, true, true, true, false, false, false, false, false, false, false, false, false, false, false, false, false, false, false, false]) rfl (by kernel_rfl) (by kernel_rfl) (by kernel_rfl) (by rfl) (fun _ _ _ h => h) (Or.inl ⟨by rfl, ?_⟩) (by assumption) ?_
        rotate_left
        · intro w hSw
          (try dsimp only at hSw)
          obtain ⟨hS0', hS1', hS2'⟩ := hSw
          go_simp
          with_reducible rfl
        try simp only [Act.put, List.getElem_toArray, List.getElem_cons_zero, List.getElem_cons_succ, List.setIfInBounds_toArray, List.set_cons_zero, List.set_cons_succ]
        refine wpAnyN_take (i := 4) (v := ?_) (listed' := #[true, true, true, true, true, false, false, false, false, false, false, false, false, false, false, false, false, false, false, false]) rfl (by kernel_rfl) (by kernel_rfl) (by kernel_rfl) (by rfl) (fun _ _ _ h => h) (Or.inl ⟨by rfl, ?_⟩) (by assumption) ?_
        rotate_left
        · intro w hSw
          (try dsimp only at hSw)
          obtain ⟨hS0', hS1', hS2'⟩ := hSw
          go_simp
          with_reducible rfl
        try simp only [Act.put, List.getElem_toArray, List.getElem_cons_zero, List.getElem_cons_succ, List.setIfInBounds_toArray, List.set_cons_zero, List.set_cons_succ]
        refine wpAnyN_take (i := 5) (v := ?_) (listed' := #[true, true, true, true, true, true, false, false, false, false, false, false, false, false, false, false, false, false, false, false]) rfl (by kernel_rfl) (by kernel_rfl) (by kernel_rfl) (by rfl) (fun _ _ _ h => h) (Or.inl ⟨by rfl, ?_⟩) (by assumption) ?_
        rotate_left
        · intro w hSw
          (try dsimp only at hSw)
          obtain ⟨hS0', hS1', hS2'⟩ := hSw
          go_simp
          with_reducible rfl
        try simp only [Act.put, List.getElem_toArray, List.getElem_cons_zero, List.getElem_cons_succ, List.setIfInBounds_toArray, List.set_cons_zero, List.set_cons_succ]
        refine wpAnyN_take (i := 6) (v := ?_) (listed' := #[true, true, true, true, true, true, true, false, false, false, false, false, false, false, false, false, false, false, false, false]) rfl (by kernel_rfl) (by kernel_rfl) (by kernel_rfl) (by rfl) (fun _ _ _ h => h) (Or.inl ⟨by rfl, ?_⟩) (by assumption) ?_
        rotate_left
        · intro w hSw
          (try dsimp only at hSw)
          obtain ⟨hS0', hS1', hS2'⟩ := hSw
          go_simp
          with_reducible rfl
        try simp only [Act.put, List.getElem_toArray, List.getElem_cons_zero, List.getElem_cons_succ, List.setIfInBounds_toArray, List.set_cons_zero, List.set_cons_succ]
        refine wpAnyN_take (i := 7) (v := ?_) (listed' := #[true, true, true, true, true, true, true, true, false, false, false, false, false, false, false, false, false, false, false, false]) rfl (by kernel_rfl) (by kernel_rfl) (by kernel_rfl) (by rfl) (fun _ _ _ h => h) (Or.inl ⟨by rfl, ?_⟩) (by assumption) ?_
        rotate_left
        · intro w hSw
          (try dsimp only at hSw)
          obtain ⟨hS0', hS1', hS2'⟩ := hSw
          go_simp
          with_reducible rfl
        try simp only [Act.put, List.getElem_toArray, List.getElem_cons_zero, List.getElem_cons_succ, List.setIfInBounds_toArray, List.set_cons_zero, List.set_cons_succ]
        refine wpAnyN_take (i := 8) (v := ?_) (listed' := #[true, true, true, true, true, true, true, true, true, false, false, false, false, false, false, false, false, false, false, false]) rfl (by kernel_rfl) (by kernel_rfl) (by kernel_rfl) (by rfl) (fun _ _ _ h => h) (Or.inl ⟨by rfl, ?_⟩) (by assumption) ?_
        rotate_left
        · intro w hSw
          (try dsimp only at hSw)
          obtain ⟨hS0', hS1', hS2'⟩ := hSw
          go_simp
          with_reducible rfl
        try simp only [Act.put, List.getElem_toArray, List.getElem_cons_zero, List.getElem_cons_succ, List.setIfInBounds_toArray, List.set_cons_zero, List.set_cons_succ]
        refine wpAnyN_take (i := 9) (v := ?_) (listed' := #[true, true, true, true, true, true, true, true, true, true, false, false, false, false, false, false, false, false, false, false]) rfl (by kernel_rfl) (by kernel_rfl) (by kernel_rfl) (by rfl) (fun _ _ _ h => h) (Or.inl ⟨by rfl, ?_⟩) (by assumption) ?_
        rotate_left
        · intro w hSw
          (try dsimp only at hSw)
          obtain ⟨hS0', hS1', hS2'⟩ := hSw
          go_simp
          with_reducible rfl
        try simp only [Act.put, List.getElem_toArray, List.getElem_cons_zero, List.getElem_cons_succ, List.setIfInBounds_toArray, List.set_cons_zero, List.set_cons_succ]
        refine wpAnyN_take (i := 11) (v := ?_) (listed' := #[true, true, true, true, true, true, true, true, true, true, false, true, false, false, false, false, false, false, false, false]) rfl (by kernel_rfl) (by kernel_rfl) (by kernel_rfl) (by rfl) (fun _ _ _ h => h) (Or.inl ⟨by rfl, ?_⟩) (by assumption) ?_
        rotate_left
        · intro w hSw
          (try dsimp only at hSw)
          obtain ⟨hS0', hS1', hS2'⟩ := hSw
          go_simp
          with_reducible rfl
        try simp only [Act.put, List.getElem_toArray, List.getElem_cons_zero, List.getElem_cons_succ, List.setIfInBounds_toArray, List.set_cons_zero, List.set_cons_succ]
        refine wpAnyN_take (i := 12) (v := ?_) (listed' := #[true, true, true, true, true, true, true, true, true, true, false, true, true, false, false, false, false, false, false, false]) rfl (by kernel_rfl) (by kernel_rfl) (by kernel_rfl) (by rfl) (fun _ _ _ h => h) (Or.inl ⟨by rfl, ?_⟩) (by assumption) ?_
        rotate_left
        · intro w hSw
          (try dsimp only at hSw)
          obtain ⟨hS0', hS1', hS2'⟩ := hSw
          go_simp
          with_reducible rfl
        try simp only [Act.put, List.getElem_toArray, List.getElem_cons_zero, List.getElem_cons_succ, List.setIfInBounds_toArray, List.set_cons_zero, List.set_cons_succ]
        refine wpAnyN_step (i := 10) (listed' := #[true, true, true, true, true, true, true, true, true, true, true, true, true, false, false, false, false, false, false, false]) (by kernel_rfl) rfl (by rfl) (fun K hK => ?_)
        refine step_o (by rfl) _ _ _ (by rfl) (2) (v) (0) (by rfl) (by rfl) (by rfl) ?_
        intro wo0 hb0
        have hz0' : wr.heap.size ≤ wo0.heap.size := hb0.size
        have T0' := Lib.hid ((HT.out.keep (Below.drew (Below.refl _ _))).keep hb0)
        have hT0' := T0'.out.blk.lt
        refine hK.out _ _ ?_ (fun hHeld => ?_)
        · (try dsimp only)
          exact fun _ => ⟨(hb0.cell (p := ad2.add j) hl0).trans hHeld.1, (hb0.cell (p := ad1.add j) hl1).trans hHeld.2.1, (hb0.cell (p := ⟨w1.heap.size, 0, none⟩) hl2).trans hHeld.2.2⟩
        clear hK K
        replace hHeld := hHeld rfl
        try simp only [Act.put, List.getElem_toArray, List.getElem_cons_zero, List.getElem_cons_succ, List.setIfInBounds_toArray, List.set_cons_zero, List.set_cons_succ]
        replace hl0 := Nat.lt_of_lt_of_le hl0 hz0'
        replace hl1 := Nat.lt_of_lt_of_le hl1 hz0'
        replace hl2 := Nat.lt_of_lt_of_le hl2 hz0'
        refine wpAnyN_step (i := 13) (listed' := #[true, true, true, true, true, true, true, true, true, true, true, true, true, true, false, false, false, false, false, false]) (by kernel_rfl) rfl (by rfl) (fun K hK => ?_)
        refine step_o (by rfl) _ _ _ (by rfl) (0) (97 + (j : Int)) (0) (by rfl) (by first | exact Eq.trans (b := Value.int .i64 (IntKind.i64.wrap (97 + (j : Int)))) rfl (congrArg (Value.int .i64) (by rw [IntKind.wrap_i64]; omega)) | rfl) (by rfl) ?_
        intro wo1 hb1
        have hz1' : wo0.heap.size ≤ wo1.heap.size := hb1.size
        have T1' := Lib.hid ((T0'.out).keep hb1)
        have hT1' := T1'.out.blk.lt
        clear T0'
        refine hK.out _ _ ?_ (fun hHeld => ?_)
        · (try dsimp only)
          exact fun _ => ⟨(hb1.cell (p := ad2.add j) hl0).trans hHeld.1, (hb1.cell (p := ad1.add j) hl1).trans hHeld.2.1, (hb1.cell (p := ⟨w1.heap.size, 0, none⟩) hl2).trans hHeld.2.2⟩
        clear hK K
        replace hHeld := hHeld rfl
        try simp only [Act.put, List.getElem_toArray, List.getElem_cons_zero, List.getElem_cons_succ, List.setIfInBounds_toArray, List.set_cons_zero, List.set_cons_succ]
        replace hl0 := Nat.lt_of_lt_of_le hl0 hz1'
        replace hl1 := Nat.lt_of_lt_of_le hl1 hz1'
        replace hl2 := Nat.lt_of_lt_of_le hl2 hz1'
        refine wpAnyN_step (i := 14) (listed' := #[true, true, true, true, true, true, true, true, true, true, true, true, true, true, true, false, false, false, false, false]) (by kernel_rfl) rfl (by rfl) (fun K hK => ?_)
        refine step_ops2 (by rfl) _ _ (by rfl) (2) (v) (0) (0) (97 + (j : Int)) (0) (by rfl) (by rfl) ?_
        refine hK.out _ _ ?_ (fun hHeld => ?_)
        · (try dsimp only)
          exact fun _ => ⟨(World.cell?_alloc_lt _ _ _ hl0).trans hHeld.1, (World.cell?_alloc_lt _ _ _ hl1).trans hHeld.2.1, (World.cell?_alloc_lt _ _ _ hl2).trans hHeld.2.2⟩
        clear hK K
        replace hHeld := hHeld rfl
        try simp only [Act.put, List.getElem_toArray, List.getElem_cons_zero, List.getElem_cons_succ, List.setIfInBounds_toArray, List.set_cons_zero, List.set_cons_succ]
        refine wpAnyN_step (i := 15) (listed' := #[true, true, true, true, true, true, true, true, true, true, true, true, true, true, true, true, false, false, false, false]) (by kernel_rfl) rfl (by rfl) (fun K hK => ?_)
        refine step_t (by rfl) _ _ (by rfl) (u) (some ⟨wo1.heap.size, 0, none⟩) 2 2 (by rfl) (by rfl) ?_
        intro wT hbt
        have hzT := hbt.size
        have T3 := ((T1'.out).keep ((Below.refl _ _).alloc (Nat.le_refl _) _)).keep hbt
        have X3 : OpsLie wT (Kn.delayF (prOf l1) (prOf l2) j, some ⟨wo1.heap.size, 0, none⟩, 2) := by (have h9 := (Whole.made wo1 32 #[.int .i64 (2), .int .i64 (v), .int .i64 (0), .int .i64 (0), .int .i64 (97 + (j : Int)), .int .i64 (0)]).same (hbt.block _ (by simp))); rw [← E1.out] at h9; exact .of_whole (Nat.le_of_ble_eq_true rfl) rfl h9
        have T4 := Lib.hid (T3.keep ((Below.refl wT.heap.size wT).alloc (Nat.le_refl _) (.cells #[.int .i64 (u), .slice (some ⟨wo1.heap.size, 0, none⟩) 2 2] 29)))
        have X4 := Lib.hid (X3.below ((Below.refl wT.heap.size wT).alloc (Nat.le_refl _) (.cells #[.int .i64 (u), .slice (some ⟨wo1.heap.size, 0, none⟩) 2 2] 29)))
        simp only [World.size_alloc] at hzT
        have h3 := T3.blk.lt
        clear T3 X3 T1'
        refine hK.out _ _ ?_ (fun hHeld => ?_)
        · (try dsimp only)
          exact fun _ => ⟨(hbt.cell (p := ad2.add j) (lt_alloc hl0 _)).trans hHeld.1, (hbt.cell (p := ad1.add j) (lt_alloc hl1 _)).trans hHeld.2.1, (hbt.cell (p := ⟨w1.heap.size, 0, none⟩) (lt_alloc hl2 _)).trans hHeld.2.2⟩
        clear hK K
        replace hHeld := hHeld rfl
        try simp only [Act.put, List.getElem_toArray, List.getElem_cons_zero, List.getElem_cons_succ, List.setIfInBounds_toArray, List.set_cons_zero, List.set_cons_succ]
        replace hl0 := Nat.lt_of_lt_of_le (lt_alloc hl0 _) hbt.size
        replace hl1 := Nat.lt_of_lt_of_le (lt_alloc hl1 _) hbt.size
        replace hl2 := Nat.lt_of_lt_of_le (lt_alloc hl2 _) hbt.size
        refine wpAnyN_step (i := 16) (listed' := #[true, true, true, true, true, true, true, true, true, true, true, true, true, true, true, true, true, false, false, false]) (by kernel_rfl) rfl (by rfl) (fun K hK => ?_)
        refine step_task1 (by rfl) _ (by rfl) (u) (some ⟨wo1.heap.size, 0, none⟩) 2 2 (by rfl) ?_
        refine hK.out _ _ ?_ (fun hHeld => ?_)
        · (try dsimp only)
          exact fun _ => ⟨(World.cell?_alloc_lt _ _ _ hl0).trans hHeld.1, (World.cell?_alloc_lt _ _ _ hl1).trans hHeld.2.1, (World.cell?_alloc_lt _ _ _ hl2).trans hHeld.2.2⟩
        clear hK K
        replace hHeld := hHeld rfl
        try simp only [Act.put, List.getElem_toArray, List.getElem_cons_zero, List.getElem_cons_succ, List.setIfInBounds_toArray, List.set_cons_zero, List.set_cons_succ]
        refine wpAnyN_step (i := 17) (listed' := #[true, true, true, true, true, true, true, true, true, true, true, true, true, true, true, true, true, true, false, false]) (by kernel_rfl) rfl (by rfl) (fun K hK => ?_)
        refine step_append_lies _ (by rfl) _ _ _ (by rfl) (w1.heap.size + 1) 29 i0 _ 2 32 Try.underlying23 hi iz0 iz1 iz2 rfl (by omega) V rs.length (tkC rs) (by rfl) T4.out.row ⟨wT.heap.size, 0, none⟩ 1 1 [.int .i64 (u), .slice (some ⟨wo1.heap.size, 0, none⟩) 2 2] (by rfl) (by rfl) (World.news_of_block (cs := #[.int .i64 (u), .slice (some ⟨wo1.heap.size, 0, none⟩) 2 2]) (t := 29) (fr := (0, 0)) (heap_alloc_new _ _)) (by simp [Value.oneCell']) (by omega) (by unfold maxLen; omega) (by omega) (by simp; omega) (wT.heap.size + 1) (by simp) ?_
        intro gg cap w5 hown hgrow hat hlt5
        have hVlt := T4.out.row.lt
        have y := T4.out.blk.grown hgrow (own_block T4.out.row T4.out.blk (by decide))
        have y0 := y.cell 0
        have y1 := y.frozen 0
        simp only [List.getElem?_toArray, List.getElem?_cons_zero] at y0
        have TP := Lib.hid (T4.out.push (x := (Kn.delayF (prOf l1) (prOf l2) j, some ⟨wo1.heap.size, 0, none⟩, 2)) X4.out (by rw [← E2.out] at hown; exact hown) hgrow)
        simp only [hrl] at TP
        clear y hown hat
        refine hK.out _ _ ?_ (fun hHeld => ?_)
        · (try dsimp only)
          exact fun _ => ⟨(hgrow.cell_far (ad2.add j) (lt_alloc hl0 _) (fun e => absurd (hVlt _ e.symm).1 (Nat.not_le_of_lt (Nat.lt_succ_of_lt hadk0)))).trans hHeld.1, (hgrow.cell_far (ad1.add j) (lt_alloc hl1 _) (fun e => absurd (hVlt _ e.symm).1 (Nat.not_le_of_lt (Nat.lt_succ_of_lt hadk1)))).trans hHeld.2.1, (hgrow.cell_far (⟨w1.heap.size, 0, none⟩) (lt_alloc hl2 _) (fun e => absurd (hVlt _ e.symm).1 (Nat.not_succ_le_self _))).trans hHeld.2.2⟩
        clear hK K
        replace hHeld := hHeld rfl
        try simp only [Act.put, List.getElem_toArray, List.getElem_cons_zero, List.getElem_cons_succ, List.setIfInBounds_toArray, List.set_cons_zero, List.set_cons_succ]
        refine wpAnyN_take (i := 18) (v := ?_) (listed' := #[true, true, true, true, true, true, true, true, true, true, true, true, true, true, true, true, true, true, true, false]) rfl (by kernel_rfl) (by kernel_rfl) (by kernel_rfl) (by rfl) (fun _ _ _ h => h) (Or.inl ⟨by rfl, ?_⟩) (by assumption) ?_
        rotate_left
        · intro w hSw
          (try dsimp only at hSw)
          obtain ⟨hS0', hS1', hS2'⟩ := hSw
          go_simp
          with_reducible rfl
        try simp only [Act.put, List.getElem_toArray, List.getElem_cons_zero, List.getElem_cons_succ, List.setIfInBounds_toArray, List.set_cons_zero, List.set_cons_succ]
        refine wpAnyN_step (i := 19) (listed' := #[true, true, true, true, true, true, true, true, true, true, true, true, true, true, true, true, true, true, true, true]) (by kernel_rfl) rfl (by rfl) (fun K hK => ?_)
        refine step_store23 (by rfl) _ _ (by rfl) (by rfl) (by rfl) y0 y1 ?_
        refine hK.out _ _ ?_ (fun hHeld => ?_)
        · exact fun h => absurd h (by decide)
        clear hK K
        try simp only [Act.put, List.getElem_toArray, List.getElem_cons_zero, List.getElem_cons_succ]
        refine wpAnyN_done (by kernel_rfl) ?_ _
        go_wp2_with fail
        go_roundg (N - (j + 1))
        case measure => omega
        case rel => exact ⟨j + 1, _, rs ++ [(Kn.delayF (prOf l1) (prOf l2) j, some ⟨wo1.heap.size, 0, none⟩, 2)], lt, by omega, by go_num, by go_num, TP.out, by rw [List.map_append, HS.out, List.range_succ, List.map_append]; rfl, HOK2.out, Nat.le_refl _⟩
    · have hlt' : ¬ (j : Int) < N := by omega
      have hjn : j = N := by omega
      have hrl : rs.length = j := by have := congrArg List.length hrs; simpa using this
      subst hjn
      have HRL := Lib.hid hrl
      obtain ⟨A9, c9, hV⟩ := hT.shape
      rw [hrl] at hV
      subst hV
      have k0 := hT.blk.cell 0
      have k1 := hT.blk.cell 1
      have k2 := hT.blk.cell 2
      have k3 := hT.blk.cell 3
      have kf := hT.blk.frozen 0
      have hlt4 := hT.blk.lt
      simp only [List.getElem?_toArray, List.getElem?_cons_zero, List.getElem?_cons_succ] at k0 k1 k2 k3
      have HT := Lib.hid hT
      have HS := Lib.hid hrs
      have hltm := hok.2.1
      have hf := Lib.hid (delay_fits (d := prOf l1) (pr := prOf l2) (n := j) (by omega) (by omega) (fun i hi => by have := hok.1 i hi; omega))
      have hrun := Kn.delay_run hf.out (by omega) (fun i hi => (hok.1 i hi).2.2.1) hltm (fun i hi => (hok.1 i hi).2.2.2.2) (hok.2.2.1 (by omega))
      have HOUT := Lib.hid hrun.1
      have HTK := Lib.hid hrun.2
      have HP := Lib.hid hok.1
      clear hT hrs hrl hrun hok
      go_wp2_with fail
      refine (run_at (t := Kn.delayT (prOf l1) (prOf l2) j) (ticks := 1000) (ops := 1000) (by simp [Kn.delayT]) rfl rfl rfl rfl rfl ?tab hf.out (by omega) (by omega)).mono ?_
      case tab => exact (HT.out.tab (t := Kn.delayT (prOf l1) (prOf l2) j) HS.out.symm (Reads.nil _) (Reads.nil _) (by have := HRL.out; omega) (Nat.zero_le _) (Nat.zero_le _)).1
      rintro e w9 hRR
      obtain ⟨P9, Q9, R9, pn, pc, qn, qc, rn, rc, rfl, hb9, HRA⟩ := hRR.opened
      clear hRR
      generalize Kn.runT (Kn.delayT (prOf l1) (prOf l2) j) 1000 1000 = k at *
      have hbel := HB1.out.trans ((HT.out.bel.trans (hb9.mono HT.out.bel.size)).mono hz1)
      have HBE := Lib.hid (hbel.alloc hbel.size (.cells #[.slice P9 pn pc, .slice Q9 qn qc, .slice R9 rn rc, .int .i64 k.ticks, .int .i64 k.ops] 36))
      have HC := Lib.hid (HRA.out.conv _ ((Below.refl w9.heap.size w9).alloc (Nat.le_refl _) (.cells #[.slice P9 pn pc, .slice Q9 qn qc, .slice R9 rn rc, .int .i64 k.ticks, .int .i64 k.ops] 36)))
      clear hb9 hbel 
      have HRD1 := Lib.hid (HR1.out.below HBE.out (Nat.le_refl _))
      have HRD2 := Lib.hid (HR2.out.below HBE.out (Nat.le_refl _))
      clear HT HS hnil HB1 HR1 HR2 HRA k0 k1 k2 k3 kf hlt4 hf HRL
      go_wp2_with fail
      go_loopg [11, 12] lt (fun kk s p wr => ∃ m : Nat, m ≤ lt ∧ p = .int .i64 ((m : Int) + 1) ∧ s = .string (dlyW l1 l2 j m 0 0) ∧ wr = w9.alloc (.cells #[.slice P9 pn pc, .slice Q9 qn qc, .slice R9 rn rc, .int .i64 k.ticks, .int .i64 k.ops] 36) ∧ lt - m ≤ kk)
      case atStart => exact ⟨0, Nat.zero_le _, rfl, rfl, rfl, by omega⟩
      case round =>
        obtain ⟨m, hm, rfl, rfl, rfl, hkk1⟩ := hrel
        by_cases hml : m < lt
        · have hml' : (m : Int) + 1 ≤ lt := by omega
          go_wp2_with fail
          go_loopg [11, 13] 32 (fun kk s p wr => ∃ q : Nat, q ≤ 32 ∧ p = .int .i64 q ∧ s = .string (dlyW l1 l2 j m q 0) ∧ wr = w9.alloc (.cells #[.slice P9 pn pc, .slice Q9 qn qc, .slice R9 rn rc, .int .i64 k.ticks, .int .i64 k.ops] 36) ∧ 32 - q ≤ kk)
          case atStart => exact ⟨0, Nat.zero_le _, rfl, rfl, rfl, by omega⟩
          case round =>
            obtain ⟨q, hq, rfl, rfl, rfl, hkk2⟩ := hrel
            by_cases hq32 : q < 32
            · have hq32' : (q : Int) < 32 := by omega
              go_wp2_with fail
              go_loopg [11, 14] j (fun kk s p wr => ∃ i : Nat, i ≤ j ∧ p = .int .i64 i ∧ s = .string (dlyW l1 l2 j m q i) ∧ wr = w9.alloc (.cells #[.slice P9 pn pc, .slice Q9 qn qc, .slice R9 rn rc, .int .i64 k.ticks, .int .i64 k.ops] 36) ∧ j - i ≤ kk)
              case atStart => exact ⟨0, Nat.zero_le _, rfl, rfl, rfl, by omega⟩
              case round =>
                obtain ⟨i, hi, rfl, rfl, rfl, hkk3⟩ := hrel
                by_cases hij : i < j
                · have hij' : (i : Int) < j := by omega
                  obtain ⟨ad1, eA1, hab1, hac1⟩ := HRD1.out.intAt' HN.out (show i < l1.length by have := HN.out; omega)
                  obtain ⟨ad2, eA2, hab2, hac2⟩ := HRD2.out.intAt' HN2.out (show i < l2.length by have := HN2.out; omega)
                  subst eA1
                  subst eA2
                  have E1 := Lib.hid (prOf_at (show i < l1.length by have := HN.out; omega))
                  have E2 := Lib.hid (prOf_at (show i < l2.length by have := HN2.out; omega))
                  have hp2 := HP.out i hij
                  have hrs := Lib.hid (rowAt_succ (prOf l1) (prOf l2) i (m + 1) q)
                  rw [E1.out, E2.out] at hp2 hrs
                  generalize l1[i] = v at *
                  generalize l2[i] = u at *
                  by_cases hv : v = (m : Int) + 1 ∧ u = q
                  · as_aux_lemma =>
                      obtain ⟨hv1, hv2⟩ := hv
                      subst hv1
                      subst hv2
                      have hrs2 : Kn.rowAt (prOf l1) (prOf l2) (i + 1) (m + 1) q = Kn.rowAt (prOf l1) (prOf l2) i (m + 1) q ++ [(i : Int)] := by rw [hrs.out, if_pos ⟨by omega, by omega⟩]
                      obtain ⟨hA, hAs⟩ := dlyW_push (n := j) (show q ≤ 32 by omega) (by omega) (show i ≤ 20 by omega) hrs2
                      have hL := run_letter i (by omega)
                      have HA := Lib.hid hA
                      clear hrs2 hA
                      go_wp2_with fail
                      go_roundg (j - (i + 1))
                      case measure => omega
                      case rel => exact ⟨i + 1, by omega, by go_num, congrArg Value.string (Eq.trans (by simp) HA.out), rfl, Nat.le_refl _⟩
                  · have hrs2 : Kn.rowAt (prOf l1) (prOf l2) (i + 1) (m + 1) q = Kn.rowAt (prOf l1) (prOf l2) i (m + 1) q := by rw [hrs.out, if_neg (by omega), List.append_nil]
                    have HS2 := Lib.hid (show dlyW l1 l2 j m q (i + 1) = dlyW l1 l2 j m q i by unfold dlyW; rw [hrs2])
                    clear hrs2
                    by_cases hv1 : v = (m : Int) + 1
                    · as_aux_lemma =>
                        have hv2 : ¬ u = (q : Int) := fun h => hv ⟨hv1, h⟩
                        have hvb : (u == (q : Int)) = false := by simpa using hv2
                        subst hv1
                        clear hv
                        go_wp2_with fail
                        go_roundg (j - (i + 1))
                        case measure => omega
                        case rel => exact ⟨i + 1, by omega, by go_num, by rw [HS2.out], rfl, Nat.le_refl _⟩
                    · as_aux_lemma =>
                        have hvb : (v == ((m : Int) + 1)) = false := by simpa using hv1
                        clear hv
                        go_wp2_with fail
                        go_roundg (j - (i + 1))
                        case measure => omega
                        case rel => exact ⟨i + 1, by omega, by go_num, by rw [HS2.out], rfl, Nat.le_refl _⟩
                · have hij' : ¬ (i : Int) < j := by omega
                  have : i = j := by omega
                  subst this
                  go_wp2_with fail
                  go_roundg (32 - (q + 1))
                  case measure => omega
                  case rel => exact ⟨q + 1, by omega, by go_num, by rw [← dlyW_next], rfl, Nat.le_refl _⟩
            · have hq32' : ¬ (q : Int) < 32 := by omega
              have : q = 32 := by omega
              subst this
              go_wp2_with fail
              go_roundg (lt - (m + 1))
              case measure => omega
              case rel => exact ⟨m + 1, by omega, by go_num, by rw [dlyW_tick], rfl, Nat.le_refl _⟩
        · have hml' : ¬ (m : Int) + 1 ≤ lt := by omega
          have : m = lt := by omega
          subst this
          have HC2 := HC.out
          rw [HOUT.out, ← dlyW_end] at HC2
          have htk := HTK.out
          have HB2 := HBE.out
          rw [htk] at HC2 HB2 ⊢
          clear htk
          go_wp2_with (first | (go_at_call 23; refine (num_any _ _).mono ?_; rintro e w3 ⟨rfl, rfl⟩))
          go_ret
          exact ⟨rfl, HB2⟩
end Go.Proofs.Ytncbgnpoffolcaa
