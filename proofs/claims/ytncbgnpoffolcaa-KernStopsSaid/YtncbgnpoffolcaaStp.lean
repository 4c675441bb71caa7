/-
  KernStops: the walk of the law.
-/
import Derived.Test.YtncbgnpoffolcaaStpA
import Derived.Test.YtncbgnpoffolcaaLa
import Derived.Test.YtncbgnpoffolcaaAlv
import Derived.Deep.Quiet
namespace Go.Proofs.Ytncbgnpoffolcaa
open Go.RowKit
set_option maxRecDepth 100000 in
set_option maxHeartbeats 16000000 in
theorem kernStops_any {A1 A2 A3 : Option Addr} {c1 c2 c3 : Nat} {t : Kn.Table} {w : World} (hr : TabRd w w.heap.size A1 A2 A3 t) (a b : Int) : Calls Try.prog 18 #[.agg #[.slice A1 t.tasks.length c1, .slice A2 t.sems.length c2, .int .i64 t.mutexes, .slice A3 t.queues.length c3], .int .i64 a, .int .i64 b] w fun r w' => r = .returned (.bool true) ∧ Below w.heap.size w w' := by
  have HR := Lib.hid hr
  clear hr
  by_cases b0 : a < 0
  · as_aux_lemma =>
    go_enter Try.func18, Try.ntmps18
    go_wp2_with fail
    refine (alive_any (w.alloc (.cells #[.slice A1 t.tasks.length c1, .slice A2 t.sems.length c2, .int .i64 t.mutexes, .slice A3 t.queues.length c3] 26))).mono ?_
    rintro e w1 ⟨rfl, hb1⟩
    have HB1 := Lib.hid (((Below.refl w.heap.size w).alloc (Nat.le_refl _) (.cells #[.slice A1 t.tasks.length c1, .slice A2 t.sems.length c2, .int .i64 t.mutexes, .slice A3 t.queues.length c3] 26)).trans (hb1.mono (Nat.le_of_lt (by simp))))
    clear hb1
    go_wp2_with fail
    go_ret
    exact ⟨rfl, HB1.out⟩
  by_cases b1 : 100 < a
  · as_aux_lemma =>
    go_enter Try.func18, Try.ntmps18
    go_wp2_with fail
    refine (alive_any (w.alloc (.cells #[.slice A1 t.tasks.length c1, .slice A2 t.sems.length c2, .int .i64 t.mutexes, .slice A3 t.queues.length c3] 26))).mono ?_
    rintro e w1 ⟨rfl, hb1⟩
    have HB1 := Lib.hid (((Below.refl w.heap.size w).alloc (Nat.le_refl _) (.cells #[.slice A1 t.tasks.length c1, .slice A2 t.sems.length c2, .int .i64 t.mutexes, .slice A3 t.queues.length c3] 26)).trans (hb1.mono (Nat.le_of_lt (by simp))))
    clear hb1
    go_wp2_with fail
    go_ret
    exact ⟨rfl, HB1.out⟩
  by_cases b2 : b < 0
  · as_aux_lemma =>
    go_enter Try.func18, Try.ntmps18
    go_wp2_with fail
    refine (alive_any (w.alloc (.cells #[.slice A1 t.tasks.length c1, .slice A2 t.sems.length c2, .int .i64 t.mutexes, .slice A3 t.queues.length c3] 26))).mono ?_
    rintro e w1 ⟨rfl, hb1⟩
    have HB1 := Lib.hid (((Below.refl w.heap.size w).alloc (Nat.le_refl _) (.cells #[.slice A1 t.tasks.length c1, .slice A2 t.sems.length c2, .int .i64 t.mutexes, .slice A3 t.queues.length c3] 26)).trans (hb1.mono (Nat.le_of_lt (by simp))))
    clear hb1
    go_wp2_with fail
    go_ret
    exact ⟨rfl, HB1.out⟩
  by_cases b3 : 500 < b
  · as_aux_lemma =>
    go_enter Try.func18, Try.ntmps18
    go_wp2_with fail
    refine (alive_any (w.alloc (.cells #[.slice A1 t.tasks.length c1, .slice A2 t.sems.length c2, .int .i64 t.mutexes, .slice A3 t.queues.length c3] 26))).mono ?_
    rintro e w1 ⟨rfl, hb1⟩
    have HB1 := Lib.hid (((Below.refl w.heap.size w).alloc (Nat.le_refl _) (.cells #[.slice A1 t.tasks.length c1, .slice A2 t.sems.length c2, .int .i64 t.mutexes, .slice A3 t.queues.length c3] 26)).trans (hb1.mono (Nat.le_of_lt (by simp))))
    clear hb1
    go_wp2_with fail
    go_ret
    exact ⟨rfl, HB1.out⟩
  by_cases b4 : 20 < (t.tasks.length : Int)
  · as_aux_lemma =>
    go_enter Try.func18, Try.ntmps18
    go_wp2_with fail
    refine (alive_any (w.alloc (.cells #[.slice A1 t.tasks.length c1, .slice A2 t.sems.length c2, .int .i64 t.mutexes, .slice A3 t.queues.length c3] 26))).mono ?_
    rintro e w1 ⟨rfl, hb1⟩
    have HB1 := Lib.hid (((Below.refl w.heap.size w).alloc (Nat.le_refl _) (.cells #[.slice A1 t.tasks.length c1, .slice A2 t.sems.length c2, .int .i64 t.mutexes, .slice A3 t.queues.length c3] 26)).trans (hb1.mono (Nat.le_of_lt (by simp))))
    have HT1 := Lib.hid ((Whole.made w 26 #[.slice A1 t.tasks.length c1, .slice A2 t.sems.length c2, .int .i64 t.mutexes, .slice A3 t.queues.length c3]).same (hb1.block _ (by simp)))
    have k0 := HT1.out.cell 0
    have k1 := HT1.out.cell 1
    have k2 := HT1.out.cell 2
    have k3 := HT1.out.cell 3
    simp only [List.getElem?_toArray, List.getElem?_cons_zero, List.getElem?_cons_succ] at k0 k1 k2 k3
    clear hb1
    go_wp2_with fail
    go_ret
    exact ⟨rfl, HB1.out⟩
  obtain ⟨T, rfl⟩ : ∃ N : Nat, a = N := ⟨a.toNat, by omega⟩
  obtain ⟨O, rfl⟩ : ∃ N : Nat, b = N := ⟨b.toNat, by omega⟩
  go_enter Try.func18, Try.ntmps18
  go_wp2_with fail
  refine (alive_any (w.alloc (.cells #[.slice A1 t.tasks.length c1, .slice A2 t.sems.length c2, .int .i64 t.mutexes, .slice A3 t.queues.length c3] 26))).mono ?_
  rintro e w1 ⟨rfl, hb1⟩
  have HB1 := Lib.hid (((Below.refl w.heap.size w).alloc (Nat.le_refl _) (.cells #[.slice A1 t.tasks.length c1, .slice A2 t.sems.length c2, .int .i64 t.mutexes, .slice A3 t.queues.length c3] 26)).trans (hb1.mono (Nat.le_of_lt (by simp))))
  have HR1 := Lib.hid ((HR.out.keep fun p hp => HB1.out.cell hp).more HB1.out.size)
  have HT1 := Lib.hid ((Whole.made w 26 #[.slice A1 t.tasks.length c1, .slice A2 t.sems.length c2, .int .i64 t.mutexes, .slice A3 t.queues.length c3]).same (hb1.block _ (by simp)))
  have k0 := HT1.out.cell 0
  have k1 := HT1.out.cell 1
  have k2 := HT1.out.cell 2
  have k3 := HT1.out.cell 3
  simp only [List.getElem?_toArray, List.getElem?_cons_zero, List.getElem?_cons_succ] at k0 k1 k2 k3
  clear hb1
  have hT : T ≤ 100 := by omega
  have hO : O ≤ 500 := by omega
  go_wp2_with fail
  refine (run_st (T := T) (O := O) rfl rfl (by omega) (by omega) HR1.out).mono ?_
  rintro e w2 ⟨P1, Q1, R1, p1, q1, e1, r1, f1, rfl, HA1, hb2⟩
  obtain ⟨hx, hmore⟩ := st_more t (T := T) (O := O) (T' := T + 5) (O' := O + 20) (by omega) (by omega)
  have HX := Lib.hid hx
  have HM := Lib.hid hmore
  obtain ⟨s1, hs1⟩ : ∃ s, s = st t T O := ⟨_, rfl⟩
  obtain ⟨s2, hs2⟩ : ∃ s, s = st t (T + 5) (O + 20) := ⟨_, rfl⟩
  have HS1 := Lib.hid hs1
  have HS2 := Lib.hid hs2
  rw [← HS1.out] at HA1
  rw [← HS1.out]
  rw [← HS1.out, ← HS2.out] at HX HM
  clear hs1 hs2 hx hmore k0 k1 k2 k3
  obtain ⟨W3, hW3⟩ : ∃ W3, W3 = w2.alloc (.cells #[.slice P1 s1.out.length p1, .slice Q1 q1 e1, .slice R1 r1 f1, .int .i64 s1.tk, .int .i64 s1.op] 36) := ⟨_, rfl⟩
  have hb3 : Below w2.heap.size w2 W3 := by rw [hW3]; exact (Below.refl _ _).alloc (Nat.le_refl _) _
  have HC1 : Hid (Whole W3 w2.heap.size 36 #[.slice P1 s1.out.length p1, .slice Q1 q1 e1, .slice R1 r1 f1, .int .i64 s1.tk, .int .i64 s1.op]) := by
    show Whole _ _ _ _
    rw [hW3]; exact Whole.made _ _ _
  have hb13 : Below w1.heap.size w1 W3 := hb2.trans (hb3.mono hb2.size)
  have HB23 := Lib.hid hb3
  have HB3 := Lib.hid (HB1.out.trans (hb13.mono HB1.out.size))
  have HT3 := Lib.hid (HT1.out.same (hb13.block _ HT1.out.lt))
  have HR3 := Lib.hid ((HR1.out.keep fun p hp => hb13.cell hp).more hb13.size)
  have HW3 := Lib.hid hW3
  clear hW3 hb2 hb3 hb13 HR1 HT1 HB1
  obtain ⟨g1, hg1⟩ : ∃ g, g = w2.heap.size := ⟨_, rfl⟩
  have HG1 := Lib.hid hg1
  rw [← hg1] at HC1
  clear hg1
  have k0 := HT3.out.cell 0
  have k1 := HT3.out.cell 1
  have k2 := HT3.out.cell 2
  have k3 := HT3.out.cell 3
  simp only [List.getElem?_toArray, List.getElem?_cons_zero, List.getElem?_cons_succ] at k0 k1 k2 k3
  have hw5 : IntKind.i64.wrap ((T : Int) + 5) = ((T + 5 : Nat) : Int) := by rw [IntKind.wrap_i64]; omega
  have hw20 : IntKind.i64.wrap ((O : Int) + 20) = ((O + 20 : Nat) : Int) := by rw [IntKind.wrap_i64]; omega
  go_upto_region 5 with fail
  rw [← HW3.out, ← HG1.out]
  go_wp2_with fail
  refine (run_st (T := T + 5) (O := O + 20) rfl rfl (by omega) (by omega) HR3.out).mono ?_
  rintro e w4 ⟨P2, Q2, R2, p2, q2, e2, r2, f2, rfl, HA2, hb4⟩
  rw [← HS2.out] at HA2
  rw [← HS2.out]
  obtain ⟨W5, hW5⟩ : ∃ W5, W5 = w4.alloc (.cells #[.slice P2 s2.out.length p2, .slice Q2 q2 e2, .slice R2 r2 f2, .int .i64 s2.tk, .int .i64 s2.op] 36) := ⟨_, rfl⟩
  have hb5 : Below w4.heap.size w4 W5 := by rw [hW5]; exact (Below.refl _ _).alloc (Nat.le_refl _) _
  have HC2 : Hid (Whole W5 w4.heap.size 36 #[.slice P2 s2.out.length p2, .slice Q2 q2 e2, .slice R2 r2 f2, .int .i64 s2.tk, .int .i64 s2.op]) := by
    show Whole _ _ _ _
    rw [hW5]; exact Whole.made _ _ _
  have hb35 : Below W3.heap.size W3 W5 := hb4.trans (hb5.mono hb4.size)
  have HB45 := Lib.hid hb5
  have HB25 := Lib.hid (HB23.out.trans (hb35.mono HB23.out.size))
  have HB5 := Lib.hid (HB3.out.trans (hb35.mono HB3.out.size))
  have HC1' := Lib.hid (HC1.out.same (hb35.block _ HC1.out.lt))
  have HW5 := Lib.hid hW5
  clear hW5 hb4 hb5 hb35 HR3 HT3 HB3 HC1 HB23 HW3 HG1 k0 k1 k2 k3
  obtain ⟨g2, hg2⟩ : ∃ g, g = w4.heap.size := ⟨_, rfl⟩
  have HG2 := Lib.hid hg2
  rw [← hg2] at HC2
  clear hg2
  have hxx : Hid (s2.x = s1.x) := HX
  obtain ⟨x, hx⟩ : ∃ x, x = s1.x := ⟨_, rfl⟩
  rw [← hx] at HM hxx
  rw [← hx, hxx.out]
  clear hx hxx HX HS1 HS2
  go_upto_region 6 with fail
  rw [← HW5.out, ← HG2.out]
  by_cases hx0 : x = 0
  · subst hx0
    obtain ⟨m1, m2, m3, m4, m5, m6⟩ := HM.out rfl
    have HV1 := fun n => HA1.out.pre (W5.drewN n) (HB25.out.drewN' n) s1.out.length (Nat.le_refl _)
    have HV2 := fun n => HA2.out.pre (W5.drewN n) (HB45.out.drewN' n) s1.out.length m5
    simp only [List.take_length] at HV1
    simp only [m6] at HV2
    have HSL := run_pre P2 s2.out.length p2 s1.out.length (Nat.le_trans m5 HA2.out.cap)
    have k0 := HC1'.out.cell 0
    have k3 := HC1'.out.cell 3
    have k4 := HC1'.out.cell 4
    have j0 := HC2.out.cell 0
    have j3 := HC2.out.cell 3
    have j4 := HC2.out.cell 4
    simp only [List.getElem?_toArray, List.getElem?_cons_zero, List.getElem?_cons_succ] at k0 k3 k4 j0 j3 j4
    have M6 := Lib.hid m6
    have hle : (s1.out.length : Int) ≤ s2.out.length := by omega
    clear m6 m5 HM
    have d1 : decide (s1.op ≤ (O : Int)) = true := decide_eq_true m1
    have d2 : decide (s1.tk ≤ (T : Int)) = true := decide_eq_true m2
    have d3 : decide ((s1.out.length : Int) ≤ (s2.out.length : Int)) = true := decide_eq_true hle
    have d4 : decide (s1.op ≤ s2.op) = true := decide_eq_true m3
    have d5 : decide (s1.tk ≤ s2.tk) = true := decide_eq_true m4
    go_upto_region 10 with (first | (go_at_call 23; refine (num_any _ _).mono ?_; rintro e w9 ⟨rfl, rfl⟩))
    refine wp_region_quiet_lit (by kernel_rfl) (by kernel_rfl) ?_
    repeat go_big_quiet_step (fail)
    refine wpQuiet_nil ?_
    intro _ hw'
    obtain ⟨nq, hw2⟩ := hw'
    subst hw2
    go_wp2_with fail
    go_ret
    exact ⟨rfl, HB5.out.drewN' _⟩
  · have hb0 : (x == 0) = false := beq_eq_false_iff_ne.2 hx0
    clear HM
    go_wp2_with (first | (go_at_call 23; refine (num_any _ _).mono ?_; rintro e w9 ⟨rfl, rfl⟩))
    go_ret
    exact ⟨rfl, HB5.out⟩
end Go.Proofs.Ytncbgnpoffolcaa
