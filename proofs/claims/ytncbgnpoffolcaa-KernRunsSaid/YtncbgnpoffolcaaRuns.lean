/-
  KernRuns: the walk of the law.
-/
import Derived.Test.YtncbgnpoffolcaaRtU
import Derived.Test.YtncbgnpoffolcaaRtL
import Derived.Test.YtncbgnpoffolcaaRtS
import Derived.Test.YtncbgnpoffolcaaAlv
import Derived.Test.YtncbgnpoffolcaaHas
namespace Go.Proofs.Ytncbgnpoffolcaa
open Go.RowKit
theorem opsSum_mem : ∀ (l : List Kn.Task) (x : Kn.Task), x ∈ l → (x.ops.length : Int) ≤ opsSum l
 | y :: l, x, h => by
   have h0 : 0 ≤ opsSum l := by
    clear h
    induction l with
    | nil => exact Int.le_refl _
    | cons a l ih => rw [opsSum]; omega
   rw [opsSum]
   rcases List.mem_cons.1 h with rfl | h
   ·omega
   ·have := opsSum_mem l x h; omega
theorem big_no {t : Kn.Table} (h : big t = false) : t.tasks.length ≤ 60 ∧ t.sems.length ≤ 40 ∧ t.queues.length ≤ 40 ∧ ∀ x ∈ t.tasks, x.ops.length ≤ 4000 := by
 unfold big at h
 simp only [Bool.or_eq_false_iff, decide_eq_false_iff_not] at h
 exact ⟨by omega, by omega, by omega, fun x hx => by have := opsSum_mem t.tasks x hx; omega⟩
/-- A table's forms. -/
theorem Tab.forms {w : World} {B : Nat} {V1 V2 V3 : Value} {t : Kn.Table} (h : Tab w B V1 V2 V3 t) : ∃ A1 A2 A3 c1 c2 c3, V1 = .slice A1 t.tasks.length c1 ∧ V2 = .slice A2 t.sems.length c2 ∧ V3 = .slice A3 t.queues.length c3 ∧ TabRd w w.heap.size A1 A2 A3 t := by
 obtain ⟨A1, c1, e1, -, -⟩ := h.len
 obtain ⟨A2, c2, e2, -, -⟩ := row_slice h.sems
 obtain ⟨A3, c3, e3, -, -⟩ := row_slice h.queues
 subst e1 e2 e3
 exact ⟨A1, A2, A3, c1, c2, c3, rfl, rfl, rfl, h.reads.1⟩
set_option maxRecDepth 100000 in
set_option maxHeartbeats 16000000 in
theorem kernRuns_any {A1 A2 A3 : Option Addr} {c1 c2 c3 : Nat} {t : Kn.Table} {w : World} (hr : TabRd w w.heap.size A1 A2 A3 t) (hbd : ∀ x ∈ t.tasks, (x.ops.length : Int) ≤ 140737488355328) (a b : Int) :
 Calls Try.prog 6 #[tabV A1 A2 A3 c1 c2 c3 t, .int .i64 a, .int .i64 b] w fun r w' => r = .returned (.bool true) ∧ Below w.heap.size w w' := by
 unfold tabV
 have HR := zh hr
 have HBD := zh hbd
 clear hr hbd
 go_enter Try.func6, Try.ntmps6
 go_wp2_with fail
 refine (alive_any (w.alloc (.cells #[.slice A1 t.tasks.length c1, .slice A2 t.sems.length c2, .int .i64 t.mutexes, .slice A3 t.queues.length c3] 26))).mono ?_
 rintro e w1 ⟨rfl, hb1⟩
 have HB1 := zh (((zr w.heap.size w).alloc (zl _) (.cells #[.slice A1 t.tasks.length c1, .slice A2 t.sems.length c2, .int .i64 t.mutexes, .slice A3 t.queues.length c3] 26)).trans (hb1.mono (Nat.le_of_lt (by simp))))
 have HT1 := zh ((zm w 26 #[.slice A1 t.tasks.length c1, .slice A2 t.sems.length c2, .int .i64 t.mutexes, .slice A3 t.queues.length c3]).same (hb1.block _ (by simp)))
 clear hb1
 have HR1 := zh ((HR.out.keep fun p hp => HB1.out.cell hp).more HB1.out.size)
 have k0 := HT1.out.cell 0
 have k1 := HT1.out.cell 1
 have k2 := HT1.out.cell 2
 have k3 := HT1.out.cell 3
 simp only [za, zb, zc] at k0 k1 k2 k3
 go_wp2_with fail
 refine (big_any HR1.out HBD.out).mono ?_
 rintro e w2 ⟨rfl, hb2⟩
 have HB2 := zh (HB1.out.trans (hb2.mono HB1.out.size))
 have HT2 := zh (HT1.out.same (hb2.block _ HT1.out.lt))
 have HR2 := zh ((HR1.out.keep fun p hp => hb2.cell hp).more hb2.size)
 clear hb2 k0 k1 k2 k3 HB1 HT1 HR1
 obtain ⟨bb, hbb⟩ : ∃ bb, bb = big t := ⟨_, rfl⟩
 rw [← hbb]
 by_cases hearly : bb = true ∨ 3000 < a ∨ 5000 < b
 ·have e1 : ∃ x, decide ((3000 : Int) < a) = x := ⟨_, rfl⟩
  have e2 : ∃ x, decide ((5000 : Int) < b) = x := ⟨_, rfl⟩
  obtain ⟨b1, e1⟩ := e1
  obtain ⟨b2, e2⟩ := e2
  have hor : bb = true ∨ b1 = true ∨ b2 = true := by
   rw [← e1, ← e2]
   simpa using hearly
  clear hearly hbb
  cases bb <;> cases b1 <;> cases b2 <;> first
   | (exfalso; revert hor; decide)
   | (clear hor
      go_wp2_with fail
      go_ret
      exact ⟨rfl, HB2.out⟩)
 ·have hb0 : big t = false := by
   rw [← hbb]
   cases bb with
   | false => rfl
   | true => exact absurd (.inl rfl) hearly
  have ha0 : ¬ (3000 : Int) < a := fun q => hearly (.inr (.inl q))
  have hc0 : ¬ (5000 : Int) < b := fun q => hearly (.inr (.inr q))
  rw [hb0] at hbb
  subst hbb
  have HNO := zh (big_no hb0)
  clear hearly hb0
  have k0 := HT2.out.cell 0
  have k1 := HT2.out.cell 1
  have k2 := HT2.out.cell 2
  have k3 := HT2.out.cell 3
  simp only [za, zb, zc] at k0 k1 k2 k3
  go_wp2_with fail
  refine (lent_any HR2.out HNO.out.1 HNO.out.2.1 HNO.out.2.2.1 HNO.out.2.2.2).mono ?_
  rintro e w3 ⟨V1, V2, V3, rfl, htab, hb3⟩
  obtain ⟨D1, D2, D3, d1, d2, d3, rfl, rfl, rfl, hrd⟩ := htab.forms
  obtain ⟨W4, hW4⟩ : ∃ W4, W4 = w3.alloc (.cells #[.slice D1 t.tasks.length d1, .slice D2 t.sems.length d2, .int .i64 t.mutexes, .slice D3 t.queues.length d3] 26) := ⟨_, rfl⟩
  have hb4 : Below w3.heap.size w3 W4 := by rw [hW4]; exact (zr _ _).alloc (zl _) _
  have HU4 : Hid (Whole W4 w3.heap.size 26 #[.slice D1 t.tasks.length d1, .slice D2 t.sems.length d2, .int .i64 t.mutexes, .slice D3 t.queues.length d3]) := by
   show Whole _ _ _ _
   rw [hW4]; exact zm _ _ _
  have HD4 := zh ((hrd.keep fun p hp => hb4.cell hp).more hb4.size)
  have hb24 : Below w2.heap.size w2 W4 := hb3.trans (hb4.mono hb3.size)
  have HB4 := zh (HB2.out.trans (hb24.mono HB2.out.size))
  have HT4 := zh (HT2.out.same (hb24.block _ HT2.out.lt))
  have HR4 := zh ((HR2.out.keep fun p hp => hb24.cell hp).more hb24.size)
  have HW4 := zh hW4
  clear hW4 hb3 hb4 hb24 hrd htab HR2 HT2 HB2 k0 k1 k2 k3
  obtain ⟨g9, hg9⟩ : ∃ g9, g9 = w3.heap.size := ⟨_, rfl⟩
  have HG9 := zh hg9
  rw [← hg9] at HU4
  clear hg9
  have k0 := HU4.out.cell 0
  have k1 := HU4.out.cell 1
  have k2 := HU4.out.cell 2
  have k3 := HU4.out.cell 3
  simp only [za, zb, zc] at k0 k1 k2 k3
  go_upto_region 6 with fail
  rw [← HW4.out, ← HG9.out]
  go_wp2_with fail
  refine (run_aw (c1 := d1) (c2 := d2) (c3 := d3) a b HD4.out).mono ?_
  rintro e w5 ⟨P1, Q1, R1, pc1, qc1, rc1, rfl, hrd1, hb5⟩
  obtain ⟨aa, haa⟩ : ∃ aa, aa = aw t a b := ⟨_, rfl⟩
  have HLEN : Hid (aa.xs.length ≤ maxLen ∧ aa.ys.length ≤ maxLen) := by
   show _ ∧ _
   rw [haa]; exact aw_len t a b
  have HAA := zh haa
  rw [← haa] at hrd1
  rw [← haa]
  clear haa
  have HRD1 := hrd1
  clear hrd1
  unfold resV
  obtain ⟨W6, hW6⟩ : ∃ W6, W6 = w5.alloc (.cells #[.slice P1 aa.out.length pc1, .slice Q1 aa.xs.length qc1, .slice R1 aa.ys.length rc1, .int .i64 aa.tk, .int .i64 aa.op] 36) := ⟨_, rfl⟩
  have hb6 : Below w5.heap.size w5 W6 := by rw [hW6]; exact (zr _ _).alloc (zl _) _
  have HX6 : Hid (Whole W6 w5.heap.size 36 #[.slice P1 aa.out.length pc1, .slice Q1 aa.xs.length qc1, .slice R1 aa.ys.length rc1, .int .i64 aa.tk, .int .i64 aa.op]) := by
   show Whole _ _ _ _
   rw [hW6]; exact zm _ _ _
  have hb46 : Below W4.heap.size W4 W6 := hb5.trans (hb6.mono hb5.size)
  have H56 := zh hb6
  have HB6 := zh (HB4.out.trans (hb46.mono HB4.out.size))
  have HT6 := zh (HT4.out.same (hb46.block _ HT4.out.lt))
  have HU6 := zh (HU4.out.same (hb46.block _ HU4.out.lt))
  have HR6 := zh ((HR4.out.keep fun p hp => hb46.cell hp).more hb46.size)
  have HD6 := zh ((HD4.out.keep fun p hp => hb46.cell hp).more hb46.size)
  have HW6 := zh hW6
  clear hW6 hb5 hb6 hb46 HR4 HD4 HT4 HU4 HB4 k0 k1 k2 k3
  obtain ⟨g10, hg10⟩ : ∃ g10, g10 = w5.heap.size := ⟨_, rfl⟩
  have HG10 := zh hg10
  rw [← hg10] at HX6
  clear hg10
  have k0 := HT6.out.cell 0
  have k1 := HT6.out.cell 1
  have k2 := HT6.out.cell 2
  have k3 := HT6.out.cell 3
  simp only [za, zb, zc] at k0 k1 k2 k3
  go_upto_region 7 with fail
  rw [← HW6.out, ← HG10.out]
  go_wp2_with fail
  refine (rrun_aw (c1 := c1) (c2 := c2) (c3 := c3) a b HR6.out).mono ?_
  rintro e w7 ⟨P2, Q2, R2, pc2, qc2, rc2, rfl, hrd2, hb7⟩
  rw [← HAA.out] at hrd2
  rw [← HAA.out]
  unfold resV
  obtain ⟨W8, hW8⟩ : ∃ W8, W8 = w7.alloc (.cells #[.slice P2 aa.out.length pc2, .slice Q2 aa.xs.length qc2, .slice R2 aa.ys.length rc2, .int .i64 aa.tk, .int .i64 aa.op] 36) := ⟨_, rfl⟩
  have hb8 : Below w7.heap.size w7 W8 := by rw [hW8]; exact (zr _ _).alloc (zl _) _
  have HX8b : Hid (Whole W8 w7.heap.size 36 #[.slice P2 aa.out.length pc2, .slice Q2 aa.xs.length qc2, .slice R2 aa.ys.length rc2, .int .i64 aa.tk, .int .i64 aa.op]) := by
   show Whole _ _ _ _
   rw [hW8]; exact zm _ _ _
  have hb68 : Below W6.heap.size W6 W8 := hb7.trans (hb8.mono hb7.size)
  have hb58 : Below w5.heap.size w5 W8 := H56.out.trans (hb68.mono H56.out.size)
  have H58 := zh hb58
  have H78 := zh hb8
  have HB8 := zh (HB6.out.trans (hb68.mono HB6.out.size))
  have HT8 := zh (HT6.out.same (hb68.block _ HT6.out.lt))
  have HU8 := zh (HU6.out.same (hb68.block _ HU6.out.lt))
  have HX8 := zh (HX6.out.same (hb68.block _ HX6.out.lt))
  have HR8 := zh ((HR6.out.keep fun p hp => hb68.cell hp).more hb68.size)
  have HD8 := zh ((HD6.out.keep fun p hp => hb68.cell hp).more hb68.size)
  have HW8 := zh hW8
  clear hW8 hb7 hb8 hb68 hb58 HR6 HD6 HT6 HU6 HX6 HB6 H56 k0 k1 k2 k3
  obtain ⟨g12, hg12⟩ : ∃ g12, g12 = w7.heap.size := ⟨_, rfl⟩
  have HG12 := zh hg12
  rw [← hg12] at HX8b
  clear hg12
  have k0 := HX8.out.cell 0
  have k1 := HX8.out.cell 1
  have k2 := HX8.out.cell 2
  have k3 := HX8.out.cell 3
  have k4 := HX8.out.cell 4
  have m0 := HX8b.out.cell 0
  have m1 := HX8b.out.cell 1
  have m2 := HX8b.out.cell 2
  have m3 := HX8b.out.cell 3
  have m4 := HX8b.out.cell 4
  simp only [za, zb, zc] at k0 k1 k2 k3 k4 m0 m1 m2 m3 m4
  go_upto_region 8 with fail
  rw [← HW8.out, ← HG12.out]
  go_wp2_with (go_at_call 23; refine (num_any _ _).mono ?_; rintro e w' ⟨rfl, rfl⟩)
  have hs := same_any (w := W8) (a := aa) (qc1 := qc1) (rc1 := rc1) (qc2 := qc2) (rc2 := rc2) HLEN.out (fun W hW => HRD1.out.conv W (H58.out.trans (hW.mono H58.out.size))) (fun W hW => hrd2.out.conv W (H78.out.trans (hW.mono H78.out.size)))
   (fun W hW => HRD1.out.r2 W (H58.out.trans (hW.mono H58.out.size))) (fun W hW => hrd2.out.r2 W (H78.out.trans (hW.mono H78.out.size))) (fun W hW => HRD1.out.r3 W (H58.out.trans (hW.mono H58.out.size))) (fun W hW => hrd2.out.r3 W (H78.out.trans (hW.mono H78.out.size)))
  unfold resV at hs
  refine hs.mono ?_
  clear hs
  rintro e w9 ⟨rfl, hb9⟩
  have HB9 := zh (HB8.out.trans (hb9.mono HB8.out.size))
  have HT9 := zh (HT8.out.same (hb9.block _ HT8.out.lt))
  have HU9 := zh (HU8.out.same (hb9.block _ HU8.out.lt))
  have HR9 := zh ((HR8.out.keep fun p hp => hb9.cell hp).more hb9.size)
  have HD9 := zh ((HD8.out.keep fun p hp => hb9.cell hp).more hb9.size)
  clear hb9 k0 k1 k2 k3 k4 m0 m1 m2 m3 m4 HR8 HD8 HT8 HU8 HB8 HX8 HX8b
  have k0 := HT9.out.cell 0
  have k1 := HT9.out.cell 1
  have k2 := HT9.out.cell 2
  have k3 := HT9.out.cell 3
  have m0 := HU9.out.cell 0
  have m1 := HU9.out.cell 1
  have m2 := HU9.out.cell 2
  have m3 := HU9.out.cell 3
  simp only [za, zb, zc] at k0 k1 k2 k3 m0 m1 m2 m3
  go_wp2_with fail
  refine (sameTable_any HD9.out HR9.out).mono ?_
  rintro e w10 ⟨rfl, hb10⟩
  have HB10 := zh (HB9.out.trans (hb10.mono HB9.out.size))
  clear hb10 k0 k1 k2 k3 m0 m1 m2 m3
  go_wp2_with fail
  go_ret
  exact ⟨rfl, HB10.out⟩
end Go.Proofs.Ytncbgnpoffolcaa
