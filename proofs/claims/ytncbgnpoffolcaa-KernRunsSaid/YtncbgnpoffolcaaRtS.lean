/-
  Two lists of numbers are one: the walk of SameInts. Is a table too much to be played? The walk of Big. Are two tables one? The walk of the document's SameTable, at tables that are.
-/
import Derived.Test.YtncbgnpoffolcaaM18
import Derived.Test.YtncbgnpoffolcaaM15
import Derived.BigQuiet
import Derived.Deep.QuietTactic
namespace Go.Proofs.Ytncbgnpoffolcaa
open Go.RowKit
set_option maxRecDepth 100000 in
set_option maxHeartbeats 4000000 in
theorem sameInts_any {w : World} {B1 B2 : Nat} {A1 A2 : Option Addr} {c1 c2 : Nat} {l : List Int} (h1 : Reads w B1 1 A1 l.length (intV l)) (h2 : Reads w B2 1 A2 l.length (intV l)) (hl : l.length ≤ maxLen) :
 Calls Try.prog 29 #[.slice A1 l.length c1, .slice A2 l.length c2] w fun e w' => e = .returned (.bool true) ∧ Below w.heap.size w w' := by
 unfold maxLen at hl
 have H1 := zh h1
 have H2 := zh h2
 clear h1 h2
 go_enter Try.func29, Try.ntmps29
 go_wp2_with fail
 go_loopg [5] l.length (fun kk i wr => ∃ k : Nat, k ≤ l.length ∧ i = .int .i64 k ∧ (∃ n, wr = w.drewN n) ∧ l.length - k ≤ kk)
 case atStart => exact ⟨0, Nat.zero_le _, rfl, ⟨0, rfl⟩, by omega⟩
 case round =>
  obtain ⟨k, hk, rfl, ⟨n, rfl⟩, hkk⟩ := hrel
  by_cases hlt : k < l.length
  ·have hlt' : (k : Int) < l.length := by omega
   obtain ⟨ad1, e1, had1, hc1⟩ := H1.out.int hlt
   obtain ⟨ad2, e2, had2, hc2⟩ := H2.out.int hlt
   subst e1
   subst e2
   generalize l[k] = x at *
   go_wp2
   go_quiet (fail)
   go_wp2_with fail
   go_roundg (l.length - (k + 1))
   case measure => omega
   case rel => exact ⟨k + 1, by omega, by go_num, ⟨_, rfl⟩, zl _⟩
  ·have hge : ¬ (k : Int) < l.length := by omega
   go_wp2_with fail
   go_ret
   exact ⟨rfl, (zr _ _).drewN' n⟩
end Go.Proofs.Ytncbgnpoffolcaa
namespace Go.Proofs.Ytncbgnpoffolcaa
open Go.RowKit
def opsSum : List Kn.Task → Int
 | [] => 0
 | x :: l => x.ops.length + opsSum l
theorem opsSum_app (a b : List Kn.Task) : opsSum (a ++ b) = opsSum a + opsSum b := by
 induction a with
 | nil => simp [opsSum]
 | cons x a ih => rw [List.cons_append, opsSum, opsSum, ih]; omega
theorem opsSum_snoc {l : List Kn.Task} {k : Nat} (h : k < l.length) : opsSum (l.take (k + 1)) = opsSum (l.take k) + l[k].ops.length := by
 rw [List.take_succ_eq_append_getElem h, opsSum_app]
 simp [opsSum]
theorem opsSum_bd (l : List Kn.Task) (h : ∀ x ∈ l, (x.ops.length : Int) ≤ 140737488355328) : 0 ≤ opsSum l ∧ opsSum l ≤ 140737488355328 * l.length := by
 induction l with
 | nil => simp [opsSum]
 | cons x l ih =>
   have := ih fun y hy => h y (.tail _ hy)
   have := h x (.head _)
   rw [opsSum, List.length_cons]
   omega
/-- Too much? -/
def big (t : Kn.Table) : Bool := decide (60 < t.tasks.length) || (decide (40 < t.sems.length) || (decide (40 < t.queues.length) || decide (4000 < opsSum t.tasks)))
set_option maxRecDepth 100000 in
set_option maxHeartbeats 1000000 in
theorem big_any {w : World} {A1 A2 A3 : Option Addr} {c1 c2 c3 : Nat} {t : Kn.Table} (hr : TabRd w w.heap.size A1 A2 A3 t) (hbd : ∀ x ∈ t.tasks, (x.ops.length : Int) ≤ 140737488355328) :
 Calls Try.prog 24 #[.agg #[.slice A1 t.tasks.length c1, .slice A2 t.sems.length c2, .int .i64 t.mutexes, .slice A3 t.queues.length c3]] w
  fun e w' => e = .returned (.bool (big t)) ∧ Below w.heap.size w w' := by
 have HR := zh hr
 have HB := zh hbd
 clear hr hbd
 have hb1 := (zr w.heap.size w).alloc (zl _) (.cells #[.slice A1 t.tasks.length c1, .slice A2 t.sems.length c2, .int .i64 t.mutexes, .slice A3 t.queues.length c3] 26)
 by_cases h1 : 60 < t.tasks.length
 ·have E : Hid (big t = true) := by show _ = _; simp [big, h1]
  have h1' : (60 : Int) < t.tasks.length := by omega
  have h1d : decide ((60 : Int) < t.tasks.length) = true := zu (by omega)
  clear h1
  go_enter Try.func24, Try.ntmps24
  go_wp2_with fail
  try go_quiet (fail)
  go_wp2_with fail
  go_ret
  exact ⟨ret_bool E.out.symm, by first | exact hb1 | exact hb1.drewN' _⟩
 have h1' : ¬ (60 : Int) < t.tasks.length := by omega
 have h1d : decide ((60 : Int) < t.tasks.length) = false := decide_eq_false (by omega)
 by_cases h2 : 40 < t.sems.length
 ·have E : Hid (big t = true) := by show _ = _; simp [big, h2]
  have h2' : (40 : Int) < t.sems.length := by omega
  have h2d : decide ((40 : Int) < t.sems.length) = true := zu (by omega)
  clear h1 h2
  go_enter Try.func24, Try.ntmps24
  go_wp2_with fail
  try go_quiet (fail)
  go_wp2_with fail
  go_ret
  exact ⟨ret_bool E.out.symm, by first | exact hb1 | exact hb1.drewN' _⟩
 have h2' : ¬ (40 : Int) < t.sems.length := by omega
 have h2d : decide ((40 : Int) < t.sems.length) = false := decide_eq_false (by omega)
 by_cases h3 : 40 < t.queues.length
 ·have E : Hid (big t = true) := by show _ = _; simp [big, h3]
  have h3' : (40 : Int) < t.queues.length := by omega
  have h3d : decide ((40 : Int) < t.queues.length) = true := zu (by omega)
  clear h1 h2 h3
  go_enter Try.func24, Try.ntmps24
  go_wp2_with fail
  try go_quiet (fail)
  go_wp2_with fail
  go_ret
  exact ⟨ret_bool E.out.symm, by first | exact hb1 | exact hb1.drewN' _⟩
 have h3' : ¬ (40 : Int) < t.queues.length := by omega
 have h3d : decide ((40 : Int) < t.queues.length) = false := decide_eq_false (by omega)
 have E : Hid (big t = decide (4000 < opsSum t.tasks)) := by show _ = _; simp [big, h1, h2, h3]
 have hn : t.tasks.length ≤ 60 := by omega
 clear h1 h2 h3
 go_enter Try.func24, Try.ntmps24
 go_wp2_with fail
 try go_quiet (fail)
 go_wp2_with fail
 go_loopg [4, 3] t.tasks.length (fun kk i s wr => ∃ (j : Nat), j ≤ t.tasks.length ∧ i = .int .i64 j ∧ s = .int .i64 (opsSum (t.tasks.take j)) ∧ Below w.heap.size w wr ∧ Whole wr w.heap.size 26 #[.slice A1 t.tasks.length c1, .slice A2 t.sems.length c2, .int .i64 t.mutexes, .slice A3 t.queues.length c3] ∧ t.tasks.length - j ≤ kk)
 case atStart => exact ⟨0, Nat.zero_le _, rfl, rfl, by first | exact hb1 | exact hb1.drewN' _, by first | exact zm _ _ _ | exact (zm _ _ _).drewN _, by omega⟩
 case round =>
  obtain ⟨j, hj, rfl, rfl, hbr, hwh, hkk⟩ := hrel
  obtain ⟨wo, rfl⟩ : ∃ wo : World, wo = wr := ⟨_, rfl⟩
  have q0 := hwh.cell 0
  simp at q0
  have HW := zh hwh
  clear hwh
  have hzr := hbr.size
  have bd := opsSum_bd (t.tasks.take j) fun x hx => HB.out x (List.mem_of_mem_take hx)
  rw [List.length_take] at bd
  by_cases hlt : j < t.tasks.length
  ·have hlt' : (j : Int) < t.tasks.length := by omega
   obtain ⟨ad, A, c, eA, had, hc0', hc1', hro, hln⟩ := HR.out.task j hlt
   subst eA
   have hc1 := (hbr.cell (p := ad.add (j * 2 + 1)) (by rw [block_of_add]; exact had)).trans hc1'
   have hc1' : wo.cell? ⟨(ad.add (j * 2)).block, (ad.add (j * 2)).off + 1, none⟩ = some (.slice A t.tasks[j].ops.length c) := by rw [← add_pos _ 1 (by decide), add_of_add]; exact hc1
   have HS := zh (opsSum_snoc hlt)
   have hol := HB.out t.tasks[j] (List.getElem_mem hlt)
   clear hc0' hro
   generalize t.tasks[j].ops.length = m at *
   generalize opsSum (t.tasks.take j) = q at *
   go_wp2_with fail
   try go_quiet (fail)
   go_wp2_with fail
   go_roundg (t.tasks.length - (j + 1))
   case measure => omega
   case rel => exact ⟨j + 1, by omega, by go_num, by rw [HS.out], by first | exact hbr | exact hbr.drewN' _, by first | exact HW.out | exact HW.out.drewN _, zl _⟩
  ·have hge : ¬ (j : Int) < t.tasks.length := by omega
   obtain rfl : j = t.tasks.length := by omega
   rw [List.take_length] at *
   go_wp2_with fail
   go_ret
   exact ⟨ret_bool E.out.symm, hbr⟩
end Go.Proofs.Ytncbgnpoffolcaa
namespace Go.Proofs.Ytncbgnpoffolcaa
open Go.RowKit
set_option maxRecDepth 100000 in
set_option maxHeartbeats 8000000 in
theorem sameTable_any {w : World} {A1 A2 A3 B1 B2 B3 : Option Addr} {a1 a2 a3 b1 b2 b3 : Nat} {t : Kn.Table} (h1 : TabRd w w.heap.size A1 A2 A3 t) (h2 : TabRd w w.heap.size B1 B2 B3 t) :
 Calls Try.prog 28 #[.agg #[.slice A1 t.tasks.length a1, .slice A2 t.sems.length a2, .int .i64 t.mutexes, .slice A3 t.queues.length a3],
  .agg #[.slice B1 t.tasks.length b1, .slice B2 t.sems.length b2, .int .i64 t.mutexes, .slice B3 t.queues.length b3]] w fun e w' => e = .returned (.bool true) ∧ Below w.heap.size w w' := by
 have l1 := h1.tasksL
 have l2 := h1.semsL
 have l3 := h1.queuesL
 have L2 := zh l2
 have L3 := zh l3
 unfold maxLen at l1 l2 l3
 have H1 := zh h1
 have H2 := zh h2
 clear h1 h2
 obtain ⟨w0, ew0⟩ : ∃ w0, w0 = (w.alloc (.cells #[.slice A1 t.tasks.length a1, .slice A2 t.sems.length a2, .int .i64 t.mutexes, .slice A3 t.queues.length a3] 26)).alloc (.cells #[.slice B1 t.tasks.length b1, .slice B2 t.sems.length b2, .int .i64 t.mutexes, .slice B3 t.queues.length b3] 26) := ⟨_, rfl⟩
 have bw0 : Below w.heap.size w w0 := by rw [ew0]; exact ((zr _ _).alloc (zl _) _).alloc (by simp) _
 have z0 : w0.heap.size = w.heap.size + 2 := by rw [ew0]; simp
 have g0 : ∀ i, w0.cell? ⟨w.heap.size, i, none⟩ = (#[.slice A1 t.tasks.length a1, .slice A2 t.sems.length a2, .int .i64 t.mutexes, .slice A3 t.queues.length a3] : Array Value)[i]? := by
  intro i
  rw [ew0]
  exact (Whole.alloc (zm w 26 _) _).cell i
 have g1 : ∀ i, w0.cell? ⟨w.heap.size + 1, i, none⟩ = (#[.slice B1 t.tasks.length b1, .slice B2 t.sems.length b2, .int .i64 t.mutexes, .slice B3 t.queues.length b3] : Array Value)[i]? := by
  intro i
  rw [ew0]
  simp
 have G0 := zh g0
 have G1 := zh g1
 have EW := zh ew0
 have Z0 := zh z0
 clear g0 g1 ew0 z0
 go_enter Try.func28, Try.ntmps28
 go_wp2_with fail
 rw [← EW.out]
 refine (sameInts_any (H1.out.sems.below bw0 (zl _)) (H2.out.sems.below bw0 (zl _)) L2.out).mono ?_
 rintro e w1 ⟨rfl, bw1⟩
 have f0 := fun i => (bw1.cell (p := ⟨w.heap.size, i, none⟩) (by have := Z0.out; simp; omega)).trans (G0.out i)
 have f1 := fun i => (bw1.cell (p := ⟨w.heap.size + 1, i, none⟩) (by have := Z0.out; simp; omega)).trans (G1.out i)
 have f00 := f0 0
 have f03 := f0 3
 have f10 := f1 0
 have f13 := f1 3
 simp at f00 f03 f10 f13
 clear f0 f1
 go_wp2_with fail
 have bw01 := bw0.trans (bw1.mono bw0.size)
 refine (sameInts_any (H1.out.queues.below bw01 (zl _)) (H2.out.queues.below bw01 (zl _)) L3.out).mono ?_
 rintro e w2 ⟨rfl, bw2⟩
 have bw02 := bw1.trans (bw2.mono bw1.size)
 clear f00 f03 f10 f13 bw01 bw1 bw2
 go_wp2_with fail
 go_loopg [5] t.tasks.length (fun kk i wr => ∃ k : Nat, k ≤ t.tasks.length ∧ i = .int .i64 k ∧ Below w0.heap.size w0 wr ∧ t.tasks.length - k ≤ kk)
 case atStart => exact ⟨0, Nat.zero_le _, rfl, bw02, by omega⟩
 case round =>
  obtain ⟨j, hj, rfl, hb, hkk⟩ := hrel
  obtain ⟨wo, rfl⟩ : ∃ wo : World, wo = wr := ⟨_, rfl⟩
  have f0 := fun i => (hb.cell (p := ⟨w.heap.size, i, none⟩) (by have := Z0.out; simp; omega)).trans (G0.out i)
  have f1 := fun i => (hb.cell (p := ⟨w.heap.size + 1, i, none⟩) (by have := Z0.out; simp; omega)).trans (G1.out i)
  have f00 := f0 0
  have f10 := f1 0
  simp at f00 f10
  clear f0 f1
  have hbw := bw0.trans (hb.mono bw0.size)
  by_cases hlt : j < t.tasks.length
  ·have hlt' : (j : Int) < t.tasks.length := by omega
   obtain ⟨ad, A, c, eA, had, hc0', hc1', hro, hln⟩ := H1.out.task j hlt
   obtain ⟨ad', A', c', eA', had', hd0', hd1', hro', hln'⟩ := H2.out.task j hlt
   subst eA
   subst eA'
   have hc0 := (hbw.cell (p := ad.add (j * 2)) (by rw [block_of_add]; exact had)).trans hc0'
   have hc1 := (hbw.cell (p := ad.add (j * 2 + 1)) (by rw [block_of_add]; exact had)).trans hc1'
   have hd0 := (hbw.cell (p := ad'.add (j * 2)) (by rw [block_of_add]; exact had')).trans hd0'
   have hd1 := (hbw.cell (p := ad'.add (j * 2 + 1)) (by rw [block_of_add]; exact had')).trans hd1'
   clear hc0' hc1' hd0' hd1' hln'
   generalize t.tasks[j] = x at *
   obtain ⟨pr, ops⟩ := x
   have hc1' : wo.cell? ⟨(ad.add (j * 2)).block, (ad.add (j * 2)).off + 1, none⟩ = some (.slice A ops.length c) := by rw [← add_pos _ 1 (by decide), add_of_add]; exact hc1
   have hd1' : wo.cell? ⟨(ad'.add (j * 2)).block, (ad'.add (j * 2)).off + 1, none⟩ = some (.slice A' ops.length c') := by rw [← add_pos _ 1 (by decide), add_of_add]; exact hd1
   unfold maxLen at hln
   have hln' : ops.length ≤ 9223372036854775807 := by omega
   have HRO := zh hro
   have HRO' := zh hro'
   clear hro hro' hln
   go_wp2
   go_quiet (fail)
   go_wp2_with fail
   go_loopg [6] ops.length (fun k2 i wx => ∃ m : Nat, m ≤ ops.length ∧ i = .int .i64 m ∧ (∃ n, wx = wo.drewN n) ∧ ops.length - m ≤ k2)
   case atStart => exact ⟨0, Nat.zero_le _, rfl, ⟨_, rfl⟩, by omega⟩
   case round =>
    obtain ⟨m, hm, rfl, ⟨n, rfl⟩, hk2⟩ := hrel
    by_cases hlm : m < ops.length
    ·have hlm' : (m : Int) < ops.length := by omega
     obtain ⟨ad2, eA2, had2, o0, o1, o2⟩ := (HRO.out.below hbw (zl _)).op hlm
     obtain ⟨ad3, eA3, had3, p0, p1, p2⟩ := (HRO'.out.below hbw (zl _)).op hlm
     subst eA2
     subst eA3
     generalize ops[m] = o at *
     have o1' := o1
     have o2' := o2
     rw [← add_of_add, add_pos _ _ (by decide)] at o1' o2'
     have p1' := p1
     have p2' := p2
     rw [← add_of_add, add_pos _ _ (by decide)] at p1' p2'
     go_wp2
     go_quiet (fail)
     go_wp2_with fail
     go_roundg (ops.length - (m + 1))
     case measure => omega
     case rel => exact ⟨m + 1, by omega, by go_num, ⟨_, rfl⟩, zl _⟩
    ·have hgm : ¬ (m : Int) < ops.length := by omega
     go_wp2_with fail
     go_roundg (t.tasks.length - (j + 1))
     case measure => omega
     case rel => exact ⟨j + 1, by omega, by go_num, hb.drewN' n, zl _⟩
  ·have hge2 : ¬ (j : Int) < t.tasks.length := by omega
   go_wp2_with fail
   go_ret
   exact ⟨rfl, hbw⟩
end Go.Proofs.Ytncbgnpoffolcaa
