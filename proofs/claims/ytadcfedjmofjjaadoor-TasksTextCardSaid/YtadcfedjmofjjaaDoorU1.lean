/-
  Is a table too much to be played? The walk of Big.
-/
import Derived.Test.YtadcfedjmofjjaaDoorC4
import Derived.BigQuiet
namespace Go.Proofs.YtadcfedjmofjjaaDoor
open Go.RowKit
def opsSum : List Tk.Task → Int
  | [] => 0
  | x :: l => x.ops.length + opsSum l
theorem opsSum_app (a b : List Tk.Task) : opsSum (a ++ b) = opsSum a + opsSum b := by
  induction a with
  | nil => simp [opsSum]
  | cons x a ih => rw [List.cons_append, opsSum, opsSum, ih]; omega
theorem opsSum_snoc {l : List Tk.Task} {k : Nat} (h : k < l.length) : opsSum (l.take (k + 1)) = opsSum (l.take k) + l[k].ops.length := by
  rw [List.take_succ_eq_append_getElem h, opsSum_app]
  simp [opsSum]
theorem opsSum_bd (l : List Tk.Task) (h : ∀ x ∈ l, (x.ops.length : Int) ≤ 140737488355328) : 0 ≤ opsSum l ∧ opsSum l ≤ 140737488355328 * l.length := by
  induction l with
  | nil => simp [opsSum]
  | cons x l ih =>
    have := ih fun y hy => h y (.tail _ hy)
    have := h x (.head _)
    rw [opsSum, List.length_cons]
    omega
/-- Too much? -/
def big (t : Tk.Table) : Bool := decide (60 < t.tasks.length) || (decide (40 < t.sems.length) || (decide (40 < t.queues.length) || decide (4000 < opsSum t.tasks)))
set_option maxRecDepth 100000 in
set_option maxHeartbeats 1000000 in
theorem big_any {w : World} {A1 A2 A3 : Option Addr} {c1 c2 c3 : Nat} {t : Tk.Table} (hr : TabRd w w.heap.size A1 A2 A3 t) (hbd : ∀ x ∈ t.tasks, (x.ops.length : Int) ≤ 140737488355328) :
    Calls Tryd.prog 13 #[.agg #[.slice A1 t.tasks.length c1, .slice A2 t.sems.length c2, .int .i64 t.mutexes, .slice A3 t.queues.length c3]] w
      fun e w' => e = .returned (.bool (big t)) ∧ Below w.heap.size w w' := by
  have HR := Lib.hid hr
  have HB := Lib.hid hbd
  clear hr hbd
  have hb1 := (Below.refl w.heap.size w).alloc (Nat.le_refl _) (.cells #[.slice A1 t.tasks.length c1, .slice A2 t.sems.length c2, .int .i64 t.mutexes, .slice A3 t.queues.length c3] 26)
  by_cases h1 : 60 < t.tasks.length
  · have E : Hid (big t = true) := by show _ = _; simp [big, h1]
    have h1' : (60 : Int) < t.tasks.length := by omega
    have h1d : decide ((60 : Int) < t.tasks.length) = true := decide_eq_true (by omega)
    clear h1
    go_enter Tryd.func13, Tryd.ntmps13
    go_wp2_with fail
    try go_quiet (fail)
    go_wp2_with fail
    go_ret
    exact ⟨ret_bool E.out.symm, by first | exact hb1 | exact hb1.drewN' _⟩
  have h1' : ¬ (60 : Int) < t.tasks.length := by omega
  have h1d : decide ((60 : Int) < t.tasks.length) = false := decide_eq_false (by omega)
  by_cases h2 : 40 < t.sems.length
  · have E : Hid (big t = true) := by show _ = _; simp [big, h2]
    have h2' : (40 : Int) < t.sems.length := by omega
    have h2d : decide ((40 : Int) < t.sems.length) = true := decide_eq_true (by omega)
    clear h1 h2
    go_enter Tryd.func13, Tryd.ntmps13
    go_wp2_with fail
    try go_quiet (fail)
    go_wp2_with fail
    go_ret
    exact ⟨ret_bool E.out.symm, by first | exact hb1 | exact hb1.drewN' _⟩
  have h2' : ¬ (40 : Int) < t.sems.length := by omega
  have h2d : decide ((40 : Int) < t.sems.length) = false := decide_eq_false (by omega)
  by_cases h3 : 40 < t.queues.length
  · have E : Hid (big t = true) := by show _ = _; simp [big, h3]
    have h3' : (40 : Int) < t.queues.length := by omega
    have h3d : decide ((40 : Int) < t.queues.length) = true := decide_eq_true (by omega)
    clear h1 h2 h3
    go_enter Tryd.func13, Tryd.ntmps13
    go_wp2_with fail
    try go_quiet (fail)
    go_wp2_with fail
    go_ret
    exact ⟨ret_bool E.out.symm, by first | exact hb1 | exact hb1.drewN' _⟩
  have h3' : ¬ (40 : Int) < t.queues.length := by omega
  have h3d : decide ((40 : Int) < t.queues.length) = false := decide_eq_false (by omega)
  have E : Hid (big t = decide (4000 < opsSum t.tasks)) := by show _ = _; simp [big, h1, h2, h3]
  have hn : t.tasks.length ≤ 60 := by omega
  clear h1 h2 h3
  go_enter Tryd.func13, Tryd.ntmps13
  go_wp2_with fail
  try go_quiet (fail)
  go_wp2_with fail
  go_loopg [4, 3] t.tasks.length (fun kk i s wr => ∃ (j : Nat), j ≤ t.tasks.length ∧ i = .int .i64 j ∧ s = .int .i64 (opsSum (t.tasks.take j)) ∧ Below w.heap.size w wr ∧ Whole wr w.heap.size 26 #[.slice A1 t.tasks.length c1, .slice A2 t.sems.length c2, .int .i64 t.mutexes, .slice A3 t.queues.length c3] ∧ t.tasks.length - j ≤ kk)
  case atStart => exact ⟨0, Nat.zero_le _, rfl, rfl, by first | exact hb1 | exact hb1.drewN' _, by first | exact Whole.made _ _ _ | exact (Whole.made _ _ _).drewN _, by omega⟩
  case round =>
    obtain ⟨j, hj, rfl, rfl, hbr, hwh, hkk⟩ := hrel
    obtain ⟨wo, rfl⟩ : ∃ wo : World, wo = wr := ⟨_, rfl⟩
    have q0 := hwh.cell 0
    simp at q0
    have HW := Lib.hid hwh
    clear hwh
    have hzr := hbr.size
    have bd := opsSum_bd (t.tasks.take j) fun x hx => HB.out x (List.mem_of_mem_take hx)
    rw [List.length_take] at bd
    by_cases hlt : j < t.tasks.length
    · have hlt' : (j : Int) < t.tasks.length := by omega
      obtain ⟨ad, A, c, eA, had, hc0', hc1', hro, hln⟩ := HR.out.task j hlt
      subst eA
      have hc1 := (hbr.cell (p := ad.add (j * 2 + 1)) (by rw [block_of_add]; exact had)).trans hc1'
      have hc1' : wo.cell? ⟨(ad.add (j * 2)).block, (ad.add (j * 2)).off + 1, none⟩ = some (.slice A t.tasks[j].ops.length c) := by rw [← add_pos _ 1 (by decide), add_of_add]; exact hc1
      have HS := Lib.hid (opsSum_snoc hlt)
      have hol := HB.out t.tasks[j] (List.getElem_mem hlt)
      clear hc0' hro
      generalize t.tasks[j].ops.length = m at *
      generalize opsSum (t.tasks.take j) = q at *
      go_wp2_with fail
      try go_quiet (fail)
      go_wp2_with fail
      go_roundg (t.tasks.length - (j + 1))
      case measure => omega
      case rel => exact ⟨j + 1, by omega, by go_num, by rw [HS.out], by first | exact hbr | exact hbr.drewN' _, by first | exact HW.out | exact HW.out.drewN _, Nat.le_refl _⟩
    · have hge : ¬ (j : Int) < t.tasks.length := by omega
      obtain rfl : j = t.tasks.length := by omega
      rw [List.take_length] at *
      go_wp2_with fail
      go_ret
      exact ⟨ret_bool E.out.symm, hbr⟩
end Go.Proofs.YtadcfedjmofjjaaDoor
