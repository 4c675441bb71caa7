/-
  TasksLimits: the table in memory, and the closure that sets an operation.
-/
import Derived.Test.YtadcfedjmofjjaaDoorT4
import Derived.Test.YtadcfedjmofjjaaDoorA1
namespace Go.Proofs.YtadcfedjmofjjaaDoor
open Go.RowKit
/-- The law's table. -/
def limT (s m q pr k a b : Int) : Tk.Table := { tasks := [⟨pr, [⟨1, 0, 0⟩, ⟨k, a, b⟩]⟩], sems := [s], mutexes := m, queues := [q] }
/-- .. in memory. -/
structure Lim (w1 W : World) (s m q pr k a b : Int) : Prop where
  sems : Whole W w1.heap.size 3 #[.int .i64 s]
  queues : Whole W (w1.heap.size + 1) 3 #[.int .i64 q]
  ops : Whole W (w1.heap.size + 2) 34 #[.int .i64 1, .int .i64 0, .int .i64 0, .int .i64 k, .int .i64 a, .int .i64 b]
  tasks : Whole W (w1.heap.size + 3) 32 #[.int .i64 pr, .slice (some ⟨w1.heap.size + 2, 0, none⟩) 2 2]
  tab : Whole W (w1.heap.size + 4) 26 #[.slice (some ⟨w1.heap.size + 3, 0, none⟩) 1 1, .slice (some ⟨w1.heap.size, 0, none⟩) 1 1, .int .i64 m, .slice (some ⟨w1.heap.size + 1, 0, none⟩) 1 1]
  below : Below w1.heap.size w1 W
theorem Lim.grow {w1 W W' : World} {s m q pr k a b : Int} (h : Lim w1 W s m q pr k a b) (hb : Below W.heap.size W W') : Lim w1 W' s m q pr k a b :=
  ⟨h.sems.same (hb.block _ h.sems.lt), h.queues.same (hb.block _ h.queues.lt), h.ops.same (hb.block _ h.ops.lt), h.tasks.same (hb.block _ h.tasks.lt), h.tab.same (hb.block _ h.tab.lt), h.below.trans (hb.mono h.below.size)⟩
theorem reads_of_whole {W : World} {g t : Nat} {cs : Array Value} {size n : Nat} {xs : List Value} (h : Whole W g t cs) (hx : xs.length = n * size) (hc : ∀ (j : Nat) (u : Value), xs[j]? = some u → cs[j]? = some u) : Reads W W.heap.size size (some ⟨g, 0, none⟩) n xs := by
  refine ⟨hx, fun _ => ⟨_, rfl, h.lt, fun j u hj => ?_⟩⟩
  have hw := h.cell j
  rw [hc j u hj] at hw
  rcases j with _ | j
  · exact hw
  · rw [add_pos _ _ (by omega), Nat.zero_add]
    exact hw
theorem Lim.rd {w1 W : World} {s m q pr k a b : Int} (h : Lim w1 W s m q pr k a b) : TabRd W W.heap.size (some ⟨w1.heap.size + 3, 0, none⟩) (some ⟨w1.heap.size, 0, none⟩) (some ⟨w1.heap.size + 1, 0, none⟩) (limT s m q pr k a b) := by
  have one : ∀ (x : Int) (j : Nat) (u : Value), (intV [x])[j]? = some u → (#[.int .i64 x] : Array Value)[j]? = some u := by
    intro x j u hj
    rcases j with _ | j
    · simpa [intV] using hj
    · simp [intV] at hj
  refine ⟨?_, reads_of_whole h.sems (by simp [limT, intV]) (one s), reads_of_whole h.queues (by simp [limT, intV]) (one q), by simp [limT, maxLen], by simp [limT, maxLen], by simp [limT, maxLen]⟩
  intro i hi
  have hi0 : i = 0 := by simp [limT] at hi; exact hi
  subst hi0
  refine ⟨_, some ⟨w1.heap.size + 2, 0, none⟩, 2, rfl, h.tasks.lt, ?_, ?_, ?_, by simp [limT, maxLen]⟩
  · have := h.tasks.cell 0
    simpa [limT, Addr.add] using this
  · have := h.tasks.cell 1
    simpa [limT, Addr.add] using this
  · refine reads_of_whole h.ops (by simp [limT, opsC, opC]) ?_
    intro j u hj
    simpa [limT, opsC, opC] using hj
set_option maxRecDepth 100000 in
/-- The closure. -/
theorem set_any {w1 W : World} {s m q pr k a b : Int} (k' a' b' : Int) (h : Lim w1 W s m q pr k a b) :
    Calls Tryd.prog 19 #[.agg #[.int .i64 k', .int .i64 a', .int .i64 b'], .pointer (some ⟨w1.heap.size + 4, 0, none⟩)] W fun e W' => e = .returned (.tuple #[]) ∧ Lim w1 W' s m q pr k' a' b' := by
  have hz := h.ops.lt
  have hz4 := h.tab.lt
  have hz3 := h.tasks.lt
  have f3 := h.ops.frozen 3
  have f4 := h.ops.frozen 4
  have f5 := h.ops.frozen 5
  have c1 := h.tab.cell 0
  have c2 := h.tasks.cell 1
  have q3 := h.ops.cell 3
  have q4 := h.ops.cell 4
  have q5 := h.ops.cell 5
  simp at c1 c2 q3 q4 q5
  go_enter Tryd.func19, Tryd.ntmps19
  go_wp2_with fail
  refine wp_region_still_tail 7 (by kernel_rfl) (by kernel_rfl) ?_
  simp only [List.take_succ_cons, List.take_zero, List.drop_succ_cons, List.drop_zero]
  change wpStill _ _ (World.drewN _ 1) _ _ _
  repeat still_step
  refine wpStill_nil ?_
  change wpList _ _ _ _ _ (World.drewN _ 1)
  go_wp2_with fail
  go_end0
  have far : ∀ {g t : Nat} {cs : Array Value}, Whole W g t cs → g ≠ w1.heap.size + 2 → Whole (((((W.alloc (.cells #[.int .i64 k', .int .i64 a', .int .i64 b'] 34)).drewN 1).setCell ⟨w1.heap.size + 2, 3, none⟩ (.int .i64 k')).setCell ⟨w1.heap.size + 2, 4, none⟩ (.int .i64 a')).setCell ⟨w1.heap.size + 2, 5, none⟩ (.int .i64 b')) g t cs :=
    fun hw hne => (((hw.alloc _).drewN 1).far hne _ |>.far hne _ |>.far hne _)
  exact ⟨rfl, far h.sems (by omega), far h.queues (by omega), ((((h.ops.alloc _).drewN 1).put 3 _).put 4 _).put 5 _, far h.tasks (by omega), far h.tab (by omega),
    (((((h.below.alloc h.below.size _).drewN' 1).setCell (p := ⟨w1.heap.size + 2, 3, none⟩) (Nat.le_add_right _ 2) _).setCell (p := ⟨w1.heap.size + 2, 4, none⟩) (Nat.le_add_right _ 2) _).setCell (p := ⟨w1.heap.size + 2, 5, none⟩) (Nat.le_add_right _ 2) _)⟩
theorem limFits (s m q pr k a b : Int) : (limT s m q pr k a b).fits = (decide (0 ≤ m ∧ m ≤ 8) && decide (0 ≤ s ∧ s ≤ 100) && decide (1 ≤ q ∧ q ≤ 16) && (decide (0 ≤ pr ∧ pr ≤ 31) && (⟨k, a, b⟩ : Tk.Op).fits 1)) := by
  have e : (⟨1, 0, 0⟩ : Tk.Op).fits 0 = true := by decide
  simp [limT, Tk.Table.fits, Tk.Task.fits, Tk.opsFit, e]
end Go.Proofs.YtadcfedjmofjjaaDoor
