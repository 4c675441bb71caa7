/-
  A slice's making at a step of a region that draws its order.
-/
import Derived.Test.YtncbgnpoffolcaaSc
namespace Go.Proofs.Ytncbgnpoffolcaa
open Go.RowKit
section
variable {ops : Array Oper} {o : Oper} {a : Act} {w : World} {K : Act → World → Prop} {Q : Exit → Act → World → Prop} {E : Prop}
set_option maxRecDepth 100000
theorem run_ops1 (p0 q0 r0 : Int) (w : World) : (Instr.buildSlice 27 1 #[(0, .agg #[.int .i64 p0, .int .i64 q0, .int .i64 r0])]).run Try.prog w = .ok (.slice (some ⟨w.heap.size, 0, none⟩) 1 1) (w.alloc (.cells #[.int .i64 p0, .int .i64 q0, .int .i64 r0] 32)) := by
  go_simp
theorem step_ops1 (hgd : o.guard = none) (x0 : Operand) (ho : o.op = .buildSlice 27 1 #[(0, x0)]) (p0 q0 r0 : Int) (h0 : a.eval x0 = .agg #[.int .i64 p0, .int .i64 q0, .int .i64 r0])
    (h : K (a.put o.dst (.slice (some ⟨w.heap.size, 0, none⟩) 1 1)) (w.alloc (.cells #[.int .i64 p0, .int .i64 q0, .int .i64 r0] 32))) : if Region.wanted o (yielded ops a.tmps) = true then Oper.wp Try.prog o a w K Q else E := by
  have hw : Region.wanted o (yielded ops a.tmps) = true := by simp [Region.wanted, hgd]
  rw [if_pos hw]
  have hr : (execOp a.eval o).run Try.prog w = .ok (.value (.slice (some ⟨w.heap.size, 0, none⟩) 1 1)) (w.alloc (.cells #[.int .i64 p0, .int .i64 q0, .int .i64 r0] 32)) := by
    unfold execOp
    simp [ho, h0, run_ops1]
  unfold Oper.wp
  rw [hr]
  exact h
theorem run_ops2 (p0 q0 r0 p1 q1 r1 : Int) (w : World) : (Instr.buildSlice 27 2 #[(0, .agg #[.int .i64 p0, .int .i64 q0, .int .i64 r0]), (1, .agg #[.int .i64 p1, .int .i64 q1, .int .i64 r1])]).run Try.prog w = .ok (.slice (some ⟨w.heap.size, 0, none⟩) 2 2) (w.alloc (.cells #[.int .i64 p0, .int .i64 q0, .int .i64 r0, .int .i64 p1, .int .i64 q1, .int .i64 r1] 32)) := by
  go_simp
theorem step_ops2 (hgd : o.guard = none) (x0 x1 : Operand) (ho : o.op = .buildSlice 27 2 #[(0, x0), (1, x1)]) (p0 q0 r0 p1 q1 r1 : Int) (h0 : a.eval x0 = .agg #[.int .i64 p0, .int .i64 q0, .int .i64 r0]) (h1 : a.eval x1 = .agg #[.int .i64 p1, .int .i64 q1, .int .i64 r1])
    (h : K (a.put o.dst (.slice (some ⟨w.heap.size, 0, none⟩) 2 2)) (w.alloc (.cells #[.int .i64 p0, .int .i64 q0, .int .i64 r0, .int .i64 p1, .int .i64 q1, .int .i64 r1] 32))) : if Region.wanted o (yielded ops a.tmps) = true then Oper.wp Try.prog o a w K Q else E := by
  have hw : Region.wanted o (yielded ops a.tmps) = true := by simp [Region.wanted, hgd]
  rw [if_pos hw]
  have hr : (execOp a.eval o).run Try.prog w = .ok (.value (.slice (some ⟨w.heap.size, 0, none⟩) 2 2)) (w.alloc (.cells #[.int .i64 p0, .int .i64 q0, .int .i64 r0, .int .i64 p1, .int .i64 q1, .int .i64 r1] 32)) := by
    unfold execOp
    simp [ho, h0, h1, run_ops2]
  unfold Oper.wp
  rw [hr]
  exact h
theorem run_ops3 (p0 q0 r0 p1 q1 r1 p2 q2 r2 : Int) (w : World) : (Instr.buildSlice 27 3 #[(0, .agg #[.int .i64 p0, .int .i64 q0, .int .i64 r0]), (1, .agg #[.int .i64 p1, .int .i64 q1, .int .i64 r1]), (2, .agg #[.int .i64 p2, .int .i64 q2, .int .i64 r2])]).run Try.prog w = .ok (.slice (some ⟨w.heap.size, 0, none⟩) 3 3) (w.alloc (.cells #[.int .i64 p0, .int .i64 q0, .int .i64 r0, .int .i64 p1, .int .i64 q1, .int .i64 r1, .int .i64 p2, .int .i64 q2, .int .i64 r2] 32)) := by
  go_simp
theorem step_ops3 (hgd : o.guard = none) (x0 x1 x2 : Operand) (ho : o.op = .buildSlice 27 3 #[(0, x0), (1, x1), (2, x2)]) (p0 q0 r0 p1 q1 r1 p2 q2 r2 : Int) (h0 : a.eval x0 = .agg #[.int .i64 p0, .int .i64 q0, .int .i64 r0]) (h1 : a.eval x1 = .agg #[.int .i64 p1, .int .i64 q1, .int .i64 r1]) (h2 : a.eval x2 = .agg #[.int .i64 p2, .int .i64 q2, .int .i64 r2])
    (h : K (a.put o.dst (.slice (some ⟨w.heap.size, 0, none⟩) 3 3)) (w.alloc (.cells #[.int .i64 p0, .int .i64 q0, .int .i64 r0, .int .i64 p1, .int .i64 q1, .int .i64 r1, .int .i64 p2, .int .i64 q2, .int .i64 r2] 32))) : if Region.wanted o (yielded ops a.tmps) = true then Oper.wp Try.prog o a w K Q else E := by
  have hw : Region.wanted o (yielded ops a.tmps) = true := by simp [Region.wanted, hgd]
  rw [if_pos hw]
  have hr : (execOp a.eval o).run Try.prog w = .ok (.value (.slice (some ⟨w.heap.size, 0, none⟩) 3 3)) (w.alloc (.cells #[.int .i64 p0, .int .i64 q0, .int .i64 r0, .int .i64 p1, .int .i64 q1, .int .i64 r1, .int .i64 p2, .int .i64 q2, .int .i64 r2] 32)) := by
    unfold execOp
    simp [ho, h0, h1, h2, run_ops3]
  unfold Oper.wp
  rw [hr]
  exact h
theorem run_task1 (p : Int) (A : Option Addr) (n c : Nat) (w : World) : (Instr.buildSlice 23 1 #[(0, .agg #[.int .i64 p, .slice A n c])]).run Try.prog w = .ok (.slice (some ⟨w.heap.size, 0, none⟩) 1 1) (w.alloc (.cells #[.int .i64 p, .slice A n c] 29)) := by
  go_simp
theorem step_task1 (hgd : o.guard = none) (x0 : Operand) (ho : o.op = .buildSlice 23 1 #[(0, x0)]) (p : Int) (A : Option Addr) (n c : Nat) (h0 : a.eval x0 = .agg #[.int .i64 p, .slice A n c])
    (h : K (a.put o.dst (.slice (some ⟨w.heap.size, 0, none⟩) 1 1)) (w.alloc (.cells #[.int .i64 p, .slice A n c] 29))) : if Region.wanted o (yielded ops a.tmps) = true then Oper.wp Try.prog o a w K Q else E := by
  have hw : Region.wanted o (yielded ops a.tmps) = true := by simp [Region.wanted, hgd]
  rw [if_pos hw]
  have hr : (execOp a.eval o).run Try.prog w = .ok (.value (.slice (some ⟨w.heap.size, 0, none⟩) 1 1)) (w.alloc (.cells #[.int .i64 p, .slice A n c] 29)) := by
    unfold execOp
    simp [ho, h0, run_task1]
  unfold Oper.wp
  rw [hr]
  exact h
theorem enter23 (args : Array Value) (w : World) : (callFunc 23 args).run Try.prog w = .ok (.enter 23 args) w := enters Try.func23 (by kernel_rfl) (by kernel_rfl) args w
theorem step_num (hgd : o.guard = none) (x0 : Operand) (ho : o.op = .call { callee := .value (.func 23), args := #[x0], argTypes := #[37] }) (v : Int) (h0 : a.eval x0 = .int .i64 v)
    (h : K (a.put o.dst (.int .i64 v)) w) : if Region.wanted o (yielded ops a.tmps) = true then Oper.wp Try.prog o a w K Q else E := by
  have hw : Region.wanted o (yielded ops a.tmps) = true := by simp [Region.wanted, hgd]
  rw [if_pos hw]
  have hr : (execOp a.eval o).run Try.prog w = .ok (.enter 23 #[.int .i64 v]) w := by
    unfold execOp
    have hfv : a.eval (.func 23) = Value.func (.func 23) #[] #[] := rfl
    simp [ho, resolve, Deferred.ofValue, hfv, invoke, h0]
  unfold Oper.wp
  rw [hr]
  refine Calls.mono (num_any v w) ?_
  rintro e w' ⟨rfl, rfl⟩
  exact h
/-- A store into a cell. -/
theorem step_store (hgd : o.guard = none) (t : TypeId) (x y : Operand) (ho : o.op = .store t x y) {v : Value} {w' : World} (hy : a.eval y = v) (hr : (Instr.storeAt t (a.eval x) v).run Try.prog w = .ok () w')
    (h : K (a.put o.dst undef) w') : if Region.wanted o (yielded ops a.tmps) = true then Oper.wp Try.prog o a w K Q else E := by
  have hw : Region.wanted o (yielded ops a.tmps) = true := by simp [Region.wanted, hgd]
  rw [if_pos hw]
  have hr' : (execOp a.eval o).run Try.prog w = .ok .skip w' := by
    unfold execOp
    subst hy
    simp [ho, hr]
  unfold Oper.wp
  rw [hr']
  exact h
theorem run_store23 {p : Addr} {x : Value} {A : Option Addr} {n c : Nat} (hc : w.cell? p = some x) (hf : w.frozen? p = false) : (Instr.storeAt 23 (.pointer (some p)) (.slice A n c)).run Try.prog w = .ok () (w.setCell p (.slice A n c)) := by
  go_simp
theorem run_store27 {p : Addr} {x : Value} {A : Option Addr} {n c : Nat} (hc : w.cell? p = some x) (hf : w.frozen? p = false) : (Instr.storeAt 27 (.pointer (some p)) (.slice A n c)).run Try.prog w = .ok () (w.setCell p (.slice A n c)) := by
  go_simp
theorem step_store23 (hgd : o.guard = none) (x y : Operand) (ho : o.op = .store 23 x y) {p : Addr} {z : Value} {A : Option Addr} {n c : Nat} (hx : a.eval x = .pointer (some p)) (hy : a.eval y = .slice A n c) (hc : w.cell? p = some z) (hf : w.frozen? p = false)
    (h : K (a.put o.dst undef) (w.setCell p (.slice A n c))) : if Region.wanted o (yielded ops a.tmps) = true then Oper.wp Try.prog o a w K Q else E :=
  step_store hgd 23 x y ho hy (by rw [hx]; exact run_store23 hc hf) h
theorem step_store27 (hgd : o.guard = none) (x y : Operand) (ho : o.op = .store 27 x y) {p : Addr} {z : Value} {A : Option Addr} {n c : Nat} (hx : a.eval x = .pointer (some p)) (hy : a.eval y = .slice A n c) (hc : w.cell? p = some z) (hf : w.frozen? p = false)
    (h : K (a.put o.dst undef) (w.setCell p (.slice A n c))) : if Region.wanted o (yielded ops a.tmps) = true then Oper.wp Try.prog o a w K Q else E :=
  step_store hgd 27 x y ho hy (by rw [hx]; exact run_store27 hc hf) h
end
end Go.Proofs.Ytncbgnpoffolcaa
