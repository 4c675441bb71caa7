/-
  A call of a Go function, of a slice's making, at a step of a region that draws its order, by laws of their own.
-/
import Derived.Test.YtncbgnpoffolcaaNd
import Derived.Test.YtncbgnpoffolcaaLa
namespace Go.Proofs.Ytncbgnpoffolcaa
open Go.RowKit
section
variable {P : Program} {ops : Array Oper} {o : Oper} {a : Act} {w : World} {K : Act → World → Prop} {Q : Exit → Act → World → Prop} {E : Prop}
theorem enters {f : FuncId} {fn : Func} (hf : P.funcs[f]? = some fn) (hn : (fn.name == "runtime.NumGoroutine") = false) (hb : fn.body.isNone = false) (args : Array Value) (w : World) : (callFunc f args).run P w = .ok (.enter f args) w := by
  have h1 : fn.name ≠ "runtime.NumGoroutine" := by simpa using hn
  have h3 : ¬ fn.body = none := by intro h; simp [h] at hb
  simp [callFunc, hf, h1, h3]
theorem step_call2 (hgd : o.guard = none) (f : FuncId) (x0 x1 : Operand) (t0 t1 : TypeId) (ho : o.op = .call { callee := .value (.func f), args := #[x0, x1], argTypes := #[t0, t1] })
    (hf : ∀ (args : Array Value) (w : World), (callFunc f args).run P w = .ok (.enter f args) w) (v0 v1 : Value) (h0 : a.eval x0 = v0) (h1 : a.eval x1 = v1)
    (h : Calls P f #[v0, v1] w fun e w' => ∃ u, e = .returned u ∧ K (a.put o.dst u) w') : if Region.wanted o (yielded ops a.tmps) = true then Oper.wp P o a w K Q else E := by
  have hw : Region.wanted o (yielded ops a.tmps) = true := by simp [Region.wanted, hgd]
  rw [if_pos hw]
  have hr : (execOp a.eval o).run P w = .ok (.enter f #[v0, v1]) w := by
    unfold execOp
    have hfv : a.eval (.func f) = Value.func (.func f) #[] #[] := rfl
    simp [ho, resolve, Deferred.ofValue, hfv, invoke, hf, h0, h1]
  unfold Oper.wp
  rw [hr]
  refine Calls.mono h ?_
  rintro e w' ⟨u, rfl, hk⟩
  exact hk
theorem step_call3 (hgd : o.guard = none) (f : FuncId) (x0 x1 x2 : Operand) (t0 t1 t2 : TypeId) (ho : o.op = .call { callee := .value (.func f), args := #[x0, x1, x2], argTypes := #[t0, t1, t2] })
    (hf : ∀ (args : Array Value) (w : World), (callFunc f args).run P w = .ok (.enter f args) w) (v0 v1 v2 : Value) (h0 : a.eval x0 = v0) (h1 : a.eval x1 = v1) (h2 : a.eval x2 = v2)
    (h : Calls P f #[v0, v1, v2] w fun e w' => ∃ u, e = .returned u ∧ K (a.put o.dst u) w') : if Region.wanted o (yielded ops a.tmps) = true then Oper.wp P o a w K Q else E := by
  have hw : Region.wanted o (yielded ops a.tmps) = true := by simp [Region.wanted, hgd]
  rw [if_pos hw]
  have hr : (execOp a.eval o).run P w = .ok (.enter f #[v0, v1, v2]) w := by
    unfold execOp
    have hfv : a.eval (.func f) = Value.func (.func f) #[] #[] := rfl
    simp [ho, resolve, Deferred.ofValue, hfv, invoke, hf, h0, h1, h2]
  unfold Oper.wp
  rw [hr]
  refine Calls.mono h ?_
  rintro e w' ⟨u, rfl, hk⟩
  exact hk
end
theorem enter20 (args : Array Value) (w : World) : (callFunc 20 args).run Try.prog w = .ok (.enter 20 args) w := enters Try.func20 (by kernel_rfl) (by kernel_rfl) args w
theorem enter21 (args : Array Value) (w : World) : (callFunc 21 args).run Try.prog w = .ok (.enter 21 args) w := enters Try.func21 (by kernel_rfl) (by kernel_rfl) args w
section
variable {ops : Array Oper} {o : Oper} {a : Act} {w : World} {K : Act → World → Prop} {Q : Exit → Act → World → Prop} {E : Prop}
/-- The call of O. -/
theorem step_o (hgd : o.guard = none) (x0 x1 x2 : Operand) (ho : o.op = .call { callee := .value (.func 21), args := #[x0, x1, x2], argTypes := #[3, 3, 3] }) (k0 k1 k2 : Int)
    (h0 : a.eval x0 = .int .i64 k0) (h1 : a.eval x1 = .int .i64 k1) (h2 : a.eval x2 = .int .i64 k2)
    (h : ∀ w', Below w.heap.size w w' → K (a.put o.dst (.agg #[.int .i64 k0, .int .i64 k1, .int .i64 k2])) w') : if Region.wanted o (yielded ops a.tmps) = true then Oper.wp Try.prog o a w K Q else E := by
  refine step_call3 hgd 21 x0 x1 x2 3 3 3 ho enter21 _ _ _ h0 h1 h2 ((o_any k0 k1 k2 w).mono ?_)
  rintro e w' ⟨rfl, hb⟩
  exact ⟨_, rfl, h w' hb⟩
/-- The call of T. -/
theorem step_t (hgd : o.guard = none) (x0 x1 : Operand) (ho : o.op = .call { callee := .value (.func 20), args := #[x0, x1], argTypes := #[3, 27] }) (p : Int) (A : Option Addr) (n c : Nat)
    (h0 : a.eval x0 = .int .i64 p) (h1 : a.eval x1 = .slice A n c)
    (h : ∀ w', Below w.heap.size w w' → K (a.put o.dst (.agg #[.int .i64 p, .slice A n c])) w') : if Region.wanted o (yielded ops a.tmps) = true then Oper.wp Try.prog o a w K Q else E := by
  refine step_call2 hgd 20 x0 x1 3 27 ho enter20 _ _ h0 h1 ((t_any p A n c w).mono ?_)
  rintro e w' ⟨rfl, hb⟩
  exact ⟨_, rfl, h w' hb⟩
end
end Go.Proofs.Ytncbgnpoffolcaa
