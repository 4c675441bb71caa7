/-
  KernEnds: what its region 7 draws.
-/
import Derived.Test.YtncbgnpoffolcaaWn
import Derived.Test.YtncbgnpoffolcaaSb
import Derived.Test.YtncbgnpoffolcaaOw
import Derived.Test.YtncbgnpoffolcaaSmi
import Derived.Test.YtncbgnpoffolcaaEndP
namespace Go.Proofs.Ytncbgnpoffolcaa
open Go.RowKit
def ROp (k a b : Int) (v : Value) : Prop := v = .agg #[.int .i64 k, .int .i64 a, .int .i64 b]
def RSl (ops : List Kn.Op) (n : Nat) (v : Value) (W : World) : Prop := ∃ g, v = .slice (some ⟨g, 0, none⟩) n n ∧ Whole W g 32 (opsC ops).toArray
def RTk (p : Int) (ops : List Kn.Op) (n : Nat) (v : Value) (W : World) : Prop := ∃ g, v = .agg #[.int .i64 p, .slice (some ⟨g, 0, none⟩) n n] ∧ Whole W g 32 (opsC ops).toArray
def o4L : List Kn.Op := [⟨2, 1, 0⟩, ⟨5, 0, 0⟩, ⟨0, 108, 0⟩, ⟨6, 0, 0⟩]
def o4H : List Kn.Op := [⟨2, 1, 0⟩, ⟨5, 0, 0⟩, ⟨0, 104, 0⟩, ⟨6, 0, 0⟩]
def o3K (k : Int) : List Kn.Op := [⟨5, 0, 0⟩, ⟨2, 2, 0⟩, ⟨k, 0, 0⟩]
/-- The blocks of the table's tasks. -/
structure EG (k low high : Int) (g g1 g2 g3 : Nat) (W : World) : Prop where
  t : Whole W g 29 #[.int .i64 0, .slice (some ⟨g1, 0, none⟩) 3 3, .int .i64 low, .slice (some ⟨g2, 0, none⟩) 4 4, .int .i64 high, .slice (some ⟨g3, 0, none⟩) 4 4]
  a : Whole W g1 32 (opsC (o3K k)).toArray
  b : Whole W g2 32 (opsC o4L).toArray
  c : Whole W g3 32 (opsC o4H).toArray
def RTs (k low high : Int) (v : Value) (W : World) : Prop := ∃ g g1 g2 g3, v = .slice (some ⟨g, 0, none⟩) 3 3 ∧ EG k low high g g1 g2 g3 W
def RTb (k low high : Int) (v : Value) (W : World) : Prop := ∃ g g1 g2 g3, v = .agg #[.slice (some ⟨g, 0, none⟩) 3 3, .slice none 0 0, .int .i64 1, .slice none 0 0] ∧ EG k low high g g1 g2 g3 W
def RPt (B : Nat) (v : Value) (W : World) : Prop := ∃ b, v = .pointer (some ⟨b, 0, none⟩) ∧ B ≤ b ∧ Whole W b 26 #[.slice none 0 0, .slice none 0 0, .int .i64 0, .slice none 0 0]
section
variable {W W' : World} {k low high p : Int} {ops : List Kn.Op} {n g g1 g2 g3 B b : Nat} {v : Value} {cs : Array Value}
theorem RSl.below (h : RSl ops n v W) (hb : Below W.heap.size W W') : RSl ops n v W' := by
  obtain ⟨g, e, hg⟩ := h
  exact ⟨g, e, hg.same (hb.block _ hg.lt)⟩
theorem RTk.below (h : RTk p ops n v W) (hb : Below W.heap.size W W') : RTk p ops n v W' := by
  obtain ⟨g, e, hg⟩ := h
  exact ⟨g, e, hg.same (hb.block _ hg.lt)⟩
theorem EG.below (h : EG k low high g g1 g2 g3 W) (hb : Below W.heap.size W W') : EG k low high g g1 g2 g3 W' :=
  ⟨h.t.same (hb.block _ h.t.lt), h.a.same (hb.block _ h.a.lt), h.b.same (hb.block _ h.b.lt), h.c.same (hb.block _ h.c.lt)⟩
theorem EG.put (h : EG k low high g g1 g2 g3 W) (hw : Whole W b 26 cs) (i : Nat) (u : Value) : EG k low high g g1 g2 g3 (W.setCell ⟨b, i, none⟩ u) :=
  ⟨h.t.far (h.t.kind hw (by decide)) u, h.a.far (h.a.kind hw (by decide)) u, h.b.far (h.b.kind hw (by decide)) u, h.c.far (h.c.kind hw (by decide)) u⟩
theorem EG.put4 (h : EG k low high g g1 g2 g3 W) (hw : Whole W b 26 cs) (u0 u1 u2 u3 : Value) : EG k low high g g1 g2 g3 ((((W.setCell ⟨b, 0, none⟩ u0).setCell ⟨b, 1, none⟩ u1).setCell ⟨b, 2, none⟩ u2).setCell ⟨b, 3, none⟩ u3) :=
  (((h.put hw 0 u0).put (hw.put 0 u0) 1 u1).put ((hw.put 0 u0).put 1 u1) 2 u2).put (((hw.put 0 u0).put 1 u1).put 2 u2) 3 u3
theorem RTs.below (h : RTs k low high v W) (hb : Below W.heap.size W W') : RTs k low high v W' := by
  obtain ⟨g, g1, g2, g3, e, hE⟩ := h
  exact ⟨g, g1, g2, g3, e, hE.below hb⟩
theorem RTb.below (h : RTb k low high v W) (hb : Below W.heap.size W W') : RTb k low high v W' := by
  obtain ⟨g, g1, g2, g3, e, hE⟩ := h
  exact ⟨g, g1, g2, g3, e, hE.below hb⟩
theorem RPt.below (h : RPt B v W) (hb : Below W.heap.size W W') : RPt B v W' := by
  obtain ⟨b, e, hB, hw⟩ := h
  exact ⟨b, e, hB, hw.same (hb.block _ hw.lt)⟩
end
section
variable {ops : Array Oper} {o : Oper} {a : Act} {w : World} {K : Act → World → Prop} {Q : Exit → Act → World → Prop} {E : Prop}
set_option maxRecDepth 100000
theorem run_ops4 (p0 q0 r0 p1 q1 r1 p2 q2 r2 p3 q3 r3 : Int) (w : World) : (Instr.buildSlice 27 4 #[(0, .agg #[.int .i64 p0, .int .i64 q0, .int .i64 r0]), (1, .agg #[.int .i64 p1, .int .i64 q1, .int .i64 r1]), (2, .agg #[.int .i64 p2, .int .i64 q2, .int .i64 r2]), (3, .agg #[.int .i64 p3, .int .i64 q3, .int .i64 r3])]).run Try.prog w = .ok (.slice (some ⟨w.heap.size, 0, none⟩) 4 4) (w.alloc (.cells #[.int .i64 p0, .int .i64 q0, .int .i64 r0, .int .i64 p1, .int .i64 q1, .int .i64 r1, .int .i64 p2, .int .i64 q2, .int .i64 r2, .int .i64 p3, .int .i64 q3, .int .i64 r3] 32)) := by
  go_simp
theorem step_ops4 (hgd : o.guard = none) (x0 x1 x2 x3 : Operand) (ho : o.op = .buildSlice 27 4 #[(0, x0), (1, x1), (2, x2), (3, x3)]) (p0 q0 r0 p1 q1 r1 p2 q2 r2 p3 q3 r3 : Int) (h0 : a.eval x0 = .agg #[.int .i64 p0, .int .i64 q0, .int .i64 r0]) (h1 : a.eval x1 = .agg #[.int .i64 p1, .int .i64 q1, .int .i64 r1]) (h2 : a.eval x2 = .agg #[.int .i64 p2, .int .i64 q2, .int .i64 r2]) (h3 : a.eval x3 = .agg #[.int .i64 p3, .int .i64 q3, .int .i64 r3])
    (h : K (a.put o.dst (.slice (some ⟨w.heap.size, 0, none⟩) 4 4)) (w.alloc (.cells #[.int .i64 p0, .int .i64 q0, .int .i64 r0, .int .i64 p1, .int .i64 q1, .int .i64 r1, .int .i64 p2, .int .i64 q2, .int .i64 r2, .int .i64 p3, .int .i64 q3, .int .i64 r3] 32))) : if Region.wanted o (yielded ops a.tmps) = true then Oper.wp Try.prog o a w K Q else E := by
  have hw : Region.wanted o (yielded ops a.tmps) = true := by simp [Region.wanted, hgd]
  rw [if_pos hw]
  have hr : (execOp a.eval o).run Try.prog w = .ok (.value (.slice (some ⟨w.heap.size, 0, none⟩) 4 4)) (w.alloc (.cells #[.int .i64 p0, .int .i64 q0, .int .i64 r0, .int .i64 p1, .int .i64 q1, .int .i64 r1, .int .i64 p2, .int .i64 q2, .int .i64 r2, .int .i64 p3, .int .i64 q3, .int .i64 r3] 32)) := by
    unfold execOp
    simp [ho, h0, h1, h2, h3, run_ops4]
  unfold Oper.wp
  rw [hr]
  exact h
theorem run_bs222 (w : World) : (Instr.buildSlice 24 3 #[(0, .int .i64 2), (1, .int .i64 2), (2, .int .i64 2)]).run Try.prog w = .ok (.slice (some ⟨w.heap.size, 0, none⟩) 3 3) (w.alloc (.cells #[.int .i64 2, .int .i64 2, .int .i64 2] 3)) := by
  go_simp
theorem run_task3 (p q r : Int) (A B C : Option Addr) (n c m d k e : Nat) (w : World) : (Instr.buildSlice 23 3 #[(0, .agg #[.int .i64 p, .slice A n c]), (1, .agg #[.int .i64 q, .slice B m d]), (2, .agg #[.int .i64 r, .slice C k e])]).run Try.prog w = .ok (.slice (some ⟨w.heap.size, 0, none⟩) 3 3) (w.alloc (.cells #[.int .i64 p, .slice A n c, .int .i64 q, .slice B m d, .int .i64 r, .slice C k e] 29)) := by
  go_simp
theorem step_task3 (hgd : o.guard = none) (x0 x1 x2 : Operand) (ho : o.op = .buildSlice 23 3 #[(0, x0), (1, x1), (2, x2)]) (p q r : Int) (A B C : Option Addr) (n c m d k e : Nat) (h0 : a.eval x0 = .agg #[.int .i64 p, .slice A n c]) (h1 : a.eval x1 = .agg #[.int .i64 q, .slice B m d]) (h2 : a.eval x2 = .agg #[.int .i64 r, .slice C k e])
    (h : K (a.put o.dst (.slice (some ⟨w.heap.size, 0, none⟩) 3 3)) (w.alloc (.cells #[.int .i64 p, .slice A n c, .int .i64 q, .slice B m d, .int .i64 r, .slice C k e] 29))) : if Region.wanted o (yielded ops a.tmps) = true then Oper.wp Try.prog o a w K Q else E := by
  have hw : Region.wanted o (yielded ops a.tmps) = true := by simp [Region.wanted, hgd]
  rw [if_pos hw]
  have hr : (execOp a.eval o).run Try.prog w = .ok (.value (.slice (some ⟨w.heap.size, 0, none⟩) 3 3)) (w.alloc (.cells #[.int .i64 p, .slice A n c, .int .i64 q, .slice B m d, .int .i64 r, .slice C k e] 29)) := by
    unfold execOp
    simp [ho, h0, h1, h2, run_task3]
  unfold Oper.wp
  rw [hr]
  exact h
end
end Go.Proofs.Ytncbgnpoffolcaa
