/-
  The shape of an operation: the walk of the given table, and of the document's names.
-/
import Derived.Test.YtncbgnpoffolcaaM13
import Derived.Laws.NewBlocks
import Derived.Laws.Rows
import Derived.Great.BuildSlice
import Derived.Deep.MidRow
import Derived.Deep.DeepCutAuto
/-! The shape of an operation: the walk of the given table, and of the document's names. -/
namespace Go.Proofs.Ytncbgnpoffolcaa
open Go.RowKit
/-- An operation's name, its parts, and its bounds: the least b, the greatest a, the greatest b. -/
structure Shape where
  name : List UInt8
  parts : Nat
  low : Int
  a : Int
  b : Int
def shapes : List Shape :=
  [⟨[112, 117, 116], 1, 0, 255, 0⟩, ⟨[121, 105, 101, 108, 100], 0, 0, 0, 0⟩, ⟨[100, 101, 108, 97, 121], 1, 0, 1000, 0⟩, ⟨[116, 97, 107, 101], 2, -1, 15, 1000⟩,
   ⟨[103, 105, 118, 101], 1, 0, 15, 0⟩, ⟨[108, 111, 99, 107], 1, 0, 15, 0⟩, ⟨[117, 110, 108, 111, 99, 107], 1, 0, 15, 0⟩, ⟨[115, 101, 110, 100], 2, 0, 15, 1000⟩, ⟨[114, 101, 99, 118], 1, 0, 15, 0⟩,
   ⟨[115, 104, 111, 119], 0, 0, 0, 0⟩, ⟨[108, 111, 111, 112], 2, 1, 100, 20⟩, ⟨[98, 97, 100], 0, 0, 0, 0⟩, ⟨[112, 111, 107, 101], 0, 0, 0, 0⟩, ⟨[112, 114, 105, 111], 1, 0, 31, 0⟩, ⟨[119, 104, 111], 0, 0, 0, 0⟩]
theorem shapes_len : shapes.length = 15 := rfl
/-- A shape's cells. -/
def shapeC (s : Shape) : List Value := [strV s.name, .int .i64 s.parts, .int .i64 s.low, .int .i64 s.a, .int .i64 s.b]
/-- All shapes' cells. -/
def shapeCells : Array Value := (shapes.flatMap shapeC).toArray
theorem shapeCells_at (k j : Nat) (hk : k < 15) (hj : j < 5) : shapeCells[k * 5 + j]? = (shapeC (shapes[k]'hk))[j]? := by
  unfold shapeCells
  rw [List.getElem?_toArray]
  exact flat_at (f := shapeC) (n := 5) (fun _ => rfl) shapes k j hk hj
/-- The world behind the table. -/
noncomputable def shapeW (w : World) : World := ((w.alloc (.cells #[.string ⟨#[]⟩, .int .i64 0, .int .i64 0, .int .i64 0, .int .i64 0] 104)).alloc (.cells Try.zeroCells118 118)).setRow (w.heap.size + 1) shapeCells
theorem shapeW_facts (w : World) : Whole (shapeW w) w.heap.size 104 #[.string ⟨#[]⟩, .int .i64 0, .int .i64 0, .int .i64 0, .int .i64 0] ∧ Whole (shapeW w) (w.heap.size + 1) 118 shapeCells ∧ Below w.heap.size w (shapeW w) := by
  refine ⟨?_, ?_, ?_⟩
  · show (World.setRow _ _ _).heap[_]? = _
    rw [setRow_other _ _ _ _ (by omega)]
    exact heap_alloc2_old _ _ _
  · exact setRow_heap _ _ _ _ _ _ (heap_alloc2_new _ _ _)
  · refine (((Below.refl _ _).alloc (Nat.le_refl _) _).alloc (by simp) _).trans ⟨rfl, rfl, rfl, by show _ ≤ (World.setRow _ _ _).heap.size; rw [setRow_size]; exact Nat.le_refl _, fun k hk => setRow_other _ _ _ _ (by omega)⟩
def shapeV (s : Shape) : Value := .agg #[strV s.name, .int .i64 s.parts, .int .i64 s.low, .int .i64 s.a, .int .i64 s.b]
set_option maxRecDepth 100000 in
set_option maxHeartbeats 4000000 in
theorem shape_any (w : World) (k : Nat) (hk : k < 15) :
    Calls Try.prog 52 #[.int .i64 k] w fun e w' => e = .returned (.tuple #[shapeV (shapes[k]'hk), .bool true]) ∧ Below w.heap.size w w' := by
  have hk' : (k : Int) < 15 := by omega
  obtain ⟨S, hS⟩ : ∃ S, S = shapes[k]'hk := ⟨_, rfl⟩
  rw [← hS]
  have q0' := (shapeCells_at k 0 hk (by omega))
  have q1' := (shapeCells_at k 1 hk (by omega))
  have q2' := (shapeCells_at k 2 hk (by omega))
  have q3' := (shapeCells_at k 3 hk (by omega))
  have q4' := (shapeCells_at k 4 hk (by omega))
  rw [← hS] at q0' q1' q2' q3' q4'
  clear hS
  have q0 := Lib.hid q0'
  have q1 := Lib.hid q1'
  have q2 := Lib.hid q2'
  have q3 := Lib.hid q3'
  have q4 := Lib.hid q4'
  clear q0' q1' q2' q3' q4'
  obtain ⟨nm, parts, low, a, b⟩ := S
  go_enter Try.func52, Try.ntmps52
  go_upto_region 2 with (first | (refine wpList_buildTo rfl 118 _ rfl (some 20) rfl shapeCells (by as_aux_lemma => kernel_rfl) ?_) | (refine wpList_store_row rfl 118 _ _ rfl (w.heap.size + 1) shapeCells rfl rfl 118 Try.zeroCells118 (heap_alloc2_new w _ _) (by as_aux_lemma => kernel_rfl) (by as_aux_lemma => kernel_rfl) (by as_aux_lemma => kernel_rfl) ?_))
  obtain ⟨f1, f2, f3⟩ := shapeW_facts w
  change Code.wp _ _ _ _ (shapeW w)
  generalize shapeW w = W2 at *
  have k0 := (f2.cell (k * 5)).trans q0.out
  have k1 := (f2.cell (k * 5 + 1)).trans q1.out
  have k2 := (f2.cell (k * 5 + 2)).trans q2.out
  have k3 := (f2.cell (k * 5 + 3)).trans q3.out
  have k4 := (f2.cell (k * 5 + 4)).trans q4.out
  have c0 := f1.cell 0
  have c1 := f1.cell 1
  have c2 := f1.cell 2
  have c3 := f1.cell 3
  have c4 := f1.cell 4
  have fz0 := f1.frozen 0
  have fz1 := f1.frozen 1
  have fz2 := f1.frozen 2
  have fz3 := f1.frozen 3
  have fz4 := f1.frozen 4
  have hz := f3.size
  have hg : ¬ w.heap.size + 1 = w.heap.size := by omega
  simp [shapeC, strV] at c0 c1 c2 c3 c4 k0 k1 k2 k3 k4
  go_wp2_with fail
  refine bodyPost_ret (v := .tuple #[shapeV ⟨nm, parts, low, a, b⟩, .bool true]) (by simp [results, Try.results52, go_sem, c0, c1, c2, c3, c4, shapeV, strV]) rfl ?_
  exact ⟨rfl, ((((f3.setCell (Nat.le_refl _) _).setCell (Nat.le_refl _) _).setCell (Nat.le_refl _) _).setCell (Nat.le_refl _) _).setCell (Nat.le_refl _) _⟩
set_option maxRecDepth 100000 in
set_option maxHeartbeats 4000000 in
theorem shape_none (w : World) (k : Int) (hk : k < 0 ∨ 15 ≤ k) :
    Calls Try.prog 52 #[.int .i64 k] w fun e w' => e = .returned (.tuple #[shapeV ⟨[], 0, 0, 0, 0⟩, .bool false]) ∧ Below w.heap.size w w' := by
  have hd : decide (k < 0) = true ∨ (decide (k < 0) = false ∧ decide (15 ≤ k) = true) := by
    rcases hk with h | h
    · exact .inl (decide_eq_true h)
    · exact .inr ⟨decide_eq_false (by omega), decide_eq_true h⟩
  go_enter Try.func52, Try.ntmps52
  go_upto_region 2 with (first | (refine wpList_buildTo rfl 118 _ rfl (some 20) rfl shapeCells (by as_aux_lemma => kernel_rfl) ?_) | (refine wpList_store_row rfl 118 _ _ rfl (w.heap.size + 1) shapeCells rfl rfl 118 Try.zeroCells118 (heap_alloc2_new w _ _) (by as_aux_lemma => kernel_rfl) (by as_aux_lemma => kernel_rfl) (by as_aux_lemma => kernel_rfl) ?_))
  obtain ⟨f1, f2, f3⟩ := shapeW_facts w
  change Code.wp _ _ _ _ (shapeW w)
  generalize shapeW w = W2 at *
  have c0 := f1.cell 0
  have c1 := f1.cell 1
  have c2 := f1.cell 2
  have c3 := f1.cell 3
  have c4 := f1.cell 4
  have fz0 := f1.frozen 0
  have fz1 := f1.frozen 1
  have fz2 := f1.frozen 2
  have fz3 := f1.frozen 3
  have fz4 := f1.frozen 4
  have hz := f3.size
  simp at c0 c1 c2 c3 c4
  rcases hk with hk | hk
  · go_wp2_with fail
    refine bodyPost_ret (v := .tuple #[shapeV ⟨[], 0, 0, 0, 0⟩, .bool false]) (by simp [results, Try.results52, go_sem, c0, c1, c2, c3, c4, shapeV, strV]) rfl ?_
    exact ⟨rfl, ((((f3.setCell (Nat.le_refl _) _).setCell (Nat.le_refl _) _).setCell (Nat.le_refl _) _).setCell (Nat.le_refl _) _).setCell (Nat.le_refl _) _⟩
  · have hk2 : ¬ k < 0 := by omega
    go_wp2_with fail
    refine bodyPost_ret (v := .tuple #[shapeV ⟨[], 0, 0, 0, 0⟩, .bool false]) (by simp [results, Try.results52, go_sem, c0, c1, c2, c3, c4, shapeV, strV]) rfl ?_
    exact ⟨rfl, ((((f3.setCell (Nat.le_refl _) _).setCell (Nat.le_refl _) _).setCell (Nat.le_refl _) _).setCell (Nat.le_refl _) _).setCell (Nat.le_refl _) _⟩
end Go.Proofs.Ytncbgnpoffolcaa
