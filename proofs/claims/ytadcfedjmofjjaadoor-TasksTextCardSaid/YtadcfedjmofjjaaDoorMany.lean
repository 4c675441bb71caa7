/-
  TasksMany: the table that the law builds, in memory.
-/
import Derived.Test.YtadcfedjmofjjaaDoorT4
import Derived.Test.YtadcfedjmofjjaaDoorA1
import Derived.Deep.AppendLies
import Derived.Test.YtadcfedjmofjjaaDoorL4
namespace Go.Proofs.YtadcfedjmofjjaaDoor
open Go.RowKit
/-- A table of one's own, its own block ahead. -/
structure MT (w1 W : World) (t : Tk.Table) (V1 V2 V3 : Value) : Prop where
  blk : Whole W w1.heap.size 26 #[V1, V2, .int .i64 t.mutexes, V3]
  tab : Tab W (w1.heap.size + 1) V1 V2 V3 t
  below : Below w1.heap.size w1 W
theorem MT.nil (w1 : World) : MT w1 (w1.alloc (.cells #[.slice none 0 0, .slice none 0 0, .int .i64 0, .slice none 0 0] 26)) Tk.Table.none (.slice none 0 0) (.slice none 0 0) (.slice none 0 0) :=
  ⟨Whole.made _ _ _, Tab.nil _ _, (Below.refl _ _).alloc (Nat.le_refl _) _⟩
section
variable {w1 wr w5 : World} {t : Tk.Table} {V1 V2 V3 : Value} {o : Obj}
theorem tab_row_far {V : Value} {e size n : Nat} {xs : List Value} {w : World} {B : Nat} (h : w.ownsRow B e size V n xs) {p : Addr} (hp : p.block < B) (u : Value) : (w.setCell p u).ownsRow B e size V n xs :=
  row_same h fun k hk => Below.heap_setCell _ _ _ _ (fun e => by have := (h.lt k hk).1; omega)
theorem MT.push {l : List (Tk.Task × Value)} {V' : Value} (h : MT w1 wr t V1 V2 V3) (e : l.map Prod.fst = t.tasks) (hl : Tasks wr (w1.heap.size + 1) V1 l)
    (hown : w5.ownsRow (w1.heap.size + 1) 32 2 V' (l.length + 1) (l.flatMap taskC ++ [.int .i64 0, .slice none 0 0])) (hgrow : (wr.alloc o).grownBy w5 V1.ownBlock) :
    MT w1 (w5.setCell ⟨w1.heap.size, 0, none⟩ V') { t with tasks := t.tasks ++ [⟨0, []⟩] } V' V2 V3 := by
  have hs : ∀ k, k < wr.heap.size → (wr.alloc o).heap[k]? = wr.heap[k]? := fun k hk => Below.heap_alloc wr _ k hk
  have hz : wr.heap.size ≤ (wr.alloc o).heap.size := by simp
  have hlt : ∀ k, V1.ownBlock = some k → w1.heap.size + 1 ≤ k := fun k hk => (hl.row.lt k hk).1
  have hne : V1.ownBlock ≠ some w1.heap.size := fun e => by have := hlt _ e; omega
  have hp : (⟨w1.heap.size, 0, none⟩ : Addr).block < w1.heap.size + 1 := Nat.lt_succ_self _
  refine ⟨(Whole.grown (h.blk.alloc _) hgrow hne).put 0 _, ⟨⟨l ++ [(⟨0, []⟩, .slice none 0 0)], by simp [e], ?_⟩, ?_, ?_⟩, ?_⟩
  · exact (Tasks.push hl hown hgrow hs hz).same fun k hk _ => Below.heap_setCell _ _ _ _ (fun e => by rw [e] at hk; exact absurd hk (by simp))
  · exact tab_row_far (row_grown h.tab.sems hgrow hs hz (fun k hk e => row_kind h.tab.sems hl.row (by decide) k hk e)) hp _
  · exact tab_row_far (row_grown h.tab.queues hgrow hs hz (fun k hk e => row_kind h.tab.queues hl.row (by decide) k hk e)) hp _
  · exact ((h.below.alloc h.below.size _).grown hgrow (by have := h.below.size; simp; omega) (fun k hk => by have := hlt k hk; omega)).setCell (p := ⟨w1.heap.size, 0, none⟩) (Nat.le_refl _) _
theorem tasks_grown {B : Nat} {V V' : Value} {l : List (Tk.Task × Value)} {w0 : World} {n : Nat} {xs : List Value} (hl : Tasks wr B V l) (hr : wr.ownsRow B 3 1 V' n xs) (hgrow : w0.grownBy w5 V'.ownBlock) (hs : ∀ k, k < wr.heap.size → w0.heap[k]? = wr.heap[k]?) (hz : wr.heap.size ≤ w0.heap.size) : Tasks w5 B V l :=
  ⟨row_grown hl.row hgrow hs hz (fun k hk e => row_kind hl.row hr (by decide) k hk e), fun x hx => row_grown (hl.ops x hx) hgrow hs hz (fun k hk e => row_kind (hl.ops x hx) hr (by decide) k hk e), hl.apart⟩
theorem MT.sems {V' : Value} {n : Int} (h : MT w1 wr t V1 V2 V3) (hown : w5.ownsRow (w1.heap.size + 1) 3 1 V' (t.sems.length + 1) (intV t.sems ++ [.int .i64 n])) (hgrow : (wr.alloc o).grownBy w5 V2.ownBlock)
    (hq : ∀ k, V3.ownBlock = some k → V2.ownBlock ≠ some k) : MT w1 (w5.setCell ⟨w1.heap.size, 1, none⟩ V') { t with sems := t.sems ++ [n] } V1 V' V3 := by
  have hs : ∀ k, k < wr.heap.size → (wr.alloc o).heap[k]? = wr.heap[k]? := fun k hk => Below.heap_alloc wr _ k hk
  have hz : wr.heap.size ≤ (wr.alloc o).heap.size := by simp
  have hlt : ∀ k, V2.ownBlock = some k → w1.heap.size + 1 ≤ k := fun k hk => (h.tab.sems.lt k hk).1
  have hne : V2.ownBlock ≠ some w1.heap.size := fun e => by have := hlt _ e; omega
  have hp : (⟨w1.heap.size, 1, none⟩ : Addr).block < w1.heap.size + 1 := Nat.lt_succ_self _
  obtain ⟨l, e, hl⟩ := h.tab.tasks
  refine ⟨(Whole.grown (h.blk.alloc _) hgrow hne).put 1 _, ⟨⟨l, e, (tasks_grown hl h.tab.sems hgrow hs hz).same fun k hk _ => Below.heap_setCell _ _ _ _ (fun e => by rw [e] at hk; exact absurd hk (by simp))⟩, ?_, ?_⟩, ?_⟩
  · have e2 : intV (t.sems ++ [n]) = intV t.sems ++ [.int .i64 n] := by simp [intV]
    show World.ownsRow _ _ 3 1 V' (t.sems ++ [n]).length (intV (t.sems ++ [n]))
    rw [e2, List.length_append, List.length_singleton]
    exact tab_row_far hown hp _
  · exact tab_row_far (row_grown h.tab.queues hgrow hs hz hq) hp _
  · exact ((h.below.alloc h.below.size _).grown hgrow (by have := h.below.size; simp; omega) (fun k hk => by have := hlt k hk; omega)).setCell (p := ⟨w1.heap.size, 1, none⟩) (Nat.le_refl _) _
theorem MT.queues {V' : Value} {n : Int} (h : MT w1 wr t V1 V2 V3) (hown : w5.ownsRow (w1.heap.size + 1) 3 1 V' (t.queues.length + 1) (intV t.queues ++ [.int .i64 n])) (hgrow : (wr.alloc o).grownBy w5 V3.ownBlock)
    (hq : ∀ k, V2.ownBlock = some k → V3.ownBlock ≠ some k) : MT w1 (w5.setCell ⟨w1.heap.size, 3, none⟩ V') { t with queues := t.queues ++ [n] } V1 V2 V' := by
  have hs : ∀ k, k < wr.heap.size → (wr.alloc o).heap[k]? = wr.heap[k]? := fun k hk => Below.heap_alloc wr _ k hk
  have hz : wr.heap.size ≤ (wr.alloc o).heap.size := by simp
  have hlt : ∀ k, V3.ownBlock = some k → w1.heap.size + 1 ≤ k := fun k hk => (h.tab.queues.lt k hk).1
  have hne : V3.ownBlock ≠ some w1.heap.size := fun e => by have := hlt _ e; omega
  have hp : (⟨w1.heap.size, 3, none⟩ : Addr).block < w1.heap.size + 1 := Nat.lt_succ_self _
  obtain ⟨l, e, hl⟩ := h.tab.tasks
  refine ⟨(Whole.grown (h.blk.alloc _) hgrow hne).put 3 _, ⟨⟨l, e, (tasks_grown hl h.tab.queues hgrow hs hz).same fun k hk _ => Below.heap_setCell _ _ _ _ (fun e => by rw [e] at hk; exact absurd hk (by simp))⟩, ?_, ?_⟩, ?_⟩
  · exact tab_row_far (row_grown h.tab.sems hgrow hs hz hq) hp _
  · have e2 : intV (t.queues ++ [n]) = intV t.queues ++ [.int .i64 n] := by simp [intV]
    show World.ownsRow _ _ 3 1 V' (t.queues ++ [n]).length (intV (t.queues ++ [n]))
    rw [e2, List.length_append, List.length_singleton]
    exact tab_row_far hown hp _
  · exact ((h.below.alloc h.below.size _).grown hgrow (by have := h.below.size; simp; omega) (fun k hk => by have := hlt k hk; omega)).setCell (p := ⟨w1.heap.size, 3, none⟩) (Nat.le_refl _) _
theorem MT.op {l : List (Tk.Task × Value)} {x : Tk.Task} {hv : Value} {g c gg cap : Nat} (h : MT w1 wr t (.slice (some ⟨g, 0, none⟩) (l.length + 1) c) V2 V3) (htk : Tasks wr (w1.heap.size + 1) (.slice (some ⟨g, 0, none⟩) (l.length + 1) c) (l ++ [(x, hv)]))
    (hown : w5.ownsRow (w1.heap.size + 1) 34 3 (.slice (some ⟨gg, 0, none⟩) (x.ops.length + 1) cap) (x.ops.length + 1) (opsC x.ops ++ [.int .i64 1, .int .i64 0, .int .i64 0])) (hgrow : ((wr.alloc o).drew).grownBy w5 hv.ownBlock)
    (hat : hv.ownBlock = some gg ∨ gg = wr.heap.size + 1) :
    MT w1 (w5.setCell ⟨g, l.length * 2 + 1, none⟩ (.slice (some ⟨gg, 0, none⟩) (x.ops.length + 1) cap)) { t with tasks := l.map Prod.fst ++ [{ x with ops := x.ops ++ [⟨1, 0, 0⟩] }] } (.slice (some ⟨g, 0, none⟩) (l.length + 1) c) V2 V3 := by
  have hs5 : ∀ k', k' < wr.heap.size → ((wr.alloc o).drew).heap[k']? = wr.heap[k']? := fun k' hk' => Below.heap_alloc wr _ k' hk'
  have hz5 : wr.heap.size ≤ ((wr.alloc o).drew).heap.size := by simp
  have hrow := htk.row
  have hto := htk.ops (x, hv) (by simp)
  have hgB := (hrow.lt g rfl).1
  have hgl := (hrow.lt g rfl).2
  have hop : hv.ownBlock ≠ some w1.heap.size := fun e => by have := (hto.lt _ e).1; omega
  have hpg : w1.heap.size ≠ g := by omega
  have hzz := h.below.size
  refine ⟨(Whole.grown (h.blk.alloc _).drew hgrow hop).far hpg _, ⟨⟨l ++ [({ x with ops := x.ops ++ [⟨1, 0, 0⟩] }, .slice (some ⟨gg, 0, none⟩) (x.ops.length + 1) cap)], by simp, ?_⟩, ?_, ?_⟩, ?_⟩
  · refine Tasks.op (o := ⟨1, 0, 0⟩) htk ?_ hgrow hs5 hz5 ?_
    · exact hown
    · intro k' hk'
      have hk2 : gg = k' := by simpa [Value.ownBlock] using hk'
      rcases hat with h9 | h9
      · exact .inl (by rw [h9, hk2])
      · right; omega
  · exact keep_row h.tab.sems (Below.refl _ _) hs5 hz5 hgrow (fun k' hk' e => row_kind h.tab.sems hto (by decide) k' hk' e) (fun e => row_kind h.tab.sems hrow (by decide) g e rfl) _
  · exact keep_row h.tab.queues (Below.refl _ _) hs5 hz5 hgrow (fun k' hk' e => row_kind h.tab.queues hto (by decide) k' hk' e) (fun e => row_kind h.tab.queues hrow (by decide) g e rfl) _
  · exact (((h.below.alloc h.below.size _).drew).grown hgrow (by simp; omega) (fun k' hk' => by have := (hto.lt k' hk').1; omega)).setCell (by show _ ≤ g; omega) _
end
end Go.Proofs.YtadcfedjmofjjaaDoor
