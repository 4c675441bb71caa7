/-
  A task's operations that a literal made; an operation stored in place; two tasks appended at once.
-/
import Derived.Test.YtncbgnpoffolcaaOq
import Derived.Test.YtncbgnpoffolcaaSb
namespace Go.Proofs.Ytncbgnpoffolcaa
open Go.RowKit
section
variable {W W' w5 w1 : World} {b g N : Nat} {pr V V' V2 V3 : Value} {mu : Int} {l : List Kn.Op} {rs ms : List (Kn.Task × Option Addr × Nat)}
theorem OL.of_whole (hw : Whole W b 29 #[pr, .slice (some ⟨g, 0, none⟩) l.length l.length]) (hg : Whole W g 32 (opsC l).toArray) (hN : N ≤ g) (hl : l.length ≤ 1000) : OL W b N pr (.slice (some ⟨g, 0, none⟩) l.length l.length) l :=
  ⟨hw, ⟨opsC_len3 l, .inr ⟨g, l.length, _, rfl, hN, hg, Nat.le_refl _, by unfold maxLen; omega, by rw [List.size_toArray, opsC_len3], by rw [← opsC_len3]; simp⟩⟩⟩
theorem OL.open_ (h : OL W b N pr V l) (hl : l ≠ []) : ∃ g cap cur, V = .slice (some ⟨g, 0, none⟩) l.length cap ∧ N ≤ g ∧ Whole W g 32 cur ∧ l.length ≤ cap ∧ cap ≤ maxLen ∧ cur.size = cap * 3 ∧ cur.toList.take (l.length * 3) = opsC l := by
  rcases h.row.2 with ⟨_, e2⟩ | ⟨g, cap, cur, e, h1, h2, h3, h4, h5, h6⟩
  · exact absurd (List.eq_nil_of_length_eq_zero e2) hl
  · exact ⟨g, cap, cur, e, h1, h2, h3, h4, h5, h6⟩
/-- Its cells, one by one. -/
theorem ops_cells {cur : Array Value} (hg : Whole W g 32 cur) (ht : cur.toList.take (l.length * 3) = opsC l) : ∀ j u, (opsC l)[j]? = some u → W.cell? ((⟨g, 0, none⟩ : Addr).add j) = some u := by
  intro j u hj
  rw [Addr.add_lit, Nat.zero_add, hg.cell j]
  rw [← ht] at hj
  have hlt := (List.getElem?_eq_some_iff.1 hj).1
  rw [List.length_take] at hlt
  rw [List.getElem?_take_of_lt (by omega)] at hj
  simpa using hj
theorem opsC_one (l : List Kn.Op) : ∀ u ∈ opsC l, u.oneCell' = true := by
  intro u hu
  obtain ⟨o, _, ho⟩ := List.mem_flatMap.1 hu
  unfold opC at ho
  simp at ho
  rcases ho with rfl | rfl | rfl <;> rfl
/-- The slice's start is turned. -/
theorem OL.swap {N' : Nat} {l' : List Kn.Op} (hown : w5.ownsRow N' 32 3 V' l'.length (opsC l')) (h5 : Whole w5 b 29 #[pr, V]) : OL (w5.setCell ⟨b, 1, none⟩ V') b N' pr V' l' :=
  ⟨h5.put 1 V', row_same hown fun k hk => Below.heap_setCell _ _ _ _ (fun q => own_block hown h5 (by decide) (by rw [hk]; exact congrArg some q))⟩
/-- The third of four operations is turned in place. -/
theorem OL.third {cap : Nat} {o0 o1 o2 o3 o : Kn.Op} (h : OL W b N pr (.slice (some ⟨g, 0, none⟩) 4 cap) [o0, o1, o2, o3]) :
    OL (((W.setCell ⟨g, 6, none⟩ (.int .i64 o.kind)).setCell ⟨g, 7, none⟩ (.int .i64 o.a)).setCell ⟨g, 8, none⟩ (.int .i64 o.b)) b N pr (.slice (some ⟨g, 0, none⟩) 4 cap) [o0, o1, o, o3] := by
  obtain ⟨g', cap', cur, e, h1, h2, h3, h4, h5, h6⟩ := h.open_ (by simp)
  injection e with e _ ec
  injection e with e
  injection e with e _ _
  subst e
  subst ec
  have hne : b ≠ g := h.blk.kind h2 (by decide)
  refine ⟨((h.blk.far (p := ⟨g, 6, none⟩) hne _).far (p := ⟨g, 7, none⟩) hne _).far (p := ⟨g, 8, none⟩) hne _, rfl, .inr ⟨g, cap, _, rfl, h1, ((h2.put 6 (.int .i64 o.kind)).put 7 (.int .i64 o.a)).put 8 (.int .i64 o.b), h3, h4, by simpa using h5, ?_⟩⟩
  rw [Array.toList_setIfInBounds, Array.toList_setIfInBounds, Array.toList_setIfInBounds]
  show List.take 12 (((cur.toList.set 6 _).set 7 _).set 8 _) = _
  have h6' : cur.toList.take 12 = opsC [o0, o1, o2, o3] := h6
  rw [List.take_set, List.take_set, List.take_set, h6']
  rfl
theorem OL.third_cell {cap : Nat} {o0 o1 o2 o3 : Kn.Op} (h : OL W b N pr (.slice (some ⟨g, 0, none⟩) 4 cap) [o0, o1, o2, o3]) :
    W.cell? ⟨g, 6, none⟩ = some (.int .i64 o2.kind) ∧ W.cell? ⟨g, 7, none⟩ = some (.int .i64 o2.a) ∧ W.cell? ⟨g, 8, none⟩ = some (.int .i64 o2.b) ∧ (∀ i, W.frozen? ⟨g, i, none⟩ = false) ∧ N ≤ g ∧ g < W.heap.size := by
  obtain ⟨g', cap', cur, e, h1, h2, h3, h4, h5, h6⟩ := h.open_ (by simp)
  injection e with e _ ec
  injection e with e
  injection e with e _ _
  subst e
  subst ec
  have hc := ops_cells h2 h6
  have h7 := hc 6 _ rfl
  have h8 := hc 7 _ rfl
  have h9 := hc 8 _ rfl
  rw [Addr.add_lit, Nat.zero_add] at h7 h8 h9
  exact ⟨h7, h8, h9, fun i => h2.frozen i, h1, h2.lt⟩
theorem bel_third {B : Nat} {u v z : Value} (h : Below B w1 W) (hB : B ≤ g) : Below B w1 (((W.setCell ⟨g, 6, none⟩ u).setCell ⟨g, 7, none⟩ v).setCell ⟨g, 8, none⟩ z) :=
  ((h.setCell (p := ⟨g, 6, none⟩) hB u).setCell (p := ⟨g, 7, none⟩) hB v).setCell (p := ⟨g, 8, none⟩) hB z
theorem tkC_app (l m : List (Kn.Task × Option Addr × Nat)) : tkC (l ++ m) = tkC l ++ tkC m := by
  unfold tkC
  rw [List.flatMap_append]
theorem TL.pushes (h : TL w1 W V V2 V3 mu rs) (hx : ∀ y ∈ ms, OpsLie W y) (hown : w5.ownsRow (w1.heap.size + 1) 29 2 V' (rs.length + ms.length) (tkC rs ++ tkC ms)) (hgrow : W.grownBy w5 V.ownBlock) :
    TL w1 (w5.setCell ⟨w1.heap.size, 0, none⟩ V') V' V2 V3 mu (rs ++ ms) := by
  have hne : V.ownBlock ≠ some w1.heap.size := own_block h.row h.blk (by decide)
  have hb5 := hown.lt
  have ho : ∀ y, OpsLie W y → OpsLie (w5.setCell ⟨w1.heap.size, 0, none⟩ V') y := fun y hy => ⟨hy.1, hy.2.imp id fun ⟨g, cur, e, hw, ht⟩ =>
    ⟨g, cur, e, (hw.grown hgrow (own_block h.row hw (by decide))).far (hw.kind h.blk (by decide)) V', ht⟩⟩
  refine ⟨(h.blk.grown hgrow hne).put 0 V', ?_, fun y hy => ?_, ?_⟩
  · rw [tkC_app, List.length_append]
    exact row_same hown fun k hk => Below.heap_setCell _ _ _ _ (fun q => by have := (hb5 k hk).1; have q : k = w1.heap.size := q; omega)
  · rcases List.mem_append.1 hy with hy | hy
    · exact ho y (h.ops y hy)
    · exact ho y (hx y hy)
  · exact (h.bel.grown hgrow h.bel.size (fun k hk => by have := (h.row.lt k hk).1; omega)).setCell (p := ⟨w1.heap.size, 0, none⟩) (Nat.le_refl _) V'
end
section
variable {ops : Array Oper} {o : Oper} {a : Act} {w : World} {K : Act → World → Prop} {Q : Exit → Act → World → Prop} {E : Prop}
set_option maxRecDepth 100000
theorem run_task2 (p q : Int) (A B : Option Addr) (n c m d : Nat) (w : World) : (Instr.buildSlice 23 2 #[(0, .agg #[.int .i64 p, .slice A n c]), (1, .agg #[.int .i64 q, .slice B m d])]).run Try.prog w = .ok (.slice (some ⟨w.heap.size, 0, none⟩) 2 2) (w.alloc (.cells #[.int .i64 p, .slice A n c, .int .i64 q, .slice B m d] 29)) := by
  go_simp
theorem step_task2 (hgd : o.guard = none) (x0 x1 : Operand) (ho : o.op = .buildSlice 23 2 #[(0, x0), (1, x1)]) (p q : Int) (A B : Option Addr) (n c m d : Nat) (h0 : a.eval x0 = .agg #[.int .i64 p, .slice A n c]) (h1 : a.eval x1 = .agg #[.int .i64 q, .slice B m d])
    (h : K (a.put o.dst (.slice (some ⟨w.heap.size, 0, none⟩) 2 2)) (w.alloc (.cells #[.int .i64 p, .slice A n c, .int .i64 q, .slice B m d] 29))) : if Region.wanted o (yielded ops a.tmps) = true then Oper.wp Try.prog o a w K Q else E := by
  have hw : Region.wanted o (yielded ops a.tmps) = true := by simp [Region.wanted, hgd]
  rw [if_pos hw]
  have hr : (execOp a.eval o).run Try.prog w = .ok (.value (.slice (some ⟨w.heap.size, 0, none⟩) 2 2)) (w.alloc (.cells #[.int .i64 p, .slice A n c, .int .i64 q, .slice B m d] 29)) := by
    unfold execOp
    simp [ho, h0, h1, run_task2]
  unfold Oper.wp
  rw [hr]
  exact h
theorem run_store32 {g i : Nat} {x y z : Value} {k u v : Int} (hc : w.cell? ⟨g, i, none⟩ = some x) (hc1 : w.cell? ⟨g, i + 1, none⟩ = some y) (hc2 : w.cell? ⟨g, i + 2, none⟩ = some z) (hf : ∀ i, w.frozen? ⟨g, i, none⟩ = false) :
    (Instr.storeAt 32 (.pointer (some ⟨g, i, none⟩)) (.agg #[.int .i64 k, .int .i64 u, .int .i64 v])).run Try.prog w = .ok () (((w.setCell ⟨g, i, none⟩ (.int .i64 k)).setCell ⟨g, i + 1, none⟩ (.int .i64 u)).setCell ⟨g, i + 2, none⟩ (.int .i64 v)) := by
  have f0 := hf i
  have f1 := hf (i + 1)
  have f2 := hf (i + 2)
  go_simp
theorem step_store32 (hgd : o.guard = none) (x y : Operand) (ho : o.op = .store 32 x y) {g i : Nat} {z0 z1 z2 : Value} {k u v : Int} (hx : a.eval x = .pointer (some ⟨g, i, none⟩)) (hy : a.eval y = .agg #[.int .i64 k, .int .i64 u, .int .i64 v]) (hc : w.cell? ⟨g, i, none⟩ = some z0) (hc1 : w.cell? ⟨g, i + 1, none⟩ = some z1) (hc2 : w.cell? ⟨g, i + 2, none⟩ = some z2) (hf : ∀ i, w.frozen? ⟨g, i, none⟩ = false)
    (h : K (a.put o.dst undef) (((w.setCell ⟨g, i, none⟩ (.int .i64 k)).setCell ⟨g, i + 1, none⟩ (.int .i64 u)).setCell ⟨g, i + 2, none⟩ (.int .i64 v))) : if Region.wanted o (yielded ops a.tmps) = true then Oper.wp Try.prog o a w K Q else E :=
  step_store hgd 32 x y ho hy (by rw [hx]; exact run_store32 hc hc1 hc2 hf) h
end
end Go.Proofs.Ytncbgnpoffolcaa
