/-
  The shape of a form: the walk.
-/
import Derived.Test.YtmfldcacjpligaaDoorW1
import Derived.OneCell
import Derived.Deep.RegionHeld
import Derived.ChangeMaps5
namespace Go.Proofs.YtmfldcacjpligaaDoor
open Go.RowKit
/-- A block is known whole. -/
def Whole (w : World) (g : Nat) (t : TypeId) (cs : Array Value) : Prop := w.heap[g]? = some (.cells cs t (0, 0))
section
variable {w w' : World} {g : Nat} {t : TypeId} {cs : Array Value}
theorem Whole.lt (h : Whole w g t cs) : g < w.heap.size := (Array.getElem?_eq_some_iff.1 h).1
theorem Whole.cell (h : Whole w g t cs) (i : Nat) : w.cell? ⟨g, i, none⟩ = cs[i]? := cell_of_row w g i cs t (0, 0) h
theorem Whole.frozen (h : Whole w g t cs) (i : Nat) : w.frozen? ⟨g, i, none⟩ = false := by
  unfold Whole at h
  simp [World.frozen?, h]
theorem Whole.made (w : World) (t : TypeId) (cs : Array Value) : Whole (w.alloc (.cells cs t)) w.heap.size t cs := heap_alloc_new w _
theorem Whole.alloc (h : Whole w g t cs) (o : Obj) : Whole (w.alloc o) g t cs := (Below.heap_alloc w o g h.lt).trans h
theorem Whole.put (h : Whole w g t cs) (i : Nat) (u : Value) : Whole (w.setCell ⟨g, i, none⟩ u) g t (cs.setIfInBounds i u) := by
  unfold Whole at h ⊢
  simp [World.setCell, Array.getElem?_modify, h]
theorem Whole.same (h : Whole w g t cs) (e : w'.heap[g]? = w.heap[g]?) : Whole w' g t cs := e.trans h
end
/-- The forms in the order of the given table. -/
def rows : List (Int × Is.Shape) :=
  [(82, ⟨3, 0, 0, 0⟩), (73, ⟨2, 16, -32768, 32767⟩), (85, ⟨2, 16, 0, 65535⟩), (72, ⟨2, 16, 0, 31⟩), (76, ⟨1, 16, 0, 65535⟩), (74, ⟨1, 20, -524288, 524287⟩), (67, ⟨1, 16, 0, 10⟩), (78, ⟨0, 0, 0, 0⟩)]
def rowC (r : Int × Is.Shape) : List Value := [.int .u8 r.1, .int .i64 r.2.regs, .int .i64 r.2.bits, .int .i64 r.2.low, .int .i64 r.2.high]
def rowCells : Array Value := (rows.flatMap rowC).toArray
def shapeV (s : Is.Shape) : Value := .agg #[.int .i64 s.regs, .int .i64 s.bits, .int .i64 s.low, .int .i64 s.high]
def zero62 : Array Value := #[.int .u8 0, .int .i64 0, .int .i64 0, .int .i64 0, .int .i64 0, .int .u8 0, .int .i64 0, .int .i64 0, .int .i64 0, .int .i64 0, .int .u8 0, .int .i64 0, .int .i64 0, .int .i64 0, .int .i64 0, .int .u8 0, .int .i64 0, .int .i64 0, .int .i64 0, .int .i64 0, .int .u8 0, .int .i64 0, .int .i64 0, .int .i64 0, .int .i64 0, .int .u8 0, .int .i64 0, .int .i64 0, .int .i64 0, .int .i64 0, .int .u8 0, .int .i64 0, .int .i64 0, .int .i64 0, .int .i64 0, .int .u8 0, .int .i64 0, .int .i64 0, .int .i64 0, .int .i64 0]
noncomputable def rowW (w : World) : World := ((w.alloc (.cells #[.int .i64 0, .int .i64 0, .int .i64 0, .int .i64 0] 50)).alloc (.cells zero62 62)).setRow (w.heap.size + 1) rowCells
theorem rowW_facts (w : World) : Whole (rowW w) w.heap.size 50 #[.int .i64 0, .int .i64 0, .int .i64 0, .int .i64 0] ∧ Whole (rowW w) (w.heap.size + 1) 62 rowCells ∧ Below w.heap.size w (rowW w) := by
  refine ⟨?_, ?_, ?_⟩
  · show (World.setRow _ _ _).heap[_]? = _
    rw [setRow_other _ _ _ _ (by omega)]
    exact heap_alloc2_old _ _ _
  · exact setRow_heap _ _ _ _ _ _ (heap_alloc2_new _ _ _)
  · refine (((Below.refl _ _).alloc (Nat.le_refl _) _).alloc (by simp) _).trans ⟨rfl, rfl, rfl, by show _ ≤ (World.setRow _ _ _).heap.size; rw [setRow_size]; exact Nat.le_refl _, fun k hk => setRow_other _ _ _ _ (by omega)⟩
theorem form_pos (op : Int) (h : Is.form op ≠ 0) : ∃ (p : Nat) (s : Is.Shape), p < 8 ∧ rows[p]? = some (formC op, s) ∧ Is.shapeOf (Is.form op) = s ∧ ∀ q ∈ rows.take p, q.1 ≠ formC op := by
  unfold formC
  rw [if_neg h]
  rcases Is.form_cases op with f | f | f | f | f | f | f | f | f
  · exact absurd f h
  all_goals rw [f]
  · exact ⟨0, _, by decide, rfl, rfl, by decide⟩
  · exact ⟨1, _, by decide, rfl, rfl, by decide⟩
  · exact ⟨2, _, by decide, rfl, rfl, by decide⟩
  · exact ⟨3, _, by decide, rfl, rfl, by decide⟩
  · exact ⟨4, _, by decide, rfl, rfl, by decide⟩
  · exact ⟨5, _, by decide, rfl, rfl, by decide⟩
  · exact ⟨6, _, by decide, rfl, rfl, by decide⟩
  · exact ⟨7, _, by decide, rfl, rfl, by decide⟩
theorem run_row (i : Nat) (hi : i < 8) : ∃ r, rows[i]? = some r ∧ ∀ W : World, (Instr.index 62 (.agg rowCells) (.int .i64 i)).run Tryd.prog W = .ok (.agg #[.int .u8 r.1, .int .i64 r.2.regs, .int .i64 r.2.bits, .int .i64 r.2.low, .int .i64 r.2.high]) W := by
  have h : i = 0 ∨ i = 1 ∨ i = 2 ∨ i = 3 ∨ i = 4 ∨ i = 5 ∨ i = 6 ∨ i = 7 := by omega
  rcases h with rfl | rfl | rfl | rfl | rfl | rfl | rfl | rfl <;> exact ⟨_, rfl, fun _ => by kernel_rfl⟩
set_option maxRecDepth 100000 in
set_option maxHeartbeats 4000000 in
theorem shape_any (op : Int) (h : Is.form op ≠ 0) (w : World) : Calls Tryd.prog 26 #[.int .u8 (formC op)] w fun e w' => e = .returned (shapeV (Is.shapeOf (Is.form op))) ∧ Below w.heap.size w w' := by
  obtain ⟨p, s, hp, hs, he, hj⟩ := form_pos op h
  rw [he]
  have HS := Lib.hid hs
  have HJ := Lib.hid hj
  clear h he hs hj
  generalize formC op = f at *
  go_enter Tryd.func26, Tryd.ntmps26
  go_upto_region 2 with (first | (refine wpList_buildTo rfl 62 _ rfl (some 22) rfl rowCells (by as_aux_lemma => kernel_rfl) ?_) | (refine wpList_store_row rfl 62 _ _ rfl (w.heap.size + 1) rowCells rfl rfl 62 zero62 (heap_alloc2_new w _ _) (by as_aux_lemma => kernel_rfl) (by as_aux_lemma => kernel_rfl) (by as_aux_lemma => kernel_rfl) ?_))
  obtain ⟨f1, f2, f3⟩ := rowW_facts w
  change Code.wp _ _ _ _ (rowW w)
  generalize rowW w = W2 at *
  have F2 := Lib.hid f2
  clear f2
  have hz := f3.size
  go_wp2_with (refine wpList_load_row rfl 62 _ rfl (w.heap.size + 1) rfl 62 rowCells (0, 0) _ F2.out Tryd.underlying62 rfl (by as_aux_lemma => kernel_rfl) ?_)
  go_loopg [24] 8 (fun kk iv wr => ∃ i : Nat, i ≤ p ∧ iv = .int .i64 i ∧ Whole wr w.heap.size 50 #[.int .i64 0, .int .i64 0, .int .i64 0, .int .i64 0] ∧ Below w.heap.size w wr ∧ w.heap.size + 1 < wr.heap.size ∧ 8 - i ≤ kk)
  case atStart => exact ⟨0, Nat.zero_le _, rfl, f1, f3, F2.out.lt, by omega⟩
  case round =>
    obtain ⟨i, hi, rfl, hwh, hb, hsz, hkk⟩ := hrel
    obtain ⟨wo, rfl⟩ : ∃ wo : World, wo = wr := ⟨_, rfl⟩
    have hi8 : (i : Int) < 8 := by omega
    obtain ⟨r, hr, hrun⟩ := run_row i (by omega)
    have c0 := hwh.cell 0
    have c1 := hwh.cell 1
    have c2 := hwh.cell 2
    have c3 := hwh.cell 3
    have z0 := hwh.frozen 0
    have z1 := hwh.frozen 1
    have z2 := hwh.frozen 2
    have z3 := hwh.frozen 3
    simp at c0 c1 c2 c3
    have hgo : ¬ w.heap.size = wo.heap.size := by omega
    have hlt2 : w.heap.size < wo.heap.size := by omega
    have n0 := World.new_ne wo ⟨w.heap.size, 0, none⟩ c0
    have n1 := World.new_ne wo ⟨w.heap.size, 1, none⟩ c1
    have n2 := World.new_ne wo ⟨w.heap.size, 2, none⟩ c2
    have n3 := World.new_ne wo ⟨w.heap.size, 3, none⟩ c3
    by_cases hip : i = p
    · subst hip
      have er : r = (f, s) := Option.some.inj (hr.symm.trans HS.out)
      subst er
      dsimp only at hrun
      have e1 : (f == f) = true := by simp
      clear hr
      go_wp2_with fail
      have wh' := ((((hwh.put 0 (.int .i64 s.regs)).put 1 (.int .i64 s.bits)).put 2 (.int .i64 s.low)).put 3 (.int .i64 s.high)).alloc (.cells #[.int .u8 f, .int .i64 s.regs, .int .i64 s.bits, .int .i64 s.low, .int .i64 s.high] 61)
      refine bodyPost_ret (v := shapeV s) (results_cell_row rfl _ _ w.heap.size 50 _ (0, 0) _ rfl wh' Tryd.underlying50 rfl (by kernel_rfl)) rfl ?_
      exact ⟨rfl, ((((hb.setCell (Nat.le_refl _) _).setCell (Nat.le_refl _) _).setCell (Nat.le_refl _) _).setCell (Nat.le_refl _) _).alloc (by simp; omega) _⟩
    · have hlt : i < p := by omega
      have hne : r.1 ≠ f := HJ.out r (List.mem_of_getElem? (by rw [List.getElem?_take_of_lt hlt]; exact hr))
      have e1 : (r.1 == f) = false := ne_eq hne
      clear hr hne
      go_wp2_with fail
      go_roundg (8 - (i + 1))
      case measure => omega
      case rel => exact ⟨i + 1, by omega, by go_num, hwh.same (Below.heap_alloc _ _ _ hwh.lt), hb.alloc (by omega) _, by simp; omega, Nat.le_refl _⟩
end Go.Proofs.YtmfldcacjpligaaDoor
