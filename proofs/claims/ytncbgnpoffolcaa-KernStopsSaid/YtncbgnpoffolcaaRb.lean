/-
  A table that may not be, or bounds that may not be: the walk of Run.
-/
import Derived.Test.YtncbgnpoffolcaaM17
namespace Go.Proofs.Ytncbgnpoffolcaa
open Go.RowKit
/-- What Run answers else: the error. -/
def RunErr (w : World) (x : Int) (e : Ending) (w' : World) : Prop :=
  e = .returned (.tuple #[.agg #[.slice none 0 0, .slice none 0 0, .slice none 0 0, .int .i64 0, .int .i64 0], .int .i64 x]) ∧ Below w.heap.size w w'
set_option maxRecDepth 100000 in
set_option maxHeartbeats 4000000 in
theorem run_err {w : World} {A1 A2 A3 : Option Addr} {c1 c2 c3 : Nat} {t : Kn.Table} {ticks ops : Int} (hr : TabRd w w.heap.size A1 A2 A3 t) {x : Int} (hbad : (t.fits = false ∧ x = 20) ∨ (t.fits = true ∧ x = 1 ∧ (ticks < 0 ∨ 100000 < ticks ∨ ops < 0 ∨ 100000 < ops))) :
    Calls Try.prog 22 #[tabV A1 A2 A3 c1 c2 c3 t, .int .i64 ticks, .int .i64 ops] w (RunErr w x) := by
  unfold tabV
  have hb1 := ((Below.refl w.heap.size w).alloc (Nat.le_refl _) (.cells #[.slice A1 t.tasks.length c1, .slice A2 t.sems.length c2, .int .i64 t.mutexes, .slice A3 t.queues.length c3] 26)).alloc (by simp) (.cells #[.slice none 0 0, .slice none 0 0, .slice none 0 0, .int .i64 0, .int .i64 0] 36)
  obtain ⟨W1, hW1⟩ : ∃ W, W = (w.alloc (.cells #[.slice A1 t.tasks.length c1, .slice A2 t.sems.length c2, .int .i64 t.mutexes, .slice A3 t.queues.length c3] 26)).alloc (.cells #[.slice none 0 0, .slice none 0 0, .slice none 0 0, .int .i64 0, .int .i64 0] 36) := ⟨_, rfl⟩
  rw [← hW1] at hb1
  have wr1 : Whole W1 (w.heap.size + 1) 36 #[.slice none 0 0, .slice none 0 0, .slice none 0 0, .int .i64 0, .int .i64 0] := by
    rw [hW1]; have := Whole.made (w.alloc (.cells #[.slice A1 t.tasks.length c1, .slice A2 t.sems.length c2, .int .i64 t.mutexes, .slice A3 t.queues.length c3] 26)) 36 #[.slice none 0 0, .slice none 0 0, .slice none 0 0, .int .i64 0, .int .i64 0]; simpa using this
  have hz1 : W1.heap.size = w.heap.size + 2 := by rw [hW1]; simp
  have HR1 := Lib.hid ((hr.keep fun p hp => hb1.cell hp).more (show w.heap.size ≤ W1.heap.size by omega))
  have HW := Lib.hid hW1
  have HB1 := Lib.hid hb1
  have HWR := Lib.hid wr1
  have HBAD := Lib.hid hbad
  clear hr hb1 wr1 hbad
  go_enter Try.func22, Try.ntmps22
  go_wp2_with fail
  rw [← HW.out]
  clear hW1
  refine (check_any HR1.out).mono ?_
  rintro e w2 ⟨rfl, hb2⟩
  have hz2 := hb2.size
  have HWR2 := Lib.hid (HWR.out.same (hb2.block _ (show w.heap.size + 1 < W1.heap.size by omega)))
  have HB2 := Lib.hid (HB1.out.trans (hb2.mono (show w.heap.size ≤ W1.heap.size by omega)))
  clear HR1 HWR hb2 HB1
  have d0 := HWR2.out.cell 0
  have d1 := HWR2.out.cell 1
  have d2 := HWR2.out.cell 2
  have d3 := HWR2.out.cell 3
  have d4 := HWR2.out.cell 4
  have f0 := HWR2.out.frozen 0
  have f1 := HWR2.out.frozen 1
  have f2 := HWR2.out.frozen 2
  have f3 := HWR2.out.frozen 3
  have f4 := HWR2.out.frozen 4
  simp only [List.getElem?_toArray, List.getElem?_cons_zero, List.getElem?_cons_succ] at d0 d1 d2 d3 d4
  have hend : ∀ (x : Int), Whole (((((w2.setCell ⟨w.heap.size + 1, 0, none⟩ (.slice none 0 0)).setCell ⟨w.heap.size + 1, 1, none⟩ (.slice none 0 0)).setCell ⟨w.heap.size + 1, 2, none⟩ (.slice none 0 0)).setCell ⟨w.heap.size + 1, 3, none⟩ (.int .i64 0)).setCell ⟨w.heap.size + 1, 4, none⟩ (.int .i64 0)) (w.heap.size + 1) 36 #[.slice none 0 0, .slice none 0 0, .slice none 0 0, .int .i64 0, .int .i64 0] ∧
      Below w.heap.size w (((((w2.setCell ⟨w.heap.size + 1, 0, none⟩ (.slice none 0 0)).setCell ⟨w.heap.size + 1, 1, none⟩ (.slice none 0 0)).setCell ⟨w.heap.size + 1, 2, none⟩ (.slice none 0 0)).setCell ⟨w.heap.size + 1, 3, none⟩ (.int .i64 0)).setCell ⟨w.heap.size + 1, 4, none⟩ (.int .i64 0)) := fun x =>
    ⟨((((HWR2.out.put 0 (.slice none 0 0)).put 1 (.slice none 0 0)).put 2 (.slice none 0 0)).put 3 (.int .i64 0)).put 4 (.int .i64 0),
      ((((HB2.out.setCell (by show w.heap.size ≤ w.heap.size + 1; omega) _).setCell (by show w.heap.size ≤ w.heap.size + 1; omega) _).setCell (by show w.heap.size ≤ w.heap.size + 1; omega) _).setCell (by show w.heap.size ≤ w.heap.size + 1; omega) _).setCell (by show w.heap.size ≤ w.heap.size + 1; omega) _⟩
  have HEND := Lib.hid hend
  clear hend
  rcases HBAD.out with ⟨hf, hx⟩ | ⟨hf, hx, hbad⟩
  · subst hx
    rw [show chk t = 20 from if_neg (by rw [hf]; decide)]
    clear hf
    go_wp2_with fail
    exact bodyPost_ret (results_pair rfl _ _ (w.heap.size + 1) 36 _ (0, 0) _ rfl (HEND.out 0).1 Try.underlying36 (by kernel_rfl) rfl) rfl ⟨rfl, (HEND.out 0).2⟩
  · subst hx
    rw [show chk t = 0 from if_pos hf]
    clear hf
    have G1 : ∃ b, decide (ticks < 0) = b := ⟨_, rfl⟩
    have G2 : ∃ b, decide ((100000 : Int) < ticks) = b := ⟨_, rfl⟩
    have G3 : ∃ b, decide (ops < 0) = b := ⟨_, rfl⟩
    have G4 : ∃ b, decide ((100000 : Int) < ops) = b := ⟨_, rfl⟩
    obtain ⟨b1, e1⟩ := G1
    obtain ⟨b2, e2⟩ := G2
    obtain ⟨b3, e3⟩ := G3
    obtain ⟨b4, e4⟩ := G4
    have hor : (b1 = true ∨ b2 = true ∨ b3 = true ∨ b4 = true) := by
      rw [← e1, ← e2, ← e3, ← e4]
      simpa using hbad
    clear hbad
    cases b1 <;> cases b2 <;> cases b3 <;> cases b4 <;> first
      | (exfalso; revert hor; decide)
      | (clear hor
         go_wp2_with fail
         exact bodyPost_ret (results_pair rfl _ _ (w.heap.size + 1) 36 _ (0, 0) _ rfl (HEND.out 0).1 Try.underlying36 (by kernel_rfl) rfl) rfl ⟨rfl, (HEND.out 0).2⟩)
end Go.Proofs.Ytncbgnpoffolcaa
