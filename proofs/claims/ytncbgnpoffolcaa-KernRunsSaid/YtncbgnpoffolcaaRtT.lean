/-
  The document's kernel: the walk of RunTable.
-/
import Derived.Test.YtncbgnpoffolcaaRtP
import Derived.Test.YtncbgnpoffolcaaRtC
import Derived.Test.YtncbgnpoffolcaaM18
import Derived.Test.YtncbgnpoffolcaaStpP
namespace Go.Proofs.Ytncbgnpoffolcaa
open Go.RowKit
/-- What RunTable answers. -/
def RAns (w : World) (r : Rk.K) (e : Ending) (w' : World) : Prop :=
 ∃ P1 p1 P2 p2 P3 p3, e = .returned (.tuple #[.agg #[.slice P1 r.out.length p1, .slice P2 r.tasks.length p2, .slice P3 r.tasks.length p3, .int .i64 r.ticks, .int .i64 r.ops], .int .i64 0]) ∧ w'.ownsRow w.heap.size 5 1 (.slice P1 r.out.length p1) r.out.length (Rk.byteV r.out) ∧
   w'.ownsRow w.heap.size 3 1 (.slice P2 r.tasks.length p2) (r.tasks.map (·.state)).length (intV (r.tasks.map (·.state))) ∧ w'.ownsRow w.heap.size 3 1 (.slice P3 r.tasks.length p3) (r.tasks.map (·.last)).length (intV (r.tasks.map (·.last))) ∧ Below w.heap.size w w'
set_option maxRecDepth 100000 in
set_option maxHeartbeats 4000000 in
theorem rrun_err {w : World} {A1 A2 A3 : Option Addr} {c1 c2 c3 : Nat} {t : Kn.Table} {ticks ops : Int} (hr : TabRd w w.heap.size A1 A2 A3 t) {x : Int} (hbad : (t.fits = false ∧ x = 20) ∨ (t.fits = true ∧ x = 1 ∧ (ticks < 0 ∨ 100000 < ticks ∨ ops < 0 ∨ 100000 < ops))) :
 Calls Try.prog 26 #[tabV A1 A2 A3 c1 c2 c3 t, .int .i64 ticks, .int .i64 ops] w (RunErr w x) := by
 unfold tabV
 have hb1 := ((zr w.heap.size w).alloc (zl _) (.cells #[.slice A1 t.tasks.length c1, .slice A2 t.sems.length c2, .int .i64 t.mutexes, .slice A3 t.queues.length c3] 26)).alloc (by simp) (.cells #[.slice none 0 0, .slice none 0 0, .slice none 0 0, .int .i64 0, .int .i64 0] 36)
 obtain ⟨W1, hW1⟩ : ∃ W, W = (w.alloc (.cells #[.slice A1 t.tasks.length c1, .slice A2 t.sems.length c2, .int .i64 t.mutexes, .slice A3 t.queues.length c3] 26)).alloc (.cells #[.slice none 0 0, .slice none 0 0, .slice none 0 0, .int .i64 0, .int .i64 0] 36) := ⟨_, rfl⟩
 rw [← hW1] at hb1
 have wr1 : Whole W1 (w.heap.size + 1) 36 #[.slice none 0 0, .slice none 0 0, .slice none 0 0, .int .i64 0, .int .i64 0] := by
  rw [hW1]; have := zm (w.alloc (.cells #[.slice A1 t.tasks.length c1, .slice A2 t.sems.length c2, .int .i64 t.mutexes, .slice A3 t.queues.length c3] 26)) 36 #[.slice none 0 0, .slice none 0 0, .slice none 0 0, .int .i64 0, .int .i64 0]; simpa using this
 have hz1 : W1.heap.size = w.heap.size + 2 := by rw [hW1]; simp
 have HR1 := zh ((hr.keep fun p hp => hb1.cell hp).more (show w.heap.size ≤ W1.heap.size by omega))
 have HW := zh hW1
 have HB1 := zh hb1
 have HWR := zh wr1
 have HBAD := zh hbad
 clear hr hb1 wr1 hbad
 go_enter Try.func26, Try.ntmps26
 go_wp2_with fail
 rw [← HW.out]
 clear hW1
 refine (rcheck_any HR1.out).mono ?_
 rintro e w2 ⟨rfl, hb2⟩
 have hz2 := hb2.size
 have HWR2 := zh (HWR.out.same (hb2.block _ (show w.heap.size + 1 < W1.heap.size by omega)))
 have HB2 := zh (HB1.out.trans (hb2.mono (show w.heap.size ≤ W1.heap.size by omega)))
 clear HR1 HWR hb2 HB1
 have d0 := HWR2.out.cell 0
 have d1 := HWR2.out.cell 1
 have d2 := HWR2.out.cell 2
 have d3 := HWR2.out.cell 3
 have d4 := HWR2.out.cell 4
 have f0 := HWR2.out.frozen 0
 have f1 := HWR2.out.frozen 1
 have f2 := HWR2.out.frozen 2
 have f3 := HWR2.out.frozen 3
 have f4 := HWR2.out.frozen 4
 simp only [za, zb, zc] at d0 d1 d2 d3 d4
 have hend : ∀ (x : Int), Whole (((((w2.setCell ⟨w.heap.size + 1, 0, none⟩ (.slice none 0 0)).setCell ⟨w.heap.size + 1, 1, none⟩ (.slice none 0 0)).setCell ⟨w.heap.size + 1, 2, none⟩ (.slice none 0 0)).setCell ⟨w.heap.size + 1, 3, none⟩ (.int .i64 0)).setCell ⟨w.heap.size + 1, 4, none⟩ (.int .i64 0)) (w.heap.size + 1) 36 #[.slice none 0 0, .slice none 0 0, .slice none 0 0, .int .i64 0, .int .i64 0] ∧
  Below w.heap.size w (((((w2.setCell ⟨w.heap.size + 1, 0, none⟩ (.slice none 0 0)).setCell ⟨w.heap.size + 1, 1, none⟩ (.slice none 0 0)).setCell ⟨w.heap.size + 1, 2, none⟩ (.slice none 0 0)).setCell ⟨w.heap.size + 1, 3, none⟩ (.int .i64 0)).setCell ⟨w.heap.size + 1, 4, none⟩ (.int .i64 0)) := fun x =>
  ⟨((((HWR2.out.put 0 (.slice none 0 0)).put 1 (.slice none 0 0)).put 2 (.slice none 0 0)).put 3 (.int .i64 0)).put 4 (.int .i64 0),
    ((((HB2.out.setCell (by show w.heap.size ≤ w.heap.size + 1; omega) _).setCell (by show w.heap.size ≤ w.heap.size + 1; omega) _).setCell (by show w.heap.size ≤ w.heap.size + 1; omega) _).setCell (by show w.heap.size ≤ w.heap.size + 1; omega) _).setCell (by show w.heap.size ≤ w.heap.size + 1; omega) _⟩
 have HEND := zh hend
 clear hend
 rcases HBAD.out with ⟨hf, hx⟩ | ⟨hf, hx, hbad⟩
 ·subst hx
  rw [show chk t = 20 from if_neg (by rw [hf]; decide)]
  clear hf
  go_wp2_with fail
  exact bodyPost_ret (results_pair rfl _ _ (w.heap.size + 1) 36 _ (0, 0) _ rfl (HEND.out 0).1 Try.underlying36 (by kernel_rfl) rfl) rfl ⟨rfl, (HEND.out 0).2⟩
 ·subst hx
  rw [show chk t = 0 from if_pos hf]
  clear hf
  have G1 : ∃ b, decide (ticks < 0) = b := ⟨_, rfl⟩
  have G2 : ∃ b, decide ((100000 : Int) < ticks) = b := ⟨_, rfl⟩
  have G3 : ∃ b, decide (ops < 0) = b := ⟨_, rfl⟩
  have G4 : ∃ b, decide ((100000 : Int) < ops) = b := ⟨_, rfl⟩
  obtain ⟨b1, e1⟩ := G1
  obtain ⟨b2, e2⟩ := G2
  obtain ⟨b3, e3⟩ := G3
  obtain ⟨b4, e4⟩ := G4
  have hor : (b1 = true ∨ b2 = true ∨ b3 = true ∨ b4 = true) := by
   rw [← e1, ← e2, ← e3, ← e4]
   simpa using hbad
  clear hbad
  cases b1 <;> cases b2 <;> cases b3 <;> cases b4 <;> first
   | (exfalso; revert hor; decide)
   | (clear hor
      go_wp2_with fail
      exact bodyPost_ret (results_pair rfl _ _ (w.heap.size + 1) 36 _ (0, 0) _ rfl (HEND.out 0).1 Try.underlying36 (by kernel_rfl) rfl) rfl ⟨rfl, (HEND.out 0).2⟩)
set_option maxRecDepth 100000 in
set_option maxHeartbeats 4000000 in
theorem rrun_good {w : World} {A1 A2 A3 : Option Addr} {c1 c2 c3 : Nat} {t : Kn.Table} {ticks ops : Nat} (hr : TabRd w w.heap.size A1 A2 A3 t) (hf : t.fits = true) (ht : ticks ≤ 100000) (ho : ops ≤ 100000) :
 Calls Try.prog 26 #[tabV A1 A2 A3 c1 c2 c3 t, .int .i64 ticks, .int .i64 ops] w (RAns w (Rk.runT t ticks ops)) := by
 unfold tabV
 have hb1 := ((zr w.heap.size w).alloc (zl _) (.cells #[.slice A1 t.tasks.length c1, .slice A2 t.sems.length c2, .int .i64 t.mutexes, .slice A3 t.queues.length c3] 26)).alloc (by simp) (.cells #[.slice none 0 0, .slice none 0 0, .slice none 0 0, .int .i64 0, .int .i64 0] 36)
 obtain ⟨W1, hW1⟩ : ∃ W, W = (w.alloc (.cells #[.slice A1 t.tasks.length c1, .slice A2 t.sems.length c2, .int .i64 t.mutexes, .slice A3 t.queues.length c3] 26)).alloc (.cells #[.slice none 0 0, .slice none 0 0, .slice none 0 0, .int .i64 0, .int .i64 0] 36) := ⟨_, rfl⟩
 rw [← hW1] at hb1
 have wt1 : Whole W1 w.heap.size 26 #[.slice A1 t.tasks.length c1, .slice A2 t.sems.length c2, .int .i64 t.mutexes, .slice A3 t.queues.length c3] := by
  rw [hW1]; exact (zm w 26 _).alloc _
 have wr1 : Whole W1 (w.heap.size + 1) 36 #[.slice none 0 0, .slice none 0 0, .slice none 0 0, .int .i64 0, .int .i64 0] := by
  rw [hW1]; have := zm (w.alloc (.cells #[.slice A1 t.tasks.length c1, .slice A2 t.sems.length c2, .int .i64 t.mutexes, .slice A3 t.queues.length c3] 26)) 36 #[.slice none 0 0, .slice none 0 0, .slice none 0 0, .int .i64 0, .int .i64 0]; simpa using this
 have hz1 : W1.heap.size = w.heap.size + 2 := by rw [hW1]; simp
 have HR1 := zh ((hr.keep fun p hp => hb1.cell hp).more (show w.heap.size ≤ W1.heap.size by omega))
 have HF := zh hf
 have HW := zh hW1
 have HB1 := zh hb1
 have HWT := zh wt1
 have HWR := zh wr1
 clear hr hf hb1 wt1 wr1
 go_enter Try.func26, Try.ntmps26
 go_wp2_with fail
 rw [← HW.out]
 clear hW1
 refine (rcheck_any HR1.out).mono ?_
 rintro e w2 ⟨rfl, hb2⟩
 rw [show chk t = 0 from if_pos HF.out]
 have hz2 := hb2.size
 have HR2 := zh ((HR1.out.keep fun p hp => hb2.cell hp).more (show W1.heap.size ≤ w2.heap.size by omega))
 have HWT2 := zh (HWT.out.same (hb2.block _ (show w.heap.size < W1.heap.size by omega)))
 have HWR2 := zh (HWR.out.same (hb2.block _ (show w.heap.size + 1 < W1.heap.size by omega)))
 have HB2 := zh (HB1.out.trans (hb2.mono (show w.heap.size ≤ W1.heap.size by omega)))
 clear HR1 HWT HWR hb2 HB1
 have b0 := HWT2.out.cell 0
 have b1 := HWT2.out.cell 1
 have b2 := HWT2.out.cell 2
 have b3 := HWT2.out.cell 3
 simp only [za, zb, zc] at b0 b1 b2 b3
 have gt1 : decide ((ticks : Int) < 0) = false := by simp
 have gt2 : decide ((100000 : Int) < ticks) = false := by simp; omega
 have gt3 : decide ((ops : Int) < 0) = false := by simp
 have gt4 : decide ((100000 : Int) < ops) = false := by simp; omega
 go_wp2_with fail
 refine (Rk.new_any HR2.out HF.out).mono ?_
 rintro e w3 ⟨rfl, hb3, L, hK3, hLk⟩
 have hz3 := hb3.size
 have HWR3 := zh (HWR2.out.same (hb3.block _ (show w.heap.size + 1 < w2.heap.size by omega)))
 have HB3 := zh (HB2.out.trans (hb3.mono (show w.heap.size ≤ w2.heap.size by omega)))
 have HK3 := zh hK3
 have HLK := zh hLk
 clear HWT2 HWR2 HB2 HR2 b0 b1 b2 b3 hb3 hK3 hLk
 go_wp2_with fail
 have hrun := Rk.run_any (ticks := ticks) (ops := ops) HK3.out (Rk.begin_up HF.out ticks ops) ht ho
 rw [HLK.out] at hrun
 refine hrun.mono ?_
 clear hrun
 rintro e w4 ⟨rfl, L', hK4, hP4⟩
 rw [show Rk.K.run ticks ops (ticks + ops + t.tasks.length + 1) (Rk.begin t) = Rk.runT t ticks ops from rfl] at hK4
 have hb4 := hP4.below HK3.out
 have hz4 := hb4.size
 have hz3' := HK3.out.lt
 rw [HLK.out] at hz3'
 have hfacts : (Rk.runT t ticks ops).tasks.length ≤ 32 ∧ (Rk.runT t ticks ops).out.length ≤ 1000000 := by
  obtain ⟨τ, hrel⟩ := Rk.runT_rel HF.out ticks ops
  have hk := Kn.runT_ok HF.out ticks ops
  have hb := (Kn.stops_run HF.out (zl ticks) (zl ops)).1
  refine ⟨by rw [hrel.len, hk.2]; exact (Kn.Table.fits_parts HF.out).1.2.1, ?_⟩
  rw [hrel.out]
  have := hk.1.good.out
  omega
 obtain ⟨r, hrr⟩ : ∃ r, r = Rk.runT t ticks ops := ⟨_, rfl⟩
 rw [← hrr] at hK4 hfacts
 have HRR := zh hrr
 have HLb : Hid (L'.b = w2.heap.size + 1) := hP4.b.trans HLK.out
 have HWR4 := zh (HWR3.out.same (hb4.block _ (show w.heap.size + 1 < w2.heap.size + 1 by omega)))
 have HB4 := zh (HB3.out.trans (hb4.mono (show w.heap.size ≤ w2.heap.size + 1 by omega)))
 have HK4 := zh hK4
 clear hrr HWR3 HB3 HK3 HLK hK4 hP4 hb4 hz3'
 have hres := Rk.result_any HK4.out (by omega) hfacts.2
 rw [HLb.out] at hres
 have HF2 := zh hfacts
 clear hfacts
 go_wp2_with fail
 refine hres.mono ?_
 clear hres
 rintro e w5 ⟨P1, p1, P2, p2, P3, p3, rfl, ho1, ho2, ho3, hb5⟩
 have hz5 := hb5.size
 have hwr5 := HWR4.out.same (hb5.block _ (show w.heap.size + 1 < w4.heap.size by have := HWR4.out.lt; omega))
 have HO1 := zh ho1
 have HO2 := zh ho2
 have HO3 := zh ho3
 have HWR5 := zh hwr5
 have HB5 := zh (HB4.out.trans (hb5.mono (show w.heap.size ≤ w4.heap.size by omega)))
 have d0 := hwr5.cell 0
 have d1 := hwr5.cell 1
 have d2 := hwr5.cell 2
 have d3 := hwr5.cell 3
 have d4 := hwr5.cell 4
 have f0 := hwr5.frozen 0
 have f1 := hwr5.frozen 1
 have f2 := hwr5.frozen 2
 have f3 := hwr5.frozen 3
 have f4 := hwr5.frozen 4
 simp only [za, zb, zc] at d0 d1 d2 d3 d4
 have hwlt : Hid (w.heap.size + 1 < w4.heap.size) := HWR4.out.lt
 clear HWR4 HB4 hb5 hwr5 ho1 ho2 ho3
 have hfw := ((((HWR5.out.put 0 (.slice P1 r.out.length p1)).put 1 (.slice P2 r.tasks.length p2)).put 2 (.slice P3 r.tasks.length p3)).put 3 (.int .i64 r.ticks)).put 4 (.int .i64 r.ops)
 have HFW := zh hfw
 clear hfw
 go_wp2_with fail
 refine bodyPost_ret (results_pair rfl _ _ (w.heap.size + 1) 36 _ (0, 0) _ rfl HFW.out Try.underlying36 (by kernel_rfl) rfl) rfl ?_
 have far : ∀ {v : Value} {ty n : Nat} {xs : List Value}, w5.ownsRow w4.heap.size ty 1 v n xs → v.ownBlock ≠ some (w.heap.size + 1) := fun h e => by
  have := (h.lt _ e).1
  have := hwlt.out
  omega
 rw [← HRR.out]
 refine ⟨P1, p1, P2, p2, P3, p3, rfl, ?_, ?_, ?_, ?_⟩
 ·have nb := far HO1.out
  exact row_mono (ownsRow_setCell_other (ownsRow_setCell_other (ownsRow_setCell_other (ownsRow_setCell_other (ownsRow_setCell_other HO1.out (a := ⟨w.heap.size + 1, 0, none⟩) nb _) (a := ⟨w.heap.size + 1, 1, none⟩) nb _) (a := ⟨w.heap.size + 1, 2, none⟩) nb _) (a := ⟨w.heap.size + 1, 3, none⟩) nb _) (a := ⟨w.heap.size + 1, 4, none⟩) nb _) (by omega)
 ·have nb := far HO2.out
  exact row_mono (ownsRow_setCell_other (ownsRow_setCell_other (ownsRow_setCell_other (ownsRow_setCell_other (ownsRow_setCell_other HO2.out (a := ⟨w.heap.size + 1, 0, none⟩) nb _) (a := ⟨w.heap.size + 1, 1, none⟩) nb _) (a := ⟨w.heap.size + 1, 2, none⟩) nb _) (a := ⟨w.heap.size + 1, 3, none⟩) nb _) (a := ⟨w.heap.size + 1, 4, none⟩) nb _) (by omega)
 ·have nb := far HO3.out
  exact row_mono (ownsRow_setCell_other (ownsRow_setCell_other (ownsRow_setCell_other (ownsRow_setCell_other (ownsRow_setCell_other HO3.out (a := ⟨w.heap.size + 1, 0, none⟩) nb _) (a := ⟨w.heap.size + 1, 1, none⟩) nb _) (a := ⟨w.heap.size + 1, 2, none⟩) nb _) (a := ⟨w.heap.size + 1, 3, none⟩) nb _) (a := ⟨w.heap.size + 1, 4, none⟩) nb _) (by omega)
 ·exact ((((HB5.out.setCell (p := ⟨w.heap.size + 1, 0, none⟩) (Nat.le_succ _) _).setCell (p := ⟨w.heap.size + 1, 1, none⟩) (Nat.le_succ _) _).setCell (p := ⟨w.heap.size + 1, 2, none⟩) (Nat.le_succ _) _).setCell (p := ⟨w.heap.size + 1, 3, none⟩) (Nat.le_succ _) _).setCell (p := ⟨w.heap.size + 1, 4, none⟩) (Nat.le_succ _) _
end Go.Proofs.Ytncbgnpoffolcaa
