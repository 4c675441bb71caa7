/-
  A table that may not be, or bounds that may not be: the walk of Run. A table is run: the walk of Run.
-/
import Derived.Test.YtncbgnpoffolcaaM17
import Derived.Test.YtncbgnpoffolcaaNt
namespace Go.Proofs.Ytncbgnpoffolcaa
open Go.RowKit
/-- What Run answers else: the error. -/
def RunErr (w : World) (x : Int) (e : Ending) (w' : World) : Prop :=
 e = .returned (.tuple #[.agg #[.slice none 0 0, .slice none 0 0, .slice none 0 0, .int .i64 0, .int .i64 0], .int .i64 x]) ∧ Below w.heap.size w w'
set_option maxRecDepth 100000 in
set_option maxHeartbeats 4000000 in
theorem run_err {w : World} {A1 A2 A3 : Option Addr} {c1 c2 c3 : Nat} {t : Kn.Table} {ticks ops : Int} (hr : TabRd w w.heap.size A1 A2 A3 t) {x : Int} (hbad : (t.fits = false ∧ x = 20) ∨ (t.fits = true ∧ x = 1 ∧ (ticks < 0 ∨ 100000 < ticks ∨ ops < 0 ∨ 100000 < ops))) :
 Calls Try.prog 22 #[tabV A1 A2 A3 c1 c2 c3 t, .int .i64 ticks, .int .i64 ops] w (RunErr w x) := by
 unfold tabV
 have hb1 := ((zr w.heap.size w).alloc (zl _) (.cells #[.slice A1 t.tasks.length c1, .slice A2 t.sems.length c2, .int .i64 t.mutexes, .slice A3 t.queues.length c3] 26)).alloc (by simp) (.cells #[.slice none 0 0, .slice none 0 0, .slice none 0 0, .int .i64 0, .int .i64 0] 36)
 obtain ⟨W1, hW1⟩ : ∃ W, W = (w.alloc (.cells #[.slice A1 t.tasks.length c1, .slice A2 t.sems.length c2, .int .i64 t.mutexes, .slice A3 t.queues.length c3] 26)).alloc (.cells #[.slice none 0 0, .slice none 0 0, .slice none 0 0, .int .i64 0, .int .i64 0] 36) := ⟨_, rfl⟩
 rw [← hW1] at hb1
 have wr1 : Whole W1 (w.heap.size + 1) 36 #[.slice none 0 0, .slice none 0 0, .slice none 0 0, .int .i64 0, .int .i64 0] := by
  rw [hW1]; have := zm (w.alloc (.cells #[.slice A1 t.tasks.length c1, .slice A2 t.sems.length c2, .int .i64 t.mutexes, .slice A3 t.queues.length c3] 26)) 36 #[.slice none 0 0, .slice none 0 0, .slice none 0 0, .int .i64 0, .int .i64 0]; simpa using this
 have hz1 : W1.heap.size = w.heap.size + 2 := by rw [hW1]; simp
 have HR1 := zh ((hr.keep fun p hp => hb1.cell hp).more (show w.heap.size ≤ W1.heap.size by omega))
 have HW := zh hW1
 have HB1 := zh hb1
 have HWR := zh wr1
 have HBAD := zh hbad
 clear hr hb1 wr1 hbad
 go_enter Try.func22, Try.ntmps22
 go_wp2_with fail
 rw [← HW.out]
 clear hW1
 refine (check_any HR1.out).mono ?_
 rintro e w2 ⟨rfl, hb2⟩
 have hz2 := hb2.size
 have HWR2 := zh (HWR.out.same (hb2.block _ (show w.heap.size + 1 < W1.heap.size by omega)))
 have HB2 := zh (HB1.out.trans (hb2.mono (show w.heap.size ≤ W1.heap.size by omega)))
 clear HR1 HWR hb2 HB1
 have d0 := HWR2.out.cell 0
 have d1 := HWR2.out.cell 1
 have d2 := HWR2.out.cell 2
 have d3 := HWR2.out.cell 3
 have d4 := HWR2.out.cell 4
 have f0 := HWR2.out.frozen 0
 have f1 := HWR2.out.frozen 1
 have f2 := HWR2.out.frozen 2
 have f3 := HWR2.out.frozen 3
 have f4 := HWR2.out.frozen 4
 simp only [za, zb, zc] at d0 d1 d2 d3 d4
 have hend : ∀ (x : Int), Whole (((((w2.setCell ⟨w.heap.size + 1, 0, none⟩ (.slice none 0 0)).setCell ⟨w.heap.size + 1, 1, none⟩ (.slice none 0 0)).setCell ⟨w.heap.size + 1, 2, none⟩ (.slice none 0 0)).setCell ⟨w.heap.size + 1, 3, none⟩ (.int .i64 0)).setCell ⟨w.heap.size + 1, 4, none⟩ (.int .i64 0)) (w.heap.size + 1) 36 #[.slice none 0 0, .slice none 0 0, .slice none 0 0, .int .i64 0, .int .i64 0] ∧
  Below w.heap.size w (((((w2.setCell ⟨w.heap.size + 1, 0, none⟩ (.slice none 0 0)).setCell ⟨w.heap.size + 1, 1, none⟩ (.slice none 0 0)).setCell ⟨w.heap.size + 1, 2, none⟩ (.slice none 0 0)).setCell ⟨w.heap.size + 1, 3, none⟩ (.int .i64 0)).setCell ⟨w.heap.size + 1, 4, none⟩ (.int .i64 0)) := fun x =>
  ⟨((((HWR2.out.put 0 (.slice none 0 0)).put 1 (.slice none 0 0)).put 2 (.slice none 0 0)).put 3 (.int .i64 0)).put 4 (.int .i64 0),
    ((((HB2.out.setCell (by show w.heap.size ≤ w.heap.size + 1; omega) _).setCell (by show w.heap.size ≤ w.heap.size + 1; omega) _).setCell (by show w.heap.size ≤ w.heap.size + 1; omega) _).setCell (by show w.heap.size ≤ w.heap.size + 1; omega) _).setCell (by show w.heap.size ≤ w.heap.size + 1; omega) _⟩
 have HEND := zh hend
 clear hend
 rcases HBAD.out with ⟨hf, hx⟩ | ⟨hf, hx, hbad⟩
 ·subst hx
  rw [show chk t = 20 from if_neg (by rw [hf]; decide)]
  clear hf
  go_wp2_with fail
  exact bodyPost_ret (results_pair rfl _ _ (w.heap.size + 1) 36 _ (0, 0) _ rfl (HEND.out 0).1 Try.underlying36 (by kernel_rfl) rfl) rfl ⟨rfl, (HEND.out 0).2⟩
 ·subst hx
  rw [show chk t = 0 from if_pos hf]
  clear hf
  have G1 : ∃ b, decide (ticks < 0) = b := ⟨_, rfl⟩
  have G2 : ∃ b, decide ((100000 : Int) < ticks) = b := ⟨_, rfl⟩
  have G3 : ∃ b, decide (ops < 0) = b := ⟨_, rfl⟩
  have G4 : ∃ b, decide ((100000 : Int) < ops) = b := ⟨_, rfl⟩
  obtain ⟨b1, e1⟩ := G1
  obtain ⟨b2, e2⟩ := G2
  obtain ⟨b3, e3⟩ := G3
  obtain ⟨b4, e4⟩ := G4
  have hor : (b1 = true ∨ b2 = true ∨ b3 = true ∨ b4 = true) := by
   rw [← e1, ← e2, ← e3, ← e4]
   simpa using hbad
  clear hbad
  cases b1 <;> cases b2 <;> cases b3 <;> cases b4 <;> first
   | (exfalso; revert hor; decide)
   | (clear hor
      go_wp2_with fail
      exact bodyPost_ret (results_pair rfl _ _ (w.heap.size + 1) 36 _ (0, 0) _ rfl (HEND.out 0).1 Try.underlying36 (by kernel_rfl) rfl) rfl ⟨rfl, (HEND.out 0).2⟩)
end Go.Proofs.Ytncbgnpoffolcaa
/-! A table is run: the walk of Run. -/
namespace Go.Proofs.Ytncbgnpoffolcaa
open Go.RowKit
set_option maxRecDepth 100000 in
set_option maxHeartbeats 16000000 in
theorem run_good {w : World} {A1 A2 A3 : Option Addr} {c1 c2 c3 : Nat} {t : Kn.Table} {ticks ops : Nat} (hr : TabRd w w.heap.size A1 A2 A3 t) (hf : t.fits = true) (ht : ticks ≤ 100000) (ho : ops ≤ 100000) :
 Calls Try.prog 22 #[tabV A1 A2 A3 c1 c2 c3 t, .int .i64 ticks, .int .i64 ops] w (RunAns w (Kn.runT t ticks ops)) := by
 unfold tabV
 have hb1 := ((zr w.heap.size w).alloc (zl _) (.cells #[.slice A1 t.tasks.length c1, .slice A2 t.sems.length c2, .int .i64 t.mutexes, .slice A3 t.queues.length c3] 26)).alloc (by simp) (.cells #[.slice none 0 0, .slice none 0 0, .slice none 0 0, .int .i64 0, .int .i64 0] 36)
 obtain ⟨W1, hW1⟩ : ∃ W, W = (w.alloc (.cells #[.slice A1 t.tasks.length c1, .slice A2 t.sems.length c2, .int .i64 t.mutexes, .slice A3 t.queues.length c3] 26)).alloc (.cells #[.slice none 0 0, .slice none 0 0, .slice none 0 0, .int .i64 0, .int .i64 0] 36) := ⟨_, rfl⟩
 rw [← hW1] at hb1
 have wt1 : Whole W1 w.heap.size 26 #[.slice A1 t.tasks.length c1, .slice A2 t.sems.length c2, .int .i64 t.mutexes, .slice A3 t.queues.length c3] := by
  rw [hW1]; exact (zm w 26 _).alloc _
 have wr1 : Whole W1 (w.heap.size + 1) 36 #[.slice none 0 0, .slice none 0 0, .slice none 0 0, .int .i64 0, .int .i64 0] := by
  rw [hW1]; have := zm (w.alloc (.cells #[.slice A1 t.tasks.length c1, .slice A2 t.sems.length c2, .int .i64 t.mutexes, .slice A3 t.queues.length c3] 26)) 36 #[.slice none 0 0, .slice none 0 0, .slice none 0 0, .int .i64 0, .int .i64 0]; simpa using this
 have hz1 : W1.heap.size = w.heap.size + 2 := by rw [hW1]; simp
 have HR1 := zh ((hr.keep fun p hp => hb1.cell hp).more (show w.heap.size ≤ W1.heap.size by omega))
 have HF := zh hf
 have HW := zh hW1
 have HB1 := zh hb1
 have HWT := zh wt1
 have HWR := zh wr1
 clear hr hf hb1 wt1 wr1
 go_enter Try.func22, Try.ntmps22
 go_wp2_with fail
 rw [← HW.out]
 clear hW1
 refine (check_any HR1.out).mono ?_
 rintro e w2 ⟨rfl, hb2⟩
 rw [show chk t = 0 from if_pos HF.out]
 have hz2 := hb2.size
 have HR2 := zh ((HR1.out.keep fun p hp => hb2.cell hp).more (show W1.heap.size ≤ w2.heap.size by omega))
 have HWT2 := zh (HWT.out.same (hb2.block _ (show w.heap.size < W1.heap.size by omega)))
 have HWR2 := zh (HWR.out.same (hb2.block _ (show w.heap.size + 1 < W1.heap.size by omega)))
 have HB2 := zh (HB1.out.trans (hb2.mono (show w.heap.size ≤ W1.heap.size by omega)))
 clear HR1 HWT HWR hb2 HB1
 have b0 := HWT2.out.cell 0
 have b1 := HWT2.out.cell 1
 have b2 := HWT2.out.cell 2
 have b3 := HWT2.out.cell 3
 simp only [za, zb, zc] at b0 b1 b2 b3
 have gt1 : decide ((ticks : Int) < 0) = false := by simp
 have gt2 : decide ((100000 : Int) < ticks) = false := by simp; omega
 have gt3 : decide ((ops : Int) < 0) = false := by simp
 have gt4 : decide ((100000 : Int) < ops) = false := by simp; omega
 go_wp2_with fail
 refine (begin_any HR2.out HF.out).mono ?_
 rintro e w3 ⟨rfl, hb3, L, hK3, hLk⟩
 have hz3 := hb3.size
 have HWT3 := zh (HWT2.out.same (hb3.block _ (show w.heap.size < w2.heap.size by omega)))
 have HWR3 := zh (HWR2.out.same (hb3.block _ (show w.heap.size + 1 < w2.heap.size by omega)))
 have HB3 := zh (HB2.out.trans (hb3.mono (show w.heap.size ≤ w2.heap.size by omega)))
 have hlt3 := hK3.lt (c := .ker) trivial
 rw [hLk] at hlt3
 have HK3 := zh hK3
 have HLK := zh hLk
 clear HWT2 HWR2 HB2 HR2 b0 b1 b2 b3 hb3 hK3 hLk
 go_wp2_with fail
 have hrun := run_any (ticks := ticks) (ops := ops) (f := ticks + ops + t.tasks.length + 1) HK3.out (Kn.begin_ok HF.out) (by rw [Kn.begin_len]; have := (Kn.Table.fits_parts HF.out).1; omega) (show w2.heap.size + 1 ≤ w3.heap.size by omega) (Nat.zero_le _) ht (Nat.zero_le _) ho (Kn.begin_rest t ticks ops)
 unfold Lay.ptr at hrun
 rw [HLK.out] at hrun
 refine hrun.mono ?_
 clear hrun
 rintro e w4 ⟨rfl, L', hK4, hS4, hb4⟩
 have hz4 := hb4.size
 rw [show Kn.K.run ticks ops (ticks + ops + t.tasks.length + 1) (Kn.begin t) = Kn.runT t ticks ops from rfl] at hK4
 obtain ⟨k, hk⟩ : ∃ k, k = Kn.runT t ticks ops := ⟨_, rfl⟩
 rw [← hk] at hK4
 have HTL : Hid (k.tasks.length ≤ 32) := by
  show _ ≤ _
  rw [hk, (Kn.runT_ok HF.out ticks ops).2]
  exact (Kn.Table.fits_parts HF.out).1.2.1
 have HKE := zh hk
 clear hk
 have hLk4 : L'.b .ker = w2.heap.size + 1 := by rw [← HLK.out]; exact hS4 .ker rfl
 have HWR4 := zh (HWR3.out.same (hb4.block _ (show w.heap.size + 1 < w2.heap.size + 1 by omega)))
 have HB4 := zh (HB3.out.trans (hb4.mono (show w.heap.size ≤ w2.heap.size + 1 by omega)))
 have hlt4 := hK4.lt (c := .ker) trivial
 have c36 : w4.cell? ⟨w2.heap.size + 1, 36, none⟩ = some (L'.hd .out k.out.length) := by have := (hK4.ker.cell 36).trans kerCells_36; rw [hLk4] at this; exact this
 have c37 : w4.cell? ⟨w2.heap.size + 1, 37, none⟩ = some (.int .i64 k.ticks) := by have := (hK4.ker.cell 37).trans kerCells_37; rw [hLk4] at this; exact this
 have c38 : w4.cell? ⟨w2.heap.size + 1, 38, none⟩ = some (.int .i64 k.ops) := by have := (hK4.ker.cell 38).trans kerCells_38; rw [hLk4] at this; exact this
 have c0 : w4.cell? ⟨w2.heap.size + 1, 0, none⟩ = some (L'.hd .ta k.tasks.length) := by have := hK4.ker.cell 0; rw [hLk4] at this; exact this
 rw [hLk4] at hlt4
 have HK4 := zh hK4
 have HLK4 := zh hLk4
 clear HWT3 HWR3 HB3 HK3 HLK hK4 hS4 hb4 hLk4
 obtain ⟨P, pn, pc, hV1⟩ : ∃ P pn pc, L'.hd .out k.out.length = .slice P pn pc := by
  unfold Lay.hd
  split
  ·exact ⟨_, _, _, rfl⟩
  ·exact ⟨_, _, _, rfl⟩
 rw [hV1] at c36
 have HV1 := zh hV1
 clear hV1
 go_upto_region 8 with fail
 refine wp_region_held_drew (S := fun w' => w'.cell? ⟨w2.heap.size + 1, 36, none⟩ = some (.slice P pn pc) ∧ w'.cell? ⟨w2.heap.size + 1, 37, none⟩ = some (.int .i64 k.ticks) ∧ w'.cell? ⟨w2.heap.size + 1, 38, none⟩ = some (.int .i64 k.ops)) (by kernel_rfl) ?_ (fun hHeld => ?_)
 ·(try dsimp only)
  refine ⟨?_, ?_, ?_⟩ <;> go_keep
 refine tkH 0 (v := ?_) ?_ ?_; rotate_left 2
 refine tkH 1 (v := ?_) ?_ ?_; rotate_left 2
 refine tkH 2 (v := ?_) ?_ ?_; rotate_left 2
 refine tkH 3 (v := ?_) ?_ ?_; rotate_left 2
 refine tkH 4 (v := ?_) ?_ ?_; rotate_left 2
 refine tkH 5 (v := ?_) ?_ ?_; rotate_left 2
 refine tkH 6 (v := ?_) ?_ ?_; rotate_left 2
 refine tkH 7 (v := ?_) ?_ ?_; rotate_left 2
 refine tkH 8 (v := ?_) ?_ ?_; rotate_left 2
 refine tkH 9 (v := ?_) ?_ ?_; rotate_left 2
 refine tkH 10 (v := ?_) ?_ ?_; rotate_left 2
 refine tkH 11 (v := ?_) ?_ ?_; rotate_left 2
 refine tkH 12 (v := ?_) ?_ ?_; rotate_left 2
 rotate_left
 iterate 13 (rotate_left; focus (intro w hSw; (try dsimp only at hSw); obtain ⟨hS0, hS1, hS2⟩ := hSw; go_simp; with_reducible rfl))
 try simp only [Act.put, p1, p2, p3, p4, p5, p6]
 refine wpAnyH_ready (rs := [13]) (by kernel_rfl) (by simp) ?_
 refine AllReadyH.cons rfl (fun K hK => ?_) ?_
 ·go_simp
  refine hK.out _ _ ?_ (fun hHeld => ?_)
  ·(try dsimp only)
   refine ⟨?_, ?_, ?_⟩ <;> go_keep
  clear hK K
  try simp only [Act.put, p4, p5, p6]
  refine wpAnyH_ready (rs := [14]) (by kernel_rfl) (by simp) ?_
  refine AllReadyH.cons rfl (fun K hK => ?_) ?_
  ·go_simp
   refine hK.out _ _ ?_ (fun hHeld => ?_)
   ·(try dsimp only)
    refine ⟨?_, ?_, ?_⟩ <;> go_keep
   clear hK K
   try simp only [Act.put, p4, p5, p6]
   refine wpAnyH_done (by kernel_rfl) ?_ _
   obtain ⟨W5, hW5⟩ : ∃ W, W = (w4.alloc (.cells #[.slice P pn pc, .slice none 0 0, .slice none 0 0, .int .i64 k.ticks, .int .i64 k.ops] 36)).drew := ⟨_, rfl⟩
   rw [← hW5]
   have hb5 : Below w4.heap.size w4 W5 := by rw [hW5]; exact ((zr _ _).alloc (zl _) _).drew
   have hz5 : W5.heap.size = w4.heap.size + 1 := by rw [hW5]; simp
   have hrow5 : W5.heap[w4.heap.size]? = some (.cells #[.slice P pn pc, .slice none 0 0, .slice none 0 0, .int .i64 k.ticks, .int .i64 k.ops] 36 (0, 0)) := by rw [hW5]; exact zm w4 36 _
   have c05 : W5.cell? ⟨w2.heap.size + 1, 0, none⟩ = some (L'.hd .ta k.tasks.length) := (hb5.cell (p := ⟨w2.heap.size + 1, 0, none⟩) hlt4).trans c0
   have HK5 := zh (HK4.out.below hb5)
   have HB5 := zh hb5
   have HROW := zh hrow5
   clear hW5 hb5 hrow5 c36 c37 c38 c0 hHeld
   obtain ⟨ad, tc, hhd, had⟩ : ∃ ad tc, L'.hd .ta k.tasks.length = .slice ad k.tasks.length tc ∧ (0 < k.tasks.length → ad = some ⟨L'.b .ta, 0, none⟩) := by
    unfold Lay.hd
    split
    ·rename_i q
     have := HK5.out.nil.1 q
     exact ⟨none, 0, by rw [this], fun q => by omega⟩
    ·rename_i q
     have q : L'.nil .ta = false := by simpa using q
     have := (HK5.out.cont .ta q).1
     exact ⟨_, _, rfl, fun _ => by rw [this]⟩
   rw [hhd] at c05
   clear hhd
   have HAD := zh had
   clear had
   go_wp2_with fail
   go_loopg [58] k.tasks.length (fun kk i wr => ∃ (j : Nat) (V2 V3 : Value) (g1 g2 : Option Nat), j ≤ k.tasks.length ∧ i = .int .i64 j ∧ LHead wr V2 ((k.tasks.take j).map (·.state)) g1 ∧ LHead wr V3 ((k.tasks.take j).map (·.answer)) g2 ∧ (∀ b, g1 = some b → w4.heap.size < b ∧ g2 ≠ some b) ∧ (∀ b, g2 = some b → w4.heap.size < b) ∧
    wr.heap[w4.heap.size]? = some (.cells #[.slice P pn pc, V2, V3, .int .i64 k.ticks, .int .i64 k.ops] 36 (0, 0)) ∧ Below w4.heap.size w4 wr ∧ k.tasks.length - j ≤ kk)
   case atStart => exact ⟨0, _, _, none, none, Nat.zero_le _, rfl, .inl ⟨rfl, rfl, rfl⟩, .inl ⟨rfl, rfl, rfl⟩, (by intro b q; cases q), (by intro b q; cases q), HROW.out, HB5.out, by omega⟩
   case round =>
    obtain ⟨j, V2, V3, g1, g2, hj, rfl, hL1, hL2, hg1, hg2, hrow, hbr, hkk⟩ := hrel
    by_cases hlt : j < k.tasks.length
    ·have hlt' : (j : Int) < k.tasks.length := by omega
     have hKr := HK4.out.below hbr
     have h1 := hKr.taskPtr hlt
     have e := HAD.out (by omega)
     subst e
     have ct : ∀ a v, (taskCells k L' j)[a]? = some v → wr.cell? ⟨L'.b (.t j), a, none⟩ = some v := fun a v q => ((hKr.task hlt).cell a).trans q
     have s3 : wr.cell? ⟨L'.b (.t j), 3, none⟩ = some (.int .i64 (kT k j).state) := ct 3 _ rfl
     have s5 : wr.cell? ⟨L'.b (.t j), 5, none⟩ = some (.int .i64 (kT k j).answer) := ct 5 _ rfl
     have htb := hKr.lt (c := .t j) hlt
     have htl : L'.b (.t j) < w4.heap.size := HK4.out.lt (c := .t j) hlt
     have hbl := hbr.size
     have HROW2 := zh hrow
     have HL1 := zh hL1
     have HL2 := zh hL2
     have HG1 := zh hg1
     have HG2 := zh hg2
     have HBR := zh hbr
     have HKR := zh hKr
     clear hrow hL1 hL2 hg1 hg2 hbr hKr ct
     go_upto_region 12 with fail
     have hbl2 : w4.heap.size < wr.heap.size := (Array.getElem?_eq_some_iff.1 HROW2.out).1
     have r1 : wr.cell? ⟨w4.heap.size, 1, none⟩ = some V2 := Whole.cell HROW2.out 1
     have r2 : wr.cell? ⟨w4.heap.size, 2, none⟩ = some V3 := Whole.cell HROW2.out 2
     have HKB : Hid (∀ (p q : Hf) (W : World), p.G = g1 → q.G = g2 → Two wr.drew W p q → Below (w4.heap.size + 1) wr.drew W) := zh fun p q W e1 e2 h => h.below (by show w4.heap.size + 1 ≤ wr.heap.size; omega) (fun b eb => by have := (HG1.out b (by rw [← e1]; exact eb)).1; omega) (fun b eb => by have := HG2.out b (by rw [← e2]; exact eb); omega)
     have HKP : Hid (∀ (p q : Hf) (W : World), p.G = g1 → q.G = g2 → Two wr.drew W p q → ∀ ad : Addr, ad.block ≤ w4.heap.size → W.cell? ad = wr.cell? ad) := zh fun p q W e1 e2 h ad had => (HKB.out p q W e1 e2 h).cell (p := ad) (by omega)
     have HKW : Hid (∀ (p q : Hf) (W : World), p.G = g1 → q.G = g2 → Two wr.drew W p q → Whole W w4.heap.size 36 #[.slice P pn pc, V2, V3, .int .i64 k.ticks, .int .i64 k.ops]) := zh fun p q W e1 e2 h => ((HKB.out p q W e1 e2 h).block _ (by omega)).trans HROW2.out
     have HKF : Hid (∀ (p q : Hf) (W : World), p.G = g1 → q.G = g2 → Two wr.drew W p q → ∀ i, W.frozen? ⟨w4.heap.size, i, none⟩ = false) := zh fun p q W e1 e2 h i => (HKW.out p q W e1 e2 h).frozen i
     have hlen1 : ((k.tasks.take j).map (·.state)).length ≤ 1000000 := by rw [List.length_map, List.length_take]; have := HTL.out; omega
     have hlen2 : ((k.tasks.take j).map (·.answer)).length ≤ 1000000 := by rw [List.length_map, List.length_take]; have := HTL.out; omega
     refine wp_region_any (by kernel_rfl) ?_
     refine wpAny_inv_at (fun _ listed a W => (∃ l0 l1 l2 l3 l4 l5 l6 l7 l8 l9 l10 l11 l12 l13 l14 l15 l16 : Bool, ∃ v0 v1 v2 v3 v4 v5 v6 v7 v8 v9 v10 v11 v12 v13 v14 v15 v16 : Value, listed = #[l0, l1, l2, l3, l4, l5, l6, l7, l8, l9, l10, l11, l12, l13, l14, l15, l16, false, false, false] ∧ a = ⟨#[.agg #[.slice A1 t.tasks.length c1, .slice A2 t.sems.length c2, .int .i64 t.mutexes, .slice A3 t.queues.length c3], .int .i64 (ticks : Int), .int .i64 (ops : Int), .pointer (some ⟨w.heap.size, 0, none⟩), undef, undef, .pointer (some ⟨w.heap.size + 1, 0, none⟩), .int .i64 0, .int .i64 0, .pointer (some ⟨w2.heap.size + 1, 0, none⟩), .pointer (some ⟨w4.heap.size, 0, none⟩), undef, .pointer (some ⟨L'.b (.t j), 0, none⟩), .agg #[.slice A1 t.tasks.length c1, .slice A2 t.sems.length c2, .int .i64 t.mutexes, .slice A3 t.queues.length c3], .int .i64 0, .int .i64 0, .bool false, undef, undef, .int .i64 (ticks : Int), .bool false, .bool false, .int .i64 (ticks : Int), .bool false, .bool false, .bool false, .int .i64 (ops : Int), .bool false, .bool false, .bool false, .int .i64 (ops : Int), .bool false, .bool false, undef, .agg #[.slice A1 t.tasks.length c1, .slice A2 t.sems.length c2, .int .i64 t.mutexes, .slice A3 t.queues.length c3], .pointer (some ⟨w2.heap.size + 1, 0, none⟩), .pointer (some ⟨w2.heap.size + 1, 0, none⟩), .int .i64 (ticks : Int), .int .i64 (ops : Int), .tuple #[], .pointer (some ⟨w2.heap.size + 1, 0, none⟩), .pointer (some ⟨w2.heap.size + 1, 0, none⟩), .pointer (some ⟨w2.heap.size + 1, 36, none⟩), .slice P pn pc, .pointer (some ⟨w2.heap.size + 1, 0, none⟩), .pointer (some ⟨w2.heap.size + 1, 0, none⟩), .pointer (some ⟨w2.heap.size + 1, 37, none⟩), .int .i64 (k.ticks : Int), .pointer (some ⟨w2.heap.size + 1, 0, none⟩), .pointer (some ⟨w2.heap.size + 1, 0, none⟩), .pointer (some ⟨w2.heap.size + 1, 38, none⟩), .int .i64 (k.ops : Int), .agg #[.slice P pn pc, .slice none 0 0, .slice none 0 0, .int .i64 (k.ticks : Int), .int .i64 (k.ops : Int)], .pointer (some ⟨w2.heap.size + 1, 0, none⟩), .pointer (some ⟨w2.heap.size + 1, 0, none⟩), .pointer (some ⟨w2.heap.size + 1, 0, none⟩), .slice (some ⟨L'.b .ta, 0, none⟩) k.tasks.length tc, .int .i64 (k.tasks.length : Int), .int .i64 (j : Int), .bool true, .pointer (some ⟨L'.b .ta, j, none⟩), .pointer (some ⟨L'.b (.t j), 0, none⟩), v0, v1, v2, v3, v4, v5, v6, v7, v8, v9, v10, v11, v12, v13, v14, v15, v16, u79, u80, undef], []⟩ ∧ Hid (l0 = true → v0 = .pointer (some ⟨w4.heap.size, 1, none⟩)) ∧ Hid (l1 = true → v1 = V2) ∧ Hid (l2 = true → v2 = .pointer (some ⟨L'.b (.t j), 0, none⟩)) ∧ Hid (l3 = true → v3 = .pointer (some ⟨L'.b (.t j), 0, none⟩)) ∧ Hid (l4 = true → v4 = .pointer (some ⟨L'.b (.t j), 3, none⟩)) ∧ Hid (l5 = true → v5 = .int .i64 (kT k j).state) ∧ Hid (l8 = true → v8 = .pointer (some ⟨w4.heap.size, 2, none⟩)) ∧ Hid (l9 = true → v9 = V3) ∧ Hid (l10 = true → v10 = .pointer (some ⟨L'.b (.t j), 0, none⟩)) ∧ Hid (l11 = true → v11 = .pointer (some ⟨L'.b (.t j), 0, none⟩)) ∧ Hid (l12 = true → v12 = .pointer (some ⟨L'.b (.t j), 5, none⟩)) ∧ Hid (l13 = true → v13 = .int .i64 (kT k j).answer) ∧ Hid (l16 = true → v16 = .pointer (some ⟨w4.heap.size, 1, none⟩)) ∧ Hid (l7 = true → l6 = true) ∧ Hid (l11 = true → l10 = true) ∧ Hid (l12 = true → l11 = true) ∧ Hid (l13 = true → l12 = true) ∧ Hid (l14 = true → l13 = true) ∧ Hid (l15 = true → l14 = true) ∧ Hid (Two wr.drew W ⟨l6, l7, V2, v6, v7, ((k.tasks.take j).map (·.state)), (kT k j).state, g1⟩ ⟨l14, l15, V3, v14, v15, ((k.tasks.take j).map (·.answer)), (kT k j).answer, g2⟩)) ∨ (∃ v0 v1 v2 v3 v4 v5 v6 v7 v8 v9 v10 v11 v12 v13 v14 v15 v16 : Value, ∃ W1 : World, listed = #[true, true, true, true, true, true, true, true, true, true, true, true, true, true, true, true, true, true, false, false] ∧ a = ⟨#[.agg #[.slice A1 t.tasks.length c1, .slice A2 t.sems.length c2, .int .i64 t.mutexes, .slice A3 t.queues.length c3], .int .i64 (ticks : Int), .int .i64 (ops : Int), .pointer (some ⟨w.heap.size, 0, none⟩), undef, undef, .pointer (some ⟨w.heap.size + 1, 0, none⟩), .int .i64 0, .int .i64 0, .pointer (some ⟨w2.heap.size + 1, 0, none⟩), .pointer (some ⟨w4.heap.size, 0, none⟩), undef, .pointer (some ⟨L'.b (.t j), 0, none⟩), .agg #[.slice A1 t.tasks.length c1, .slice A2 t.sems.length c2, .int .i64 t.mutexes, .slice A3 t.queues.length c3], .int .i64 0, .int .i64 0, .bool false, undef, undef, .int .i64 (ticks : Int), .bool false, .bool false, .int .i64 (ticks : Int), .bool false, .bool false, .bool false, .int .i64 (ops : Int), .bool false, .bool false, .bool false, .int .i64 (ops : Int), .bool false, .bool false, undef, .agg #[.slice A1 t.tasks.length c1, .slice A2 t.sems.length c2, .int .i64 t.mutexes, .slice A3 t.queues.length c3], .pointer (some ⟨w2.heap.size + 1, 0, none⟩), .pointer (some ⟨w2.heap.size + 1, 0, none⟩), .int .i64 (ticks : Int), .int .i64 (ops : Int), .tuple #[], .pointer (some ⟨w2.heap.size + 1, 0, none⟩), .pointer (some ⟨w2.heap.size + 1, 0, none⟩), .pointer (some ⟨w2.heap.size + 1, 36, none⟩), .slice P pn pc, .pointer (some ⟨w2.heap.size + 1, 0, none⟩), .pointer (some ⟨w2.heap.size + 1, 0, none⟩), .pointer (some ⟨w2.heap.size + 1, 37, none⟩), .int .i64 (k.ticks : Int), .pointer (some ⟨w2.heap.size + 1, 0, none⟩), .pointer (some ⟨w2.heap.size + 1, 0, none⟩), .pointer (some ⟨w2.heap.size + 1, 38, none⟩), .int .i64 (k.ops : Int), .agg #[.slice P pn pc, .slice none 0 0, .slice none 0 0, .int .i64 (k.ticks : Int), .int .i64 (k.ops : Int)], .pointer (some ⟨w2.heap.size + 1, 0, none⟩), .pointer (some ⟨w2.heap.size + 1, 0, none⟩), .pointer (some ⟨w2.heap.size + 1, 0, none⟩), .slice (some ⟨L'.b .ta, 0, none⟩) k.tasks.length tc, .int .i64 (k.tasks.length : Int), .int .i64 (j : Int), .bool true, .pointer (some ⟨L'.b .ta, j, none⟩), .pointer (some ⟨L'.b (.t j), 0, none⟩), v0, v1, v2, v3, v4, v5, v6, v7, v8, v9, v10, v11, v12, v13, v14, v15, v16, u79, u80, undef], []⟩ ∧ Hid (Two wr.drew W1 ⟨true, true, V2, v6, v7, ((k.tasks.take j).map (·.state)), (kT k j).state, g1⟩ ⟨true, true, V3, v14, v15, ((k.tasks.take j).map (·.answer)), (kT k j).answer, g2⟩) ∧ W = W1.setCell ⟨w4.heap.size, 1, none⟩ v7) ∨ (∃ v0 v1 v2 v3 v4 v5 v6 v7 v8 v9 v10 v11 v12 v13 v14 v15 v16 : Value, ∃ W1 : World, listed = #[true, true, true, true, true, true, true, true, true, true, true, true, true, true, true, true, true, true, true, false] ∧ a = ⟨#[.agg #[.slice A1 t.tasks.length c1, .slice A2 t.sems.length c2, .int .i64 t.mutexes, .slice A3 t.queues.length c3], .int .i64 (ticks : Int), .int .i64 (ops : Int), .pointer (some ⟨w.heap.size, 0, none⟩), undef, undef, .pointer (some ⟨w.heap.size + 1, 0, none⟩), .int .i64 0, .int .i64 0, .pointer (some ⟨w2.heap.size + 1, 0, none⟩), .pointer (some ⟨w4.heap.size, 0, none⟩), undef, .pointer (some ⟨L'.b (.t j), 0, none⟩), .agg #[.slice A1 t.tasks.length c1, .slice A2 t.sems.length c2, .int .i64 t.mutexes, .slice A3 t.queues.length c3], .int .i64 0, .int .i64 0, .bool false, undef, undef, .int .i64 (ticks : Int), .bool false, .bool false, .int .i64 (ticks : Int), .bool false, .bool false, .bool false, .int .i64 (ops : Int), .bool false, .bool false, .bool false, .int .i64 (ops : Int), .bool false, .bool false, undef, .agg #[.slice A1 t.tasks.length c1, .slice A2 t.sems.length c2, .int .i64 t.mutexes, .slice A3 t.queues.length c3], .pointer (some ⟨w2.heap.size + 1, 0, none⟩), .pointer (some ⟨w2.heap.size + 1, 0, none⟩), .int .i64 (ticks : Int), .int .i64 (ops : Int), .tuple #[], .pointer (some ⟨w2.heap.size + 1, 0, none⟩), .pointer (some ⟨w2.heap.size + 1, 0, none⟩), .pointer (some ⟨w2.heap.size + 1, 36, none⟩), .slice P pn pc, .pointer (some ⟨w2.heap.size + 1, 0, none⟩), .pointer (some ⟨w2.heap.size + 1, 0, none⟩), .pointer (some ⟨w2.heap.size + 1, 37, none⟩), .int .i64 (k.ticks : Int), .pointer (some ⟨w2.heap.size + 1, 0, none⟩), .pointer (some ⟨w2.heap.size + 1, 0, none⟩), .pointer (some ⟨w2.heap.size + 1, 38, none⟩), .int .i64 (k.ops : Int), .agg #[.slice P pn pc, .slice none 0 0, .slice none 0 0, .int .i64 (k.ticks : Int), .int .i64 (k.ops : Int)], .pointer (some ⟨w2.heap.size + 1, 0, none⟩), .pointer (some ⟨w2.heap.size + 1, 0, none⟩), .pointer (some ⟨w2.heap.size + 1, 0, none⟩), .slice (some ⟨L'.b .ta, 0, none⟩) k.tasks.length tc, .int .i64 (k.tasks.length : Int), .int .i64 (j : Int), .bool true, .pointer (some ⟨L'.b .ta, j, none⟩), .pointer (some ⟨L'.b (.t j), 0, none⟩), v0, v1, v2, v3, v4, v5, v6, v7, v8, v9, v10, v11, v12, v13, v14, v15, v16, .pointer (some ⟨w4.heap.size, 2, none⟩), u80, undef], []⟩ ∧ Hid (Two wr.drew W1 ⟨true, true, V2, v6, v7, ((k.tasks.take j).map (·.state)), (kT k j).state, g1⟩ ⟨true, true, V3, v14, v15, ((k.tasks.take j).map (·.answer)), (kT k j).answer, g2⟩) ∧ W = W1.setCell ⟨w4.heap.size, 1, none⟩ v7) ∨ (∃ v0 v1 v2 v3 v4 v5 v6 v7 v8 v9 v10 v11 v12 v13 v14 v15 v16 : Value, ∃ W1 : World, listed = #[true, true, true, true, true, true, true, true, true, true, true, true, true, true, true, true, true, true, true, true] ∧ a = ⟨#[.agg #[.slice A1 t.tasks.length c1, .slice A2 t.sems.length c2, .int .i64 t.mutexes, .slice A3 t.queues.length c3], .int .i64 (ticks : Int), .int .i64 (ops : Int), .pointer (some ⟨w.heap.size, 0, none⟩), undef, undef, .pointer (some ⟨w.heap.size + 1, 0, none⟩), .int .i64 0, .int .i64 0, .pointer (some ⟨w2.heap.size + 1, 0, none⟩), .pointer (some ⟨w4.heap.size, 0, none⟩), undef, .pointer (some ⟨L'.b (.t j), 0, none⟩), .agg #[.slice A1 t.tasks.length c1, .slice A2 t.sems.length c2, .int .i64 t.mutexes, .slice A3 t.queues.length c3], .int .i64 0, .int .i64 0, .bool false, undef, undef, .int .i64 (ticks : Int), .bool false, .bool false, .int .i64 (ticks : Int), .bool false, .bool false, .bool false, .int .i64 (ops : Int), .bool false, .bool false, .bool false, .int .i64 (ops : Int), .bool false, .bool false, undef, .agg #[.slice A1 t.tasks.length c1, .slice A2 t.sems.length c2, .int .i64 t.mutexes, .slice A3 t.queues.length c3], .pointer (some ⟨w2.heap.size + 1, 0, none⟩), .pointer (some ⟨w2.heap.size + 1, 0, none⟩), .int .i64 (ticks : Int), .int .i64 (ops : Int), .tuple #[], .pointer (some ⟨w2.heap.size + 1, 0, none⟩), .pointer (some ⟨w2.heap.size + 1, 0, none⟩), .pointer (some ⟨w2.heap.size + 1, 36, none⟩), .slice P pn pc, .pointer (some ⟨w2.heap.size + 1, 0, none⟩), .pointer (some ⟨w2.heap.size + 1, 0, none⟩), .pointer (some ⟨w2.heap.size + 1, 37, none⟩), .int .i64 (k.ticks : Int), .pointer (some ⟨w2.heap.size + 1, 0, none⟩), .pointer (some ⟨w2.heap.size + 1, 0, none⟩), .pointer (some ⟨w2.heap.size + 1, 38, none⟩), .int .i64 (k.ops : Int), .agg #[.slice P pn pc, .slice none 0 0, .slice none 0 0, .int .i64 (k.ticks : Int), .int .i64 (k.ops : Int)], .pointer (some ⟨w2.heap.size + 1, 0, none⟩), .pointer (some ⟨w2.heap.size + 1, 0, none⟩), .pointer (some ⟨w2.heap.size + 1, 0, none⟩), .slice (some ⟨L'.b .ta, 0, none⟩) k.tasks.length tc, .int .i64 (k.tasks.length : Int), .int .i64 (j : Int), .bool true, .pointer (some ⟨L'.b .ta, j, none⟩), .pointer (some ⟨L'.b (.t j), 0, none⟩), v0, v1, v2, v3, v4, v5, v6, v7, v8, v9, v10, v11, v12, v13, v14, v15, v16, .pointer (some ⟨w4.heap.size, 2, none⟩), u80, undef], []⟩ ∧ Hid (Two wr.drew W1 ⟨true, true, V2, v6, v7, ((k.tasks.take j).map (·.state)), (kT k j).state, g1⟩ ⟨true, true, V3, v14, v15, ((k.tasks.take j).map (·.answer)), (kT k j).answer, g2⟩) ∧ W = (W1.setCell ⟨w4.heap.size, 1, none⟩ v7).setCell ⟨w4.heap.size, 2, none⟩ v15)) (by decide) ?_ ?_ ?_
     ·intro listed a W hI i hi
      rcases hI with ⟨l0, l1, l2, l3, l4, l5, l6, l7, l8, l9, l10, l11, l12, l13, l14, l15, l16, v0, v1, v2, v3, v4, v5, v6, v7, v8, v9, v10, v11, v12, v13, v14, v15, v16, rfl, rfl, h0, h1, h2, h3, h4, h5, h8, h9, h10, h11, h12, h13, h16, k7, k11, k12, k13, k14, k15, HT⟩ | ⟨v0, v1, v2, v3, v4, v5, v6, v7, v8, v9, v10, v11, v12, v13, v14, v15, v16, W1, rfl, rfl, HT, rfl⟩ | ⟨v0, v1, v2, v3, v4, v5, v6, v7, v8, v9, v10, v11, v12, v13, v14, v15, v16, W1, rfl, rfl, HT, rfl⟩ | ⟨v0, v1, v2, v3, v4, v5, v6, v7, v8, v9, v10, v11, v12, v13, v14, v15, v16, W1, rfl, rfl, HT, rfl⟩
      ·obtain ⟨hlt9, hdep⟩ := ready_spec hi
       have hun := (mem_ready.1 hi).1
       clear hi
       have hlt9 : i < 20 := hlt9
       have hcase : i = 0 ∨ i = 1 ∨ i = 2 ∨ i = 3 ∨ i = 4 ∨ i = 5 ∨ i = 6 ∨ i = 7 ∨ i = 8 ∨ i = 9 ∨ i = 10 ∨ i = 11 ∨ i = 12 ∨ i = 13 ∨ i = 14 ∨ i = 15 ∨ i = 16 ∨ i = 17 ∨ i = 18 ∨ i = 19 := by omega
       clear hlt9
       rcases hcase with rfl | rfl | rfl | rfl | rfl | rfl | rfl | rfl | rfl | rfl | rfl | rfl | rfl | rfl | rfl | rfl | rfl | rfl | rfl | rfl
       ·have hlk : l0 = false := hun
        clear hun
        clear hdep
        refine wpOp_step rfl (fun K' hK => ?_)
        go_simp
        refine hK _ _ ?_
        clear hK K'
        exact Or.inl ⟨true, l1, l2, l3, l4, l5, l6, l7, l8, l9, l10, l11, l12, l13, l14, l15, l16, _, _, _, _, _, _, _, _, _, _, _, _, _, _, _, _, _, rfl, rfl, zh fun _ => rfl, h1, h2, h3, h4, h5, h8, h9, h10, h11, h12, h13, h16, k7, k11, k12, k13, k14, k15, HT⟩
       ·have hlk : l1 = false := hun
        clear hun
        have d0 : l0 = true := hdep _ rfl ⟨0, .data⟩ (by simp) rfl
        clear hdep
        have e0 := h0.out d0
        subst e0
        have hcell : W.cell? ⟨w4.heap.size, 1, none⟩ = some V2 := (HKP.out _ _ _ rfl rfl HT.out _ (zl _)).trans r1
        refine wpOp_step rfl (fun K' hK => ?_)
        go_simp
        refine hK _ _ ?_
        clear hK K'
        exact Or.inl ⟨l0, true, l2, l3, l4, l5, l6, l7, l8, l9, l10, l11, l12, l13, l14, l15, l16, _, _, _, _, _, _, _, _, _, _, _, _, _, _, _, _, _, rfl, rfl, zh fun _ => rfl, zh fun _ => rfl, h2, h3, h4, h5, h8, h9, h10, h11, h12, h13, h16, k7, k11, k12, k13, k14, k15, HT⟩
       ·have hlk : l2 = false := hun
        clear hun
        clear hdep
        refine wpOp_step rfl (fun K' hK => ?_)
        go_simp
        refine hK _ _ ?_
        clear hK K'
        exact Or.inl ⟨l0, l1, true, l3, l4, l5, l6, l7, l8, l9, l10, l11, l12, l13, l14, l15, l16, _, _, _, _, _, _, _, _, _, _, _, _, _, _, _, _, _, rfl, rfl, h0, h1, zh fun _ => rfl, h3, h4, h5, h8, h9, h10, h11, h12, h13, h16, k7, k11, k12, k13, k14, k15, HT⟩
       ·have hlk : l3 = false := hun
        clear hun
        have d2 : l2 = true := hdep _ rfl ⟨2, .data⟩ (by simp) rfl
        clear hdep
        have e2 := h2.out d2
        subst e2
        refine wpOp_step rfl (fun K' hK => ?_)
        go_simp
        refine hK _ _ ?_
        clear hK K'
        exact Or.inl ⟨l0, l1, l2, true, l4, l5, l6, l7, l8, l9, l10, l11, l12, l13, l14, l15, l16, _, _, _, _, _, _, _, _, _, _, _, _, _, _, _, _, _, rfl, rfl, h0, h1, zh fun _ => rfl, zh fun _ => rfl, h4, h5, h8, h9, h10, h11, h12, h13, h16, k7, k11, k12, k13, k14, k15, HT⟩
       ·have hlk : l4 = false := hun
        clear hun
        have d3 : l3 = true := hdep _ rfl ⟨3, .data⟩ (by simp) rfl
        clear hdep
        have e3 := h3.out d3
        subst e3
        refine wpOp_step rfl (fun K' hK => ?_)
        go_simp
        refine hK _ _ ?_
        clear hK K'
        exact Or.inl ⟨l0, l1, l2, l3, true, l5, l6, l7, l8, l9, l10, l11, l12, l13, l14, l15, l16, _, _, _, _, _, _, _, _, _, _, _, _, _, _, _, _, _, rfl, rfl, h0, h1, h2, zh fun _ => rfl, zh fun _ => rfl, h5, h8, h9, h10, h11, h12, h13, h16, k7, k11, k12, k13, k14, k15, HT⟩
       ·have hlk : l5 = false := hun
        clear hun
        have d4 : l4 = true := hdep _ rfl ⟨4, .data⟩ (by simp) rfl
        clear hdep
        have e4 := h4.out d4
        subst e4
        have hcell : W.cell? ⟨L'.b (.t j), 3, none⟩ = some (.int .i64 (kT k j).state) := (HKP.out _ _ _ rfl rfl HT.out _ (Nat.le_of_lt htl)).trans s3
        refine wpOp_step rfl (fun K' hK => ?_)
        go_simp
        refine hK _ _ ?_
        clear hK K'
        exact Or.inl ⟨l0, l1, l2, l3, l4, true, l6, l7, l8, l9, l10, l11, l12, l13, l14, l15, l16, _, _, _, _, _, _, _, _, _, _, _, _, _, _, _, _, _, rfl, rfl, h0, h1, h2, h3, zh fun _ => rfl, zh fun _ => rfl, h8, h9, h10, h11, h12, h13, h16, k7, k11, k12, k13, k14, k15, HT⟩
       ·have hlk : l6 = false := hun
        clear hun
        have d5 : l5 = true := hdep _ rfl ⟨5, .data⟩ (by simp) rfl
        clear hdep
        have f7 : l7 = false := by cases hh : l7 with | false => rfl | true => (have := k7.out hh; rw [hlk] at this; cases this)
        have e5 := h5.out d5
        subst e5
        refine wpOp_step rfl (fun K' hK => ?_)
        go_simp
        refine hK _ _ ?_
        clear hK K'
        exact Or.inl ⟨l0, l1, l2, l3, l4, l5, true, l7, l8, l9, l10, l11, l12, l13, l14, l15, l16, _, _, _, _, _, _, _, _, _, _, _, _, _, _, _, _, _, rfl, rfl, h0, h1, h2, h3, h4, zh fun _ => rfl, h8, h9, h10, h11, h12, h13, h16, zh fun _ => rfl, k11, k12, k13, k14, k15, zh (HT.out.build f7)⟩
       ·have hlk : l7 = false := hun
        clear hun
        have d1 : l1 = true := hdep _ rfl ⟨1, .data⟩ (by simp) rfl
        have d6 : l6 = true := hdep _ rfl ⟨6, .data⟩ (by simp) rfl
        clear hdep
        have e1 := h1.out d1
        subst e1
        refine wpOp_step rfl (fun K' hK => ?_)
        subst hlk
        subst d6
        obtain ⟨gg, cc, hLH, hvB, hcc, hnext⟩ := HT.out.ready rfl rfl
        have hvB : v6 = _ := hvB
        subst hvB
        rw [if_pos (by rfl)]
        refine wp_append_list _ _ rfl rfl hLH hlen1 _ _ 1 (by rfl) hcc (fun v' W' hp => ?_)
        have HN := zh (hnext v' W' hp)
        clear hnext hp
        refine hK _ _ ?_
        clear hK K'
        exact Or.inl ⟨l0, l1, l2, l3, l4, l5, true, true, l8, l9, l10, l11, l12, l13, l14, l15, l16, _, _, _, _, _, _, _, _, _, _, _, _, _, _, _, _, _, rfl, rfl, h0, zh fun _ => rfl, h2, h3, h4, h5, h8, h9, h10, h11, h12, h13, h16, zh fun _ => rfl, k11, k12, k13, k14, k15, zh HN.out⟩
       ·have hlk : l8 = false := hun
        clear hun
        clear hdep
        refine wpOp_step rfl (fun K' hK => ?_)
        go_simp
        refine hK _ _ ?_
        clear hK K'
        exact Or.inl ⟨l0, l1, l2, l3, l4, l5, l6, l7, true, l9, l10, l11, l12, l13, l14, l15, l16, _, _, _, _, _, _, _, _, _, _, _, _, _, _, _, _, _, rfl, rfl, h0, h1, h2, h3, h4, h5, zh fun _ => rfl, h9, h10, h11, h12, h13, h16, k7, k11, k12, k13, k14, k15, HT⟩
       ·have hlk : l9 = false := hun
        clear hun
        have d8 : l8 = true := hdep _ rfl ⟨8, .data⟩ (by simp) rfl
        clear hdep
        have e8 := h8.out d8
        subst e8
        have hcell : W.cell? ⟨w4.heap.size, 2, none⟩ = some V3 := (HKP.out _ _ _ rfl rfl HT.out _ (zl _)).trans r2
        refine wpOp_step rfl (fun K' hK => ?_)
        go_simp
        refine hK _ _ ?_
        clear hK K'
        exact Or.inl ⟨l0, l1, l2, l3, l4, l5, l6, l7, l8, true, l10, l11, l12, l13, l14, l15, l16, _, _, _, _, _, _, _, _, _, _, _, _, _, _, _, _, _, rfl, rfl, h0, h1, h2, h3, h4, h5, zh fun _ => rfl, zh fun _ => rfl, h10, h11, h12, h13, h16, k7, k11, k12, k13, k14, k15, HT⟩
       ·have hlk : l10 = false := hun
        clear hun
        clear hdep
        refine wpOp_step rfl (fun K' hK => ?_)
        go_simp
        refine hK _ _ ?_
        clear hK K'
        exact Or.inl ⟨l0, l1, l2, l3, l4, l5, l6, l7, l8, l9, true, l11, l12, l13, l14, l15, l16, _, _, _, _, _, _, _, _, _, _, _, _, _, _, _, _, _, rfl, rfl, h0, h1, h2, h3, h4, h5, h8, h9, zh fun _ => rfl, h11, h12, h13, h16, k7, zh fun _ => rfl, k12, k13, k14, k15, HT⟩
       ·have hlk : l11 = false := hun
        clear hun
        have d10 : l10 = true := hdep _ rfl ⟨10, .data⟩ (by simp) rfl
        clear hdep
        have e10 := h10.out d10
        subst e10
        refine wpOp_step rfl (fun K' hK => ?_)
        go_simp
        refine hK _ _ ?_
        clear hK K'
        exact Or.inl ⟨l0, l1, l2, l3, l4, l5, l6, l7, l8, l9, l10, true, l12, l13, l14, l15, l16, _, _, _, _, _, _, _, _, _, _, _, _, _, _, _, _, _, rfl, rfl, h0, h1, h2, h3, h4, h5, h8, h9, zh fun _ => rfl, zh fun _ => rfl, h12, h13, h16, k7, zh fun _ => d10, zh fun _ => rfl, k13, k14, k15, HT⟩
       ·have hlk : l12 = false := hun
        clear hun
        have d11 : l11 = true := hdep _ rfl ⟨11, .data⟩ (by simp) rfl
        clear hdep
        have e11 := h11.out d11
        subst e11
        refine wpOp_step rfl (fun K' hK => ?_)
        go_simp
        refine hK _ _ ?_
        clear hK K'
        exact Or.inl ⟨l0, l1, l2, l3, l4, l5, l6, l7, l8, l9, l10, l11, true, l13, l14, l15, l16, _, _, _, _, _, _, _, _, _, _, _, _, _, _, _, _, _, rfl, rfl, h0, h1, h2, h3, h4, h5, h8, h9, h10, zh fun _ => rfl, zh fun _ => rfl, h13, h16, k7, k11, zh fun _ => d11, zh fun _ => rfl, k14, k15, HT⟩
       ·have hlk : l13 = false := hun
        clear hun
        have d12 : l12 = true := hdep _ rfl ⟨12, .data⟩ (by simp) rfl
        clear hdep
        have e12 := h12.out d12
        subst e12
        have hcell : W.cell? ⟨L'.b (.t j), 5, none⟩ = some (.int .i64 (kT k j).answer) := (HKP.out _ _ _ rfl rfl HT.out _ (Nat.le_of_lt htl)).trans s5
        refine wpOp_step rfl (fun K' hK => ?_)
        go_simp
        refine hK _ _ ?_
        clear hK K'
        exact Or.inl ⟨l0, l1, l2, l3, l4, l5, l6, l7, l8, l9, l10, l11, l12, true, l14, l15, l16, _, _, _, _, _, _, _, _, _, _, _, _, _, _, _, _, _, rfl, rfl, h0, h1, h2, h3, h4, h5, h8, h9, h10, h11, zh fun _ => rfl, zh fun _ => rfl, h16, k7, k11, k12, zh fun _ => d12, zh fun _ => rfl, k15, HT⟩
       ·have hlk : l14 = false := hun
        clear hun
        have d13 : l13 = true := hdep _ rfl ⟨13, .data⟩ (by simp) rfl
        clear hdep
        have f15 : l15 = false := by cases hh : l15 with | false => rfl | true => (have := k15.out hh; rw [hlk] at this; cases this)
        have e13 := h13.out d13
        subst e13
        refine wpOp_step rfl (fun K' hK => ?_)
        go_simp
        refine hK _ _ ?_
        clear hK K'
        exact Or.inl ⟨l0, l1, l2, l3, l4, l5, l6, l7, l8, l9, l10, l11, l12, l13, true, l15, l16, _, _, _, _, _, _, _, _, _, _, _, _, _, _, _, _, _, rfl, rfl, h0, h1, h2, h3, h4, h5, h8, h9, h10, h11, h12, zh fun _ => rfl, h16, k7, k11, k12, k13, zh fun _ => d13, zh fun _ => rfl, zh ((HT.out.swap.build f15).swap)⟩
       ·have hlk : l15 = false := hun
        clear hun
        have d9 : l9 = true := hdep _ rfl ⟨9, .data⟩ (by simp) rfl
        have d14 : l14 = true := hdep _ rfl ⟨14, .data⟩ (by simp) rfl
        have d7 : l7 = true := hdep _ rfl ⟨7, .chain⟩ (by simp) rfl
        clear hdep
        have e9 := h9.out d9
        subst e9
        refine wpOp_step rfl (fun K' hK => ?_)
        subst hlk
        subst d14
        obtain ⟨gg, cc, hLH, hvB, hcc, hnext⟩ := HT.out.swap.ready rfl rfl
        have hvB : v14 = _ := hvB
        subst hvB
        rw [if_pos (by rfl)]
        refine wp_append_list _ _ rfl rfl hLH hlen2 _ _ 1 (by rfl) hcc (fun v' W' hp => ?_)
        have HN := zh (hnext v' W' hp)
        clear hnext hp
        refine hK _ _ ?_
        clear hK K'
        exact Or.inl ⟨l0, l1, l2, l3, l4, l5, l6, l7, l8, l9, l10, l11, l12, l13, true, true, l16, _, _, _, _, _, _, _, _, _, _, _, _, _, _, _, _, _, rfl, rfl, h0, h1, h2, h3, h4, h5, h8, zh fun _ => rfl, h10, h11, h12, h13, h16, k7, k11, k12, k13, k14, zh fun _ => rfl, zh HN.out.swap⟩
       ·have hlk : l16 = false := hun
        clear hun
        clear hdep
        refine wpOp_step rfl (fun K' hK => ?_)
        go_simp
        refine hK _ _ ?_
        clear hK K'
        exact Or.inl ⟨l0, l1, l2, l3, l4, l5, l6, l7, l8, l9, l10, l11, l12, l13, l14, l15, true, _, _, _, _, _, _, _, _, _, _, _, _, _, _, _, _, _, rfl, rfl, h0, h1, h2, h3, h4, h5, h8, h9, h10, h11, h12, h13, zh fun _ => rfl, k7, k11, k12, k13, k14, k15, HT⟩
       ·clear hun
        have d16 : l16 = true := hdep _ rfl ⟨16, .data⟩ (by simp) rfl
        have d7 : l7 = true := hdep _ rfl ⟨7, .data⟩ (by simp) rfl
        have d15 : l15 = true := hdep _ rfl ⟨15, .chain⟩ (by simp) rfl
        have d0 : l0 = true := hdep _ rfl ⟨0, .phase⟩ (by simp) rfl
        have d1 : l1 = true := hdep _ rfl ⟨1, .phase⟩ (by simp) rfl
        have d2 : l2 = true := hdep _ rfl ⟨2, .phase⟩ (by simp) rfl
        have d3 : l3 = true := hdep _ rfl ⟨3, .phase⟩ (by simp) rfl
        have d4 : l4 = true := hdep _ rfl ⟨4, .phase⟩ (by simp) rfl
        have d5 : l5 = true := hdep _ rfl ⟨5, .phase⟩ (by simp) rfl
        have d6 : l6 = true := hdep _ rfl ⟨6, .phase⟩ (by simp) rfl
        have d8 : l8 = true := hdep _ rfl ⟨8, .phase⟩ (by simp) rfl
        have d9 : l9 = true := hdep _ rfl ⟨9, .phase⟩ (by simp) rfl
        clear hdep
        have d14 := k15.out d15
        have d13 := k14.out d14
        have d12 := k13.out d13
        have d11 := k12.out d12
        have d10 := k11.out d11
        have e16 := h16.out d16
        subst e16
        subst d0 d1 d2 d3 d4 d5 d6 d7 d8 d9 d10 d11 d12 d13 d14 d15 d16
        obtain ⟨q1, q2, hl1, -, -⟩ := HT.out.done rfl rfl
        obtain ⟨Aa, na, ca, eva⟩ := hl1.shape
        have eva : v7 = .slice Aa na ca := eva
        clear hl1
        have hcell : W.cell? ⟨w4.heap.size, 1, none⟩ = some V2 := (HKP.out _ _ _ rfl rfl HT.out _ (zl _)).trans r1
        have hfro : W.frozen? ⟨w4.heap.size, 1, none⟩ = false := HKF.out _ _ _ rfl rfl HT.out 1
        subst eva
        refine wpOp_step rfl (fun K' hK => ?_)
        go_simp
        refine hK _ _ ?_
        clear hK K'
        exact Or.inr (Or.inl ⟨_, _, _, _, _, _, _, _, _, _, _, _, _, _, _, _, _, _, rfl, rfl, HT, rfl⟩)
       ·have d17 : false = true := hdep _ rfl ⟨17, .phase⟩ (by simp) rfl
        cases d17
       ·have d17 : false = true := hdep _ rfl ⟨17, .phase⟩ (by simp) rfl
        cases d17
      ·obtain ⟨hlt9, hdep⟩ := ready_spec hi
       have hun := (mem_ready.1 hi).1
       clear hi
       have hlt9 : i < 20 := hlt9
       have hcase : i = 0 ∨ i = 1 ∨ i = 2 ∨ i = 3 ∨ i = 4 ∨ i = 5 ∨ i = 6 ∨ i = 7 ∨ i = 8 ∨ i = 9 ∨ i = 10 ∨ i = 11 ∨ i = 12 ∨ i = 13 ∨ i = 14 ∨ i = 15 ∨ i = 16 ∨ i = 17 ∨ i = 18 ∨ i = 19 := by omega
       clear hlt9
       rcases hcase with rfl | rfl | rfl | rfl | rfl | rfl | rfl | rfl | rfl | rfl | rfl | rfl | rfl | rfl | rfl | rfl | rfl | rfl | rfl | rfl
       ·cases hun
       ·cases hun
       ·cases hun
       ·cases hun
       ·cases hun
       ·cases hun
       ·cases hun
       ·cases hun
       ·cases hun
       ·cases hun
       ·cases hun
       ·cases hun
       ·cases hun
       ·cases hun
       ·cases hun
       ·cases hun
       ·cases hun
       ·cases hun
       ·clear hun hdep
        refine wpOp_step rfl (fun K' hK => ?_)
        go_simp
        refine hK _ _ ?_
        clear hK K'
        exact Or.inr (Or.inr (Or.inl ⟨_, _, _, _, _, _, _, _, _, _, _, _, _, _, _, _, _, _, rfl, rfl, HT, rfl⟩))
       ·have d18 : false = true := hdep _ rfl ⟨18, .data⟩ (by simp) rfl
        cases d18
      ·obtain ⟨hlt9, hdep⟩ := ready_spec hi
       have hun := (mem_ready.1 hi).1
       clear hi
       have hlt9 : i < 20 := hlt9
       have hcase : i = 0 ∨ i = 1 ∨ i = 2 ∨ i = 3 ∨ i = 4 ∨ i = 5 ∨ i = 6 ∨ i = 7 ∨ i = 8 ∨ i = 9 ∨ i = 10 ∨ i = 11 ∨ i = 12 ∨ i = 13 ∨ i = 14 ∨ i = 15 ∨ i = 16 ∨ i = 17 ∨ i = 18 ∨ i = 19 := by omega
       clear hlt9
       rcases hcase with rfl | rfl | rfl | rfl | rfl | rfl | rfl | rfl | rfl | rfl | rfl | rfl | rfl | rfl | rfl | rfl | rfl | rfl | rfl | rfl
       ·cases hun
       ·cases hun
       ·cases hun
       ·cases hun
       ·cases hun
       ·cases hun
       ·cases hun
       ·cases hun
       ·cases hun
       ·cases hun
       ·cases hun
       ·cases hun
       ·cases hun
       ·cases hun
       ·cases hun
       ·cases hun
       ·cases hun
       ·cases hun
       ·cases hun
       ·clear hun hdep
        obtain ⟨q1, q2, -, hl2, -⟩ := HT.out.done rfl rfl
        obtain ⟨Ab, nb, cb, evb⟩ := hl2.shape
        have evb : v15 = .slice Ab nb cb := evb
        clear hl2
        have hcell : (W1.setCell ⟨w4.heap.size, 1, none⟩ v7).cell? ⟨w4.heap.size, 2, none⟩ = some V3 := ((HKW.out _ _ _ rfl rfl HT.out).put 1 v7).cell 2
        have hfro : (W1.setCell ⟨w4.heap.size, 1, none⟩ v7).frozen? ⟨w4.heap.size, 2, none⟩ = false := ((HKW.out _ _ _ rfl rfl HT.out).put 1 v7).frozen 2
        subst evb
        refine wpOp_step rfl (fun K' hK => ?_)
        go_simp
        refine hK _ _ ?_
        clear hK K'
        exact Or.inr (Or.inr (Or.inr ⟨_, _, _, _, _, _, _, _, _, _, _, _, _, _, _, _, _, _, rfl, rfl, HT, rfl⟩))
      ·rw [ready_nil_of_count (by decide)] at hi
       cases hi
     ·intro listed a W hI hr
      rcases hI with ⟨l0, l1, l2, l3, l4, l5, l6, l7, l8, l9, l10, l11, l12, l13, l14, l15, l16, v0, v1, v2, v3, v4, v5, v6, v7, v8, v9, v10, v11, v12, v13, v14, v15, v16, rfl, rfl, h0, h1, h2, h3, h4, h5, h8, h9, h10, h11, h12, h13, h16, k7, k11, k12, k13, k14, k15, HT⟩ | ⟨v0, v1, v2, v3, v4, v5, v6, v7, v8, v9, v10, v11, v12, v13, v14, v15, v16, W1, rfl, rfl, HT, rfl⟩ | ⟨v0, v1, v2, v3, v4, v5, v6, v7, v8, v9, v10, v11, v12, v13, v14, v15, v16, W1, rfl, rfl, HT, rfl⟩ | ⟨v0, v1, v2, v3, v4, v5, v6, v7, v8, v9, v10, v11, v12, v13, v14, v15, v16, W1, rfl, rfl, HT, rfl⟩
      ·refine absurd (listed_all ?_ ?_ hr 19 ?_) ?_
       ·rfl
       ·kernel_rfl
       ·show 19 < 20
        decide
       ·simp
      ·refine absurd (listed_all ?_ ?_ hr 19 ?_) ?_
       ·rfl
       ·kernel_rfl
       ·show 19 < 20
        decide
       ·simp
      ·refine absurd (listed_all ?_ ?_ hr 19 ?_) ?_
       ·rfl
       ·kernel_rfl
       ·show 19 < 20
        decide
       ·simp
      ·obtain ⟨q1, q2, hl1, hl2, hq12, hq1, hq2, -, -⟩ := HT.out.done rfl rfl
       have hWh := HKW.out _ _ _ rfl rfl HT.out
       have hbX := HKB.out _ _ _ rfl rfl HT.out
       have HWF := zh ((hWh.put 1 v7).put 2 v15)
       have hsame : ∀ b, b ≠ w4.heap.size → ((W1.setCell ⟨w4.heap.size, 1, none⟩ v7).setCell ⟨w4.heap.size, 2, none⟩ v15).heap[b]? = W1.heap[b]? := fun b hb => by rw [zk _ _ _ _ hb, zk _ _ _ _ hb]
       have hz9 := hbX.size
       have hn1 : ∀ b, q1 = some b → w4.heap.size < b := by
        intro b eb
        rcases hq1 with q | ⟨x, q, hx⟩
        ·rw [q] at eb
         exact (HG1.out b eb).1
        ·rw [q] at eb
         cases eb
         have hx : wr.heap.size ≤ b := hx
         omega
       have hn2 : ∀ b, q2 = some b → w4.heap.size < b := by
        intro b eb
        rcases hq2 with q | ⟨x, q, hx⟩
        ·rw [q] at eb
         exact HG2.out b eb
        ·rw [q] at eb
         cases eb
         have hx : wr.heap.size ≤ b := hx
         omega
       have HL1N := zh (hl1.keep_at fun b eb => hsame b (by have := hn1 b eb; omega))
       have HL2N := zh (hl2.keep_at fun b eb => hsame b (by have := hn2 b eb; omega))
       have HBN := zh ((((HBR.out.trans (Below.drew (zr _ _))).trans (hbX.mono (Nat.le_succ _))).setCell (p := ⟨w4.heap.size, 1, none⟩) (zl _) v7).setCell (p := ⟨w4.heap.size, 2, none⟩) (zl _) v15)
       have HQ1 := zh hn1
       have HQ2 := zh hn2
       have HQ12 := zh hq12
       have ES : Hid ((k.tasks.take (j + 1)).map (·.state) = (k.tasks.take j).map (·.state) ++ [(kT k j).state]) := by
        show _ = _
        rw [List.take_succ_eq_append_getElem hlt, List.map_append, kT_getElem hlt]
        rfl
       have EA : Hid ((k.tasks.take (j + 1)).map (·.answer) = (k.tasks.take j).map (·.answer) ++ [(kT k j).answer]) := by
        show _ = _
        rw [List.take_succ_eq_append_getElem hlt, List.map_append, kT_getElem hlt]
        rfl
       have hjb : (j : Int) + 1 ≤ 32 := by have := HTL.out; omega
       clear hl1 hl2 hq12 hq1 hq2 hWh hbX hsame hn1 hn2 hr
       go_wp2_with fail
       go_roundg (k.tasks.length - (j + 1))
       case measure => omega
       case rel => exact ⟨j + 1, _, _, q1, q2, by omega, by go_num, by rw [ES.out]; exact HL1N.out, by rw [EA.out]; exact HL2N.out, fun b eb => ⟨HQ1.out b eb, HQ12.out b eb⟩, HQ2.out, HWF.out, HBN.out, zl _⟩
     ·exact Or.inl ⟨false, false, false, false, false, false, false, false, false, false, false, false, false, false, false, false, false, _, _, _, _, _, _, _, _, _, _, _, _, _, _, _, _, _, rfl, rfl, zh (by simp), zh (by simp), zh (by simp), zh (by simp), zh (by simp), zh (by simp), zh (by simp), zh (by simp), zh (by simp), zh (by simp), zh (by simp), zh (by simp), zh (by simp), zh (by simp), zh (by simp), zh (by simp), zh (by simp), zh (by simp), zh (by simp), zh (Two.start (HL1.out.keep_at fun _ _ => rfl) (HL2.out.keep_at fun _ _ => rfl) fun b eb => (HG1.out b eb).2)⟩
    ·have hge : ¬ (j : Int) < k.tasks.length := by omega
     have hjl : j = k.tasks.length := by omega
     subst hjl
     rw [List.take_length] at hL1 hL2
     obtain ⟨Q2, n2, m2, rfl⟩ := hL1.shape
     obtain ⟨Q3, n3, m3, rfl⟩ := hL2.shape
     have u0 : wr.cell? ⟨w4.heap.size, 0, none⟩ = some (.slice P pn pc) := Whole.cell hrow 0
     have u1 : wr.cell? ⟨w4.heap.size, 1, none⟩ = some (.slice Q2 n2 m2) := Whole.cell hrow 1
     have u2 : wr.cell? ⟨w4.heap.size, 2, none⟩ = some (.slice Q3 n3 m3) := Whole.cell hrow 2
     have u3 : wr.cell? ⟨w4.heap.size, 3, none⟩ = some (.int .i64 k.ticks) := Whole.cell hrow 3
     have u4 : wr.cell? ⟨w4.heap.size, 4, none⟩ = some (.int .i64 k.ops) := Whole.cell hrow 4
     have HL1 := zh hL1
     have HL2 := zh hL2
     have HBR := zh hbr
     have HG1 := zh hg1
     have HG2 := zh hg2
     clear hL1 hL2 hrow hbr hg1 hg2
     have wr' := HWR4.out.same (HBR.out.block _ (show w.heap.size + 1 < w4.heap.size by omega))
     have d0 := wr'.cell 0
     have d1 := wr'.cell 1
     have d2 := wr'.cell 2
     have d3 := wr'.cell 3
     have d4 := wr'.cell 4
     have f0 := wr'.frozen 0
     have f1 := wr'.frozen 1
     have f2 := wr'.frozen 2
     have f3 := wr'.frozen 3
     have f4 := wr'.frozen 4
     simp only [za, zb, zc] at d0 d1 d2 d3 d4
     have hbl := HBR.out.size
     have WF := zh wr'
     clear wr'
     go_wp2_with fail
     have wf := ((((WF.out.put 0 (.slice P pn pc)).put 1 (.slice Q2 n2 m2)).put 2 (.slice Q3 n3 m3)).put 3 (.int .i64 k.ticks)).put 4 (.int .i64 k.ops)
     have hsame : ∀ b, b ≠ w.heap.size + 1 → (((((wr.setCell ⟨w.heap.size + 1, 0, none⟩ (.slice P pn pc)).setCell ⟨w.heap.size + 1, 1, none⟩ (.slice Q2 n2 m2)).setCell ⟨w.heap.size + 1, 2, none⟩ (.slice Q3 n3 m3)).setCell ⟨w.heap.size + 1, 3, none⟩ (.int .i64 k.ticks)).setCell ⟨w.heap.size + 1, 4, none⟩ (.int .i64 k.ops)).heap[b]? = wr.heap[b]? := fun b hb => by
      rw [zk _ _ _ _ hb, zk _ _ _ _ hb, zk _ _ _ _ hb, zk _ _ _ _ hb, zk _ _ _ _ hb]
     refine bodyPost_ret (v := .tuple #[.agg #[.slice P pn pc, .slice Q2 n2 m2, .slice Q3 n3 m3, .int .i64 k.ticks, .int .i64 k.ops], .int .i64 0]) (results_pair rfl _ _ (w.heap.size + 1) 36 _ (0, 0) _ rfl wf Try.underlying36 (by kernel_rfl) rfl) rfl ?_
     rw [← HKE.out]
     have hkf := (HK4.out.below HBR.out).same (w' := ((((wr.setCell ⟨w.heap.size + 1, 0, none⟩ (.slice P pn pc)).setCell ⟨w.heap.size + 1, 1, none⟩ (.slice Q2 n2 m2)).setCell ⟨w.heap.size + 1, 2, none⟩ (.slice Q3 n3 m3)).setCell ⟨w.heap.size + 1, 3, none⟩ (.int .i64 k.ticks)).setCell ⟨w.heap.size + 1, 4, none⟩ (.int .i64 k.ops)) fun g hg _ => hsame g (by omega)
     refine ⟨L', _, _, _, g1, g2, ?_, HV1.out.symm, HL1.out.keep_at fun b e => hsame b ?_, HL2.out.keep_at fun b e => hsame b ?_, rfl, ?_⟩
     ·exact ⟨hkf.cont, hkf.apart, fun c hc => by have := hkf.low c hc; omega, hkf.nil, hkf.lens, hkf.few⟩
     ·have := (HG1.out b e).1
      omega
     ·have := HG2.out b e
      omega
     ·exact (((((HB4.out.trans (HBR.out.mono (by omega))).setCell (by show w.heap.size ≤ w.heap.size + 1; omega) _).setCell (by show w.heap.size ≤ w.heap.size + 1; omega) _).setCell (by show w.heap.size ≤ w.heap.size + 1; omega) _).setCell (by show w.heap.size ≤ w.heap.size + 1; omega) _).setCell (by show w.heap.size ≤ w.heap.size + 1; omega) _
  exact AllReadyH.nil
 exact AllReadyH.nil
end Go.Proofs.Ytncbgnpoffolcaa
