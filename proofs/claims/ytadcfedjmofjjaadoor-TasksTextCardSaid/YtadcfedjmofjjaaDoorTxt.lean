/-
  TasksText: the walk of the law.
-/
import Derived.Test.YtadcfedjmofjjaaDoorLent2
import Derived.Test.YtadcfedjmofjjaaDoorU1
import Derived.Lib.QuietBelow
import Derived.BigQuiet
namespace Go.Proofs.YtadcfedjmofjjaaDoor
open Go.RowKit Go.Sort
theorem opsSum_mem {l : List Tk.Task} {x : Tk.Task} (h : x ∈ l) : (x.ops.length : Int) ≤ opsSum l := by
  induction l with
  | nil => simp at h
  | cons y l ih =>
    have h0 : ∀ l : List Tk.Task, 0 ≤ opsSum l := by
      intro l
      induction l with
      | nil => simp [opsSum]
      | cons z l ih => rw [opsSum]; omega
    rw [opsSum]
    rcases List.mem_cons.1 h with rfl | h
    · have := h0 l
      omega
    · have := ih h
      omega
theorem big_no {t : Tk.Table} (h : big t = false) : t.tasks.length ≤ 60 ∧ t.sems.length ≤ 40 ∧ t.queues.length ≤ 40 ∧ ∀ x ∈ t.tasks, x.ops.length ≤ 4000 := by
  unfold big at h
  simp only [Bool.or_eq_false_iff, decide_eq_false_iff_not] at h
  obtain ⟨h1, h2, h3, h4⟩ := h
  refine ⟨by omega, by omega, by omega, fun x hx => ?_⟩
  have := opsSum_mem hx
  omega
theorem TabRd.regrown {w : World} {A1 A2 A3 : Option Addr} {t : Tk.Table} (h : TabRd w w.heap.size A1 A2 A3 t) (d : Nat) (os : Array Obj) : TabRd (grow (redrawn w d) os) (grow (redrawn w d) os).heap.size A1 A2 A3 t :=
  (h.below (below_regrown w d os) (Nat.le_refl _)).more (below_regrown w d os).size
theorem text_empty {t : Tk.Table} (h : t.fits = false) : (⟨(Tk.text t).toArray⟩ : ByteArray) = ⟨#[]⟩ := by
  unfold Tk.text
  rw [h]
  rfl
set_option maxRecDepth 100000 in
set_option maxHeartbeats 8000000 in
theorem tasksText_any {w : World} {A1 A2 A3 : Option Addr} {c1 c2 c3 : Nat} {t : Tk.Table} (hr : TabRd w w.heap.size A1 A2 A3 t) (hbd : ∀ x ∈ t.tasks, (x.ops.length : Int) ≤ 140737488355328) (m0 : Int) (hm : w.cell? ⟨0, 0, none⟩ = some (.int .i64 m0)) (hp : Pow w) :
    Calls Tryd.prog 5 #[.agg #[.slice A1 t.tasks.length c1, .slice A2 t.sems.length c2, .int .i64 t.mutexes, .slice A3 t.queues.length c3]] w
      fun e w' => e = .returned (.bool true) ∧ Below w.heap.size w w' := by
  have hz0 : 0 < w.heap.size := block_lt_of_cell hm
  obtain ⟨T, hT⟩ : ∃ T, T = Obj.cells #[.slice A1 t.tasks.length c1, .slice A2 t.sems.length c2, .int .i64 t.mutexes, .slice A3 t.queues.length c3] 26 := ⟨_, rfl⟩
  have hb1 := (Below.refl w.heap.size w).alloc (Nat.le_refl _) T
  have wh1 : Whole (w.alloc T) w.heap.size 26 #[.slice A1 t.tasks.length c1, .slice A2 t.sems.length c2, .int .i64 t.mutexes, .slice A3 t.queues.length c3] := by rw [hT]; exact Whole.made _ _ _
  have hm1 := (hb1.cell (p := ⟨0, 0, none⟩) hz0).trans hm
  have HM := Lib.hid hm
  have HM1 := Lib.hid hm1
  have HR := Lib.hid hr
  have HP := Lib.hid hp
  have HB := Lib.hid hbd
  have WH1 := Lib.hid wh1
  have HB1 := Lib.hid hb1
  have HT := Lib.hid hT
  clear hr hp hbd hm hm1 wh1 hb1 hT
  go_enter Tryd.func5, Tryd.ntmps5
  go_wp2_with fail
  rw [← HT.out]
  refine (alive_any _ m0 HM1.out).mono ?_
  rintro e w2 ⟨rfl, hb2⟩
  have hb02 := HB1.out.trans (hb2.mono (by simp))
  have z2 := hb02.size
  have z12 := hb2.size
  simp at z12
  have wh2 := WH1.out.same (hb2.block _ WH1.out.lt)
  have q0 := wh2.cell 0
  have q1 := wh2.cell 1
  have q2 := wh2.cell 2
  have q3 := wh2.cell 3
  simp at q0 q1 q2 q3
  have WH2 := Lib.hid wh2
  clear wh2
  go_wp2_with fail
  refine (big_any ((HR.out.below hb02 (Nat.le_refl _)).more z2) HB.out).mono ?_
  rintro e w3 ⟨rfl, hb3⟩
  have hb03 := hb02.trans (hb3.mono z2)
  have z3 := hb03.size
  have z23 := hb3.size
  have wh3 := WH2.out.same (hb3.block _ (by omega))
  have WH3 := Lib.hid wh3
  clear q0 q1 q2 q3
  have q0 := wh3.cell 0
  have q1 := wh3.cell 1
  have q2 := wh3.cell 2
  have q3 := wh3.cell 3
  simp at q0 q1 q2 q3
  clear wh3
  rcases hbig : big t with _ | _
  rotate_left
  · go_wp2_with fail
    go_ret
    exact ⟨rfl, hb03⟩
  obtain ⟨bt1, bt2, bt3, bt4⟩ := big_no hbig
  have BT4 := Lib.hid bt4
  have HB03 := Lib.hid hb03
  clear hbig bt4 hb02 hb2 hb3 hb03
  go_wp2_with fail
  refine (lent_any ((HR.out.below HB03.out (Nat.le_refl _)).more z3) bt1 bt2 bt3 BT4.out).mono ?_
  rintro e w4 ⟨V1, V2, V3, rfl, hV, hb4⟩
  obtain ⟨B1, d1, hV1, _, _⟩ := hV.len
  obtain ⟨B2, d2, hV2, _, _⟩ := row_slice hV.sems
  obtain ⟨B3, d3, hV3, _, _⟩ := row_slice hV.queues
  subst hV1 hV2 hV3
  have z34 := hb4.size
  obtain ⟨w5, hw5⟩ : ∃ w5, w5 = w4.alloc (.cells #[.slice B1 t.tasks.length d1, .slice B2 t.sems.length d2, .int .i64 t.mutexes, .slice B3 t.queues.length d3] 26) := ⟨_, rfl⟩
  have b5 : Below w4.heap.size w4 w5 := by rw [hw5]; exact (Below.refl _ _).alloc (Nat.le_refl _) _
  have bx5 : Whole w5 w4.heap.size 26 #[.slice B1 t.tasks.length d1, .slice B2 t.sems.length d2, .int .i64 t.mutexes, .slice B3 t.queues.length d3] := by rw [hw5]; exact Whole.made _ _ _
  have wh5 := WH3.out.same (((hb4.trans (b5.mono z34))).block _ (by have := WH3.out.lt; omega))
  have hb05 := HB03.out.trans ((hb4.trans (b5.mono z34)).mono z3)
  have z05 := hb05.size
  have RV5 := Lib.hid ((hV.reads.1.below b5 (Nat.le_refl _)).more b5.size)
  have HB05 := Lib.hid hb05
  have WH5 := Lib.hid wh5
  have BX5 := Lib.hid bx5
  have HW5 := Lib.hid hw5
  have r0 := bx5.cell 0
  have r1 := bx5.cell 1
  have r2 := bx5.cell 2
  have r3 := bx5.cell 3
  simp at r0 r1 r2 r3
  clear q0 q1 q2 q3 hw5 b5 bx5 wh5 hb05 hV hb4
  go_wp2_with fail
  rw [← HW5.out]
  refine (check_any RV5.out).mono ?_
  rintro e w6 ⟨rfl, hb6⟩
  have hz56 := hb6.size
  have RV6 := Lib.hid ((RV5.out.below hb6 (Nat.le_refl _)).more hb6.size)
  have HB06 := Lib.hid (HB05.out.trans (hb6.mono z05))
  have z06 := HB06.out.size
  have BX6 := Lib.hid (BX5.out.same (hb6.block _ BX5.out.lt))
  have WH6 := Lib.hid (WH5.out.same (hb6.block _ WH5.out.lt))
  clear r0 r1 r2 r3 hb6
  have r0 := BX6.out.cell 0
  have r1 := BX6.out.cell 1
  have r2 := BX6.out.cell 2
  have r3 := BX6.out.cell 3
  simp at r0 r1 r2 r3
  obtain ⟨cc, hcc⟩ : ∃ cc, chk t = cc := ⟨_, rfl⟩
  have HCC := Lib.hid hcc
  rw [hcc]
  clear hcc
  go_wp2_with fail
  refine (text_any RV6.out (HP.out.below HB06.out)).mono ?_
  rintro e w7 ⟨rfl, hb7, hlen⟩
  obtain ⟨X, hX⟩ : ∃ X : ByteArray, X = ⟨(Tk.text t).toArray⟩ := ⟨_, rfl⟩
  have hXb : Hid (bytesOf X = Tk.text t) := by show _ = _; rw [hX, bytesOf_mk]
  have hXs : X.size ≤ 900000 := by rw [← bytesOf_len, hXb.out]; omega
  rw [← hX]
  have HX := Lib.hid hX
  have hz67 := hb7.size
  have RV7 := Lib.hid ((RV6.out.below hb7 (Nat.le_refl _)).more hb7.size)
  have HB07 := Lib.hid (HB06.out.trans (hb7.mono z06))
  have z07 := HB07.out.size
  have BX7 := Lib.hid (BX6.out.same (hb7.block _ BX6.out.lt))
  have WH7 := Lib.hid (WH6.out.same (hb7.block _ WH6.out.lt))
  have RA7 := Lib.hid ((HR.out.below HB07.out (Nat.le_refl _)).more z07)
  clear r0 r1 r2 r3 hb7 hX hlen
  have a0 := WH7.out.cell 0
  have a1 := WH7.out.cell 1
  have a2 := WH7.out.cell 2
  have a3 := WH7.out.cell 3
  have r0 := BX7.out.cell 0
  have r1 := BX7.out.cell 1
  have r2 := BX7.out.cell 2
  have r3 := BX7.out.cell 3
  simp at a0 a1 a2 a3 r0 r1 r2 r3
  have qa0 := fun d os => cell_regrown a0 d os
  have qa1 := fun d os => cell_regrown a1 d os
  have qa2 := fun d os => cell_regrown a2 d os
  have qa3 := fun d os => cell_regrown a3 d os
  have qr0 := fun d os => cell_regrown r0 d os
  have qr1 := fun d os => cell_regrown r1 d os
  have qr2 := fun d os => cell_regrown r2 d os
  have qr3 := fun d os => cell_regrown r3 d os
  have C11 := Lib.hid (fun d os => Calls.regrown_of (d := d) (os := os) (w := w7) ((num_any cc (grow (redrawn w7 d) os)).mono (fun e w' (h : e = .returned (.int .i64 cc) ∧ grow (redrawn w7 d) os = w') => ⟨h.1, h.2 ▸ Below.refl _ _⟩)))
  have C14 := Lib.hid (fun d os => Calls.regrown_of (d := d) (os := os) (w := w7) (rcheck_any (c1 := c1) (c2 := c2) (c3 := c3) (RA7.out.regrown d os)))
  have C15 := Lib.hid (fun d os => Calls.regrown_of (d := d) (os := os) (w := w7) (v := .string X) ((rtext_any (c1 := c1) (c2 := c2) (c3 := c3) (RA7.out.regrown d os)).mono (fun e w' h => by obtain ⟨S, h1, h2, _, h4⟩ := h; have hS : S = X := bytesOf_inj (h2.trans hXb.out.symm); rw [hS] at h1; exact ⟨h1, h4⟩)))
  have C12 := Lib.hid (fun d os => Calls.regrown_of (d := d) (os := os) (w := w7) (sameTable_any (a1 := d1) (a2 := d2) (a3 := d3) (b1 := c1) (b2 := c2) (b3 := c3) (RV7.out.regrown d os) (RA7.out.regrown d os)))
  rw [HCC.out] at C14
  clear a0 a1 a2 a3 r0 r1 r2 r3
  go_wp2_with fail
  refine wp_region_quiet_below (by kernel_rfl) (by kernel_rfl) ?_
  go_big_quiet_step (fail)
  go_big_quiet_step ((go_at_call 11; exact C11.out _ _))
  go_big_quiet_step (fail)
  go_big_quiet_step ((go_at_call 14; exact C14.out _ _))
  go_big_quiet_step (fail)
  go_big_quiet_step (fail)
  go_big_quiet_step (fail)
  go_big_quiet_step (fail)
  go_big_quiet_step ((go_at_call 15; exact C15.out _ _))
  go_big_quiet_step (fail)
  go_big_quiet_step (fail)
  go_big_quiet_step (fail)
  go_big_quiet_step (fail)
  go_big_quiet_step (fail)
  go_big_quiet_step ((go_at_call 12; exact C12.out _ _))
  go_big_quiet_step (fail)
  go_big_quiet_step (fail)
  refine wpQuiet_nil ?_
  intro _ hw'
  obtain ⟨⟨dq, osq⟩, hw''⟩ := hw'
  subst hw''
  have hb78 := below_regrown w7 dq osq
  generalize grow (redrawn w7 dq) osq = w8 at *
  clear C11 C14 C15 C12 qa0 qa1 qa2 qa3 qr0 qr1 qr2 qr3
  have hz78 := hb78.size
  have WH8 := Lib.hid (WH7.out.same (hb78.block _ WH7.out.lt))
  have RA8 := Lib.hid ((RA7.out.below hb78 (Nat.le_refl _)).more hz78)
  have HB08 := Lib.hid (HB07.out.trans (hb78.mono z07))
  have z08 := HB08.out.size
  clear hb78
  rcases hf : t.fits with _ | _
  · have e1 : cc = 20 := by rw [← HCC.out]; exact chk_no hf
    have e2 := Lib.hid (HX.out.trans (text_empty hf))
    subst e1
    clear hf
    go_wp2_with fail
    refine (num_any 20 _).mono ?_
    rintro e w9 ⟨rfl, rfl⟩
    have e3 : X.toList = [] := by rw [e2.out, ByteArray.toList_eq]
    have e4 : X.toList.isEmpty = true := by rw [e3]; rfl
    go_wp2_with fail
    go_ret
    exact ⟨rfl, HB08.out⟩
  · have e1 : cc = 0 := by rw [← HCC.out]; exact chk_yes hf
    have HF := Lib.hid hf
    have HXP := Lib.hid (show Tk.parse (bytesOf X) = (t, 0, 0) by rw [hXb.out]; exact Tk.parse_text hf)
    subst e1
    clear hf
    go_wp2_with fail
    refine (num_any 0 _).mono ?_
    rintro e w9 ⟨rfl, rfl⟩
    have m8 := Lib.hid ((HB08.out.cell (p := ⟨0, 0, none⟩) hz0).trans HM.out)
    go_wp2_with fail
    refine (parse_any X w8 hXs m0 m8.out).mono ?_
    rintro e w9 ⟨U1, U2, U3, rfl, hu, hb9⟩
    rw [HXP.out] at hu ⊢
    dsimp only at hu ⊢
    obtain ⟨E1, j1, hU1, _, _⟩ := hu.len
    obtain ⟨E2, j2, hU2, _, _⟩ := row_slice hu.sems
    obtain ⟨E3, j3, hU3, _, _⟩ := row_slice hu.queues
    subst hU1 hU2 hU3
    have hz89 := hb9.size
    obtain ⟨wa, hwa⟩ : ∃ wa, wa = w9.alloc (.cells #[.slice E1 t.tasks.length j1, .slice E2 t.sems.length j2, .int .i64 t.mutexes, .slice E3 t.queues.length j3] 26) := ⟨_, rfl⟩
    have ba : Below w9.heap.size w9 wa := by rw [hwa]; exact (Below.refl _ _).alloc (Nat.le_refl _) _
    have bxa : Whole wa w9.heap.size 26 #[.slice E1 t.tasks.length j1, .slice E2 t.sems.length j2, .int .i64 t.mutexes, .slice E3 t.queues.length j3] := by rw [hwa]; exact Whole.made _ _ _
    have bal : Below w8.heap.size w8 wa := hb9.trans (ba.mono hz89)
    have RUa := Lib.hid ((hu.reads.1.below ba (Nat.le_refl _)).more ba.size)
    have RAa := Lib.hid ((RA8.out.below bal (Nat.le_refl _)).more bal.size)
    have WHa := WH8.out.same (bal.block _ WH8.out.lt)
    have HBa := Lib.hid (HB08.out.trans (bal.mono z08))
    have hza := HBa.out.size
    have x0 := WHa.cell 0
    have x1 := WHa.cell 1
    have x2 := WHa.cell 2
    have x3 := WHa.cell 3
    have y0 := bxa.cell 0
    have y1 := bxa.cell 1
    have y2 := bxa.cell 2
    have y3 := bxa.cell 3
    simp at x0 x1 x2 x3 y0 y1 y2 y3
    have HWa := Lib.hid hwa
    clear hwa hu hb9 ba bxa bal WHa
    go_wp2_with fail
    rw [← HWa.out]
    refine (num_any 0 _).mono ?_
    rintro e w10 ⟨rfl, rfl⟩
    go_wp2_with fail
    refine (sameTable_any RUa.out RAa.out).mono ?_
    rintro e w11 ⟨rfl, hb11⟩
    go_wp2_with fail
    go_ret
    exact ⟨rfl, HBa.out.trans (hb11.mono hza)⟩
end Go.Proofs.YtadcfedjmofjjaaDoor
