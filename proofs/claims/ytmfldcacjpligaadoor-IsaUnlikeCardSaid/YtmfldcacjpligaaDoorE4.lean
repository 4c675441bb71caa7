/-
  IsaUnlike: the walk of the law.
-/
import Derived.Test.YtmfldcacjpligaaDoorE0
namespace Go.Proofs.YtmfldcacjpligaaDoor
open Go.RowKit Go.Sort
theorem enc_unlike {i j : Is.Ins} {x : Int} (hi : Is.enc i = (x, 0)) (hj : Is.enc j = (x, 0)) : i = j := Option.some.inj ((Is.dec_enc hi).1.symm.trans (Is.dec_enc hj).1)
theorem enc_top {i : Is.Ins} {x : Int} (h : Is.enc i = (x, 0)) : x / 16777216 = i.op ∧ 0 ≤ x ∧ x < 4294967296 := ⟨(Is.dec_enc h).2.2.2, (Is.dec_enc h).2.1, (Is.dec_enc h).2.2.1⟩
theorem text_mk {i j : Is.Ins} (hi : (Is.enc i).2 = 0) (hj : (Is.enc j).2 = 0) (h : (⟨(Is.text i).toArray⟩ : ByteArray) = ⟨(Is.text j).toArray⟩) : i = j := Is.text_inj hi hj (by have := congrArg bytesOf h; exact this)
set_option maxRecDepth 100000 in
set_option maxHeartbeats 8000000 in
theorem isaUnlike_any (i j : Is.Ins) (w : World) (ht : Tabs w) : Calls Tryd.prog 3 #[insV i, insV j] w (Yes w) := by
  have SI := fun W (h : Tabs W) => show_lit i W h
  have SJ := fun W (h : Tabs W) => show_lit j W h
  obtain ⟨TI, eTI⟩ : ∃ T : ByteArray, (⟨(Is.text i).toArray⟩ : ByteArray) = T := ⟨_, rfl⟩
  obtain ⟨TJ, eTJ⟩ : ∃ T : ByteArray, (⟨(Is.text j).toArray⟩ : ByteArray) = T := ⟨_, rfl⟩
  rw [eTI] at SI
  rw [eTJ] at SJ
  obtain ⟨⟨x, e⟩, hx⟩ : ∃ p, Is.enc i = p := ⟨_, rfl⟩
  obtain ⟨⟨y, f⟩, hy⟩ : ∃ p, Is.enc j = p := ⟨_, rfl⟩
  have CI := enc_lit hx
  have CJ := enc_lit hy
  have HX := Lib.hid hx
  have HY := Lib.hid hy
  have HTI := Lib.hid eTI
  have HTJ := Lib.hid eTJ
  clear hx hy eTI eTJ
  by_cases he : e = 0
  rotate_left
  · have ee : (e == 0) = false := ne_eq he
    have ee' : (e != 0) = true := by rw [bne_iff_ne]; exact he
    clear he
    obtain ⟨op, a, b, c, m⟩ := i
    obtain ⟨op', a', b', c', m'⟩ := j
    unfold insV at CI CJ ⊢
    have hb1 := ((Below.refl w.heap.size w).alloc (Nat.le_refl _) (.cells #[.int .i64 op, .int .i64 a, .int .i64 b, .int .i64 c, .int .i64 m] 23)).alloc (by simp) (.cells #[.int .i64 op', .int .i64 a', .int .i64 b', .int .i64 c', .int .i64 m'] 23)
    have wa := (Whole.made w 23 #[.int .i64 op, .int .i64 a, .int .i64 b, .int .i64 c, .int .i64 m]).alloc (.cells #[.int .i64 op', .int .i64 a', .int .i64 b', .int .i64 c', .int .i64 m'] 23)
    have wb : Whole ((w.alloc (.cells #[.int .i64 op, .int .i64 a, .int .i64 b, .int .i64 c, .int .i64 m] 23)).alloc (.cells #[.int .i64 op', .int .i64 a', .int .i64 b', .int .i64 c', .int .i64 m'] 23)) (w.heap.size + 1) 23 #[.int .i64 op', .int .i64 a', .int .i64 b', .int .i64 c', .int .i64 m'] := by
      have h := Whole.made (w.alloc (.cells #[.int .i64 op, .int .i64 a, .int .i64 b, .int .i64 c, .int .i64 m] 23)) 23 #[.int .i64 op', .int .i64 a', .int .i64 b', .int .i64 c', .int .i64 m']
      rw [show (w.alloc (.cells #[.int .i64 op, .int .i64 a, .int .i64 b, .int .i64 c, .int .i64 m] 23)).heap.size = w.heap.size + 1 by simp] at h
      exact h
    have HT := Lib.hid (ht.below hb1)
    clear ht SI SJ
    go_enter Tryd.func3, Tryd.ntmps3
    go_wp2_with fail
    refine (alive_any _ HT.out).mono ?_
    rintro e w2 ⟨rfl, hb2⟩
    have hb12 := hb1.trans (hb2.mono (by simp; omega))
    have wa2 := wa.same (hb2.block _ (by simp; omega))
    have wb2 := wb.same (hb2.block _ (by simp))
    have k0 := wa2.cell 0
    have k1 := wa2.cell 1
    have k2 := wa2.cell 2
    have k3 := wa2.cell 3
    have k4 := wa2.cell 4
    simp at k0 k1 k2 k3 k4
    go_wp2_with fail
    refine (CI _).mono ?_
    rintro e w3 ⟨rfl, hb3⟩
    have hb13 := hb12.trans (hb3.mono hb12.size)
    have wb3 := wb2.same (hb3.block _ wb2.lt)
    clear k0 k1 k2 k3 k4
    have k0 := wb3.cell 0
    have k1 := wb3.cell 1
    have k2 := wb3.cell 2
    have k3 := wb3.cell 3
    have k4 := wb3.cell 4
    simp at k0 k1 k2 k3 k4
    go_wp2_with fail
    refine (CJ _).mono ?_
    rintro e w4 ⟨rfl, hb4⟩
    go_wp2_with fail
    refine (num_any _ _).mono ?_
    rintro e w' ⟨rfl, rfl⟩
    go_wp2_with fail
    go_ret
    exact ⟨rfl, hb13.trans (hb4.mono hb13.size)⟩
  subst he
  by_cases hf : f = 0
  rotate_left
  · have ee : (f == 0) = false := ne_eq hf
    have ee' : (f != 0) = true := by rw [bne_iff_ne]; exact hf
    clear hf
    obtain ⟨op, a, b, c, m⟩ := i
    obtain ⟨op', a', b', c', m'⟩ := j
    unfold insV at CI CJ ⊢
    have hb1 := ((Below.refl w.heap.size w).alloc (Nat.le_refl _) (.cells #[.int .i64 op, .int .i64 a, .int .i64 b, .int .i64 c, .int .i64 m] 23)).alloc (by simp) (.cells #[.int .i64 op', .int .i64 a', .int .i64 b', .int .i64 c', .int .i64 m'] 23)
    have wa := (Whole.made w 23 #[.int .i64 op, .int .i64 a, .int .i64 b, .int .i64 c, .int .i64 m]).alloc (.cells #[.int .i64 op', .int .i64 a', .int .i64 b', .int .i64 c', .int .i64 m'] 23)
    have wb : Whole ((w.alloc (.cells #[.int .i64 op, .int .i64 a, .int .i64 b, .int .i64 c, .int .i64 m] 23)).alloc (.cells #[.int .i64 op', .int .i64 a', .int .i64 b', .int .i64 c', .int .i64 m'] 23)) (w.heap.size + 1) 23 #[.int .i64 op', .int .i64 a', .int .i64 b', .int .i64 c', .int .i64 m'] := by
      have h := Whole.made (w.alloc (.cells #[.int .i64 op, .int .i64 a, .int .i64 b, .int .i64 c, .int .i64 m] 23)) 23 #[.int .i64 op', .int .i64 a', .int .i64 b', .int .i64 c', .int .i64 m']
      rw [show (w.alloc (.cells #[.int .i64 op, .int .i64 a, .int .i64 b, .int .i64 c, .int .i64 m] 23)).heap.size = w.heap.size + 1 by simp] at h
      exact h
    have HT := Lib.hid (ht.below hb1)
    clear ht SI SJ
    go_enter Tryd.func3, Tryd.ntmps3
    go_wp2_with fail
    refine (alive_any _ HT.out).mono ?_
    rintro e w2 ⟨rfl, hb2⟩
    have hb12 := hb1.trans (hb2.mono (by simp; omega))
    have wa2 := wa.same (hb2.block _ (by simp; omega))
    have wb2 := wb.same (hb2.block _ (by simp))
    have k0 := wa2.cell 0
    have k1 := wa2.cell 1
    have k2 := wa2.cell 2
    have k3 := wa2.cell 3
    have k4 := wa2.cell 4
    simp at k0 k1 k2 k3 k4
    go_wp2_with fail
    refine (CI _).mono ?_
    rintro e w3 ⟨rfl, hb3⟩
    have hb13 := hb12.trans (hb3.mono hb12.size)
    have wb3 := wb2.same (hb3.block _ wb2.lt)
    clear k0 k1 k2 k3 k4
    have k0 := wb3.cell 0
    have k1 := wb3.cell 1
    have k2 := wb3.cell 2
    have k3 := wb3.cell 3
    have k4 := wb3.cell 4
    simp at k0 k1 k2 k3 k4
    go_wp2_with fail
    refine (CJ _).mono ?_
    rintro e w4 ⟨rfl, hb4⟩
    go_wp2_with fail
    refine (num_any _ _).mono ?_
    rintro e w' ⟨rfl, rfl⟩
    go_wp2_with fail
    refine (num_any _ _).mono ?_
    rintro e w' ⟨rfl, rfl⟩
    go_wp2_with fail
    go_ret
    exact ⟨rfl, hb13.trans (hb4.mono hb13.size)⟩
  subst hf
  obtain ⟨xt, x0, x1⟩ := enc_top HX.out
  have UN : Hid (i = j ∨ (i ≠ j ∧ x ≠ y ∧ TI ≠ TJ)) := by
    show _ ∨ _
    by_cases h : i = j
    · exact .inl h
    · refine .inr ⟨h, ?_, ?_⟩
      · rintro rfl
        exact h (enc_unlike HX.out HY.out)
      · intro e
        exact h (text_mk (by rw [HX.out]) (by rw [HY.out]) ((HTI.out.trans e).trans HTJ.out.symm))
  have SAME : Hid (i = j → x = y ∧ TI = TJ) := by
    show _ → _
    rintro rfl
    exact ⟨congrArg Prod.fst (HX.out.symm.trans HY.out), HTI.out.symm.trans HTJ.out⟩
  obtain ⟨op, a, b, c, m⟩ := i
  obtain ⟨op', a', b', c', m'⟩ := j
  dsimp only at xt
  unfold insV at CI CJ SI SJ ⊢
  have hb1 := ((Below.refl w.heap.size w).alloc (Nat.le_refl _) (.cells #[.int .i64 op, .int .i64 a, .int .i64 b, .int .i64 c, .int .i64 m] 23)).alloc (by simp) (.cells #[.int .i64 op', .int .i64 a', .int .i64 b', .int .i64 c', .int .i64 m'] 23)
  have wa := (Whole.made w 23 #[.int .i64 op, .int .i64 a, .int .i64 b, .int .i64 c, .int .i64 m]).alloc (.cells #[.int .i64 op', .int .i64 a', .int .i64 b', .int .i64 c', .int .i64 m'] 23)
  have wb : Whole ((w.alloc (.cells #[.int .i64 op, .int .i64 a, .int .i64 b, .int .i64 c, .int .i64 m] 23)).alloc (.cells #[.int .i64 op', .int .i64 a', .int .i64 b', .int .i64 c', .int .i64 m'] 23)) (w.heap.size + 1) 23 #[.int .i64 op', .int .i64 a', .int .i64 b', .int .i64 c', .int .i64 m'] := by
    have h := Whole.made (w.alloc (.cells #[.int .i64 op, .int .i64 a, .int .i64 b, .int .i64 c, .int .i64 m] 23)) 23 #[.int .i64 op', .int .i64 a', .int .i64 b', .int .i64 c', .int .i64 m']
    rw [show (w.alloc (.cells #[.int .i64 op, .int .i64 a, .int .i64 b, .int .i64 c, .int .i64 m] 23)).heap.size = w.heap.size + 1 by simp] at h
    exact h
  have HT := Lib.hid (ht.below hb1)
  have XT := Lib.hid xt
  clear ht xt
  go_enter Tryd.func3, Tryd.ntmps3
  go_wp2_with fail
  refine (alive_any _ HT.out).mono ?_
  rintro e w2 ⟨rfl, hb2⟩
  have hb12 := hb1.trans (hb2.mono (by simp; omega))
  have wa2 := wa.same (hb2.block _ (by simp; omega))
  have wb2 := wb.same (hb2.block _ (by simp))
  have k0 := wa2.cell 0
  have k1 := wa2.cell 1
  have k2 := wa2.cell 2
  have k3 := wa2.cell 3
  have k4 := wa2.cell 4
  simp at k0 k1 k2 k3 k4
  go_wp2_with fail
  refine (CI _).mono ?_
  rintro e w3 ⟨rfl, hb3⟩
  have hb13 := hb12.trans (hb3.mono hb12.size)
  have wa3 := wa2.same (hb3.block _ wa2.lt)
  have wb3 := wb2.same (hb3.block _ wb2.lt)
  clear k0 k1 k2 k3 k4
  have k0 := wb3.cell 0
  have k1 := wb3.cell 1
  have k2 := wb3.cell 2
  have k3 := wb3.cell 3
  have k4 := wb3.cell 4
  simp at k0 k1 k2 k3 k4
  go_wp2_with fail
  refine (CJ _).mono ?_
  rintro e w4 ⟨rfl, hb4⟩
  have hb24 := hb2.trans ((hb3.mono hb2.size).trans (hb4.mono (hb2.trans (hb3.mono hb2.size)).size))
  have hb14 := hb13.trans (hb4.mono hb13.size)
  have wa4 := wa3.same (hb4.block _ wa3.lt)
  have wb4 := wb3.same (hb4.block _ wb3.lt)
  clear k0 k1 k2 k3 k4
  have k0 := wa4.cell 0
  have k1 := wa4.cell 1
  have k2 := wa4.cell 2
  have k3 := wa4.cell 3
  have k4 := wa4.cell 4
  have l0 := wb4.cell 0
  have l1 := wb4.cell 1
  have l2 := wb4.cell 2
  have l3 := wb4.cell 3
  have l4 := wb4.cell 4
  simp at k0 k1 k2 k3 k4 l0 l1 l2 l3 l4
  have T4 := HT.out.below hb24
  go_wp2_with fail
  refine (num_any _ _).mono ?_
  rintro e w' ⟨rfl, rfl⟩
  go_wp2_with fail
  refine (num_any _ _).mono ?_
  rintro e w' ⟨rfl, rfl⟩
  have q0 := fun d os => cell_regrown k0 d os
  have q1 := fun d os => cell_regrown k1 d os
  have q2 := fun d os => cell_regrown k2 d os
  have q3 := fun d os => cell_regrown k3 d os
  have q4 := fun d os => cell_regrown k4 d os
  have r0 := fun d os => cell_regrown l0 d os
  have r1 := fun d os => cell_regrown l1 d os
  have r2 := fun d os => cell_regrown l2 d os
  have r3 := fun d os => cell_regrown l3 d os
  have r4 := fun d os => cell_regrown l4 d os
  have cI := fun d os => Calls.regrown_of (SI _ (T4.regrown d os))
  have cJ := fun d os => Calls.regrown_of (SJ _ (T4.regrown d os))
  have CSI := Lib.hid cI
  have CSJ := Lib.hid cJ
  clear k0 k1 k2 k3 k4 l0 l1 l2 l3 l4 cI cJ SI SJ T4 wa4 wb4 wa3 wb3 wa2 wb2 CI CJ
  go_wp2_with fail
  rcases UN.out with hij | ⟨hij, hxy, htt⟩
  · obtain ⟨rfl, rfl⟩ := SAME.out hij
    injection hij with e1 e2 e3 e4 e5
    subst e1 e2 e3 e4 e5
    have eop : x / 16777216 = op := XT.out
    refine wp_region_quiet_below (by kernel_rfl) (by kernel_rfl) ?_
    go_big_quiet_step (fail)
    go_big_quiet_step (fail)
    go_big_quiet_step (fail)
    go_big_quiet_step (fail)
    go_big_quiet_step (fail)
    go_big_quiet_step (fail)
    go_big_quiet_step (fail)
    go_big_quiet_step (fail)
    go_big_quiet_step (fail)
    go_big_quiet_step ((go_at_call 14; exact CSI.out _ _))
    go_big_quiet_step (fail)
    go_big_quiet_step ((go_at_call 14; exact CSJ.out _ _))
    go_big_quiet_step (fail)
    go_big_quiet_step (fail)
    go_big_quiet_step (fail)
    go_big_quiet_step (fail)
    go_big_quiet_step (fail)
    go_big_quiet_step (fail)
    go_big_quiet_step (fail)
    go_big_quiet_step (fail)
    go_big_quiet_step (fail)
    go_big_quiet_step (fail)
    go_big_quiet_step (fail)
    go_big_quiet_step (fail)
    go_big_quiet_step (fail)
    go_big_quiet_step (fail)
    refine wpQuiet_nil ?_
    intro _ hw'
    obtain ⟨⟨dq, osq⟩, hw''⟩ := hw'
    subst hw''
    go_wp2_with fail
    go_ret
    exact ⟨rfl, hb14.trans ((below_regrown w4 dq osq).mono hb14.size)⟩
  · have eop : x / 16777216 = op := XT.out
    have exy : (x == y) = false := ne_eq hxy
    have ett : ¬ TI.toList = TJ.toList := fun e => htt (bytesOf_inj (by unfold bytesOf; rw [← ByteArray.toList_eq, ← ByteArray.toList_eq, e]))
    have ett' : (TI.toList == TJ.toList) = false := by rw [beq_eq_false_iff_ne]; exact ett
    have key : (op == op') = false ∨ ((op == op') = true ∧ (a == a') = false) ∨ ((op == op') = true ∧ (a == a') = true ∧ (b == b') = false) ∨ ((op == op') = true ∧ (a == a') = true ∧ (b == b') = true ∧ (c == c') = false) ∨ ((op == op') = true ∧ (a == a') = true ∧ (b == b') = true ∧ (c == c') = true ∧ (m == m') = false) := by
      simp only [beq_iff_eq, beq_eq_false_iff_ne]
      by_cases h0 : op = op'
      · by_cases h1 : a = a'
        · by_cases h2 : b = b'
          · by_cases h3 : c = c'
            · by_cases h4 : m = m'
              · exact absurd (by rw [h0, h1, h2, h3, h4]) hij
              · exact .inr (.inr (.inr (.inr ⟨h0, h1, h2, h3, h4⟩)))
            · exact .inr (.inr (.inr (.inl ⟨h0, h1, h2, h3⟩)))
          · exact .inr (.inr (.inl ⟨h0, h1, h2⟩))
        · exact .inr (.inl ⟨h0, h1⟩)
      · exact .inl h0
    clear hxy htt hij
    rcases key with b0 | ⟨b0, b1⟩ | ⟨b0, b1, b2⟩ | ⟨b0, b1, b2, b3⟩ | ⟨b0, b1, b2, b3, b4⟩
    all_goals
      refine wp_region_quiet_below (by kernel_rfl) (by kernel_rfl) ?_
      go_big_quiet_step (fail)
      go_big_quiet_step (fail)
      go_big_quiet_step (fail)
      go_big_quiet_step (fail)
      go_big_quiet_step (fail)
      go_big_quiet_step (fail)
      go_big_quiet_step (fail)
      go_big_quiet_step (fail)
      go_big_quiet_step (fail)
      go_big_quiet_step ((go_at_call 14; exact CSI.out _ _))
      go_big_quiet_step (fail)
      go_big_quiet_step ((go_at_call 14; exact CSJ.out _ _))
      go_big_quiet_step (fail)
      go_big_quiet_step (fail)
      go_big_quiet_step (fail)
      go_big_quiet_step (fail)
      go_big_quiet_step (fail)
      go_big_quiet_step (fail)
      go_big_quiet_step (fail)
      go_big_quiet_step (fail)
      go_big_quiet_step (fail)
      go_big_quiet_step (fail)
      go_big_quiet_step (fail)
      go_big_quiet_step (fail)
      go_big_quiet_step (fail)
      go_big_quiet_step (fail)
      refine wpQuiet_nil ?_
      intro _ hw'
      obtain ⟨⟨dq, osq⟩, hw''⟩ := hw'
      subst hw''
      go_wp2_with fail
      go_ret
      exact ⟨rfl, hb14.trans ((below_regrown w4 dq osq).mono hb14.size)⟩
end Go.Proofs.YtmfldcacjpligaaDoor
