/-
  TasksParse: the walk of the law.
-/
import Derived.Test.YtadcfedjmofjjaaDoorA1
namespace Go.Proofs.YtadcfedjmofjjaaDoor
open Go.RowKit
/-- A row of one's own, whatever it holds. -/
def Loose (w : World) (B : Nat) (e : TypeId) (size : Nat) (v : Value) (n : Nat) : Prop := ∃ xs, w.ownsRow B e size v n xs
theorem Loose.set {w : World} {B : Nat} {e : TypeId} {size n g j : Nat} {v u : Value} (h : Loose w B e size v n) : Loose (w.setCell ⟨g, j, none⟩ u) B e size v n := by
  obtain ⟨xs, h⟩ := h
  by_cases hv : v.ownBlock = some g
  · rcases h.2 with ⟨rfl, _⟩ | ⟨g', cap, cur, rfl, _⟩
    · simp [Value.ownBlock] at hv
    · have hg : g' = g := by simpa [Value.ownBlock] using hv
      subst hg
      exact ⟨_, (h.stored j u).1⟩
  · exact ⟨xs, row_same h fun k hk => Below.heap_setCell _ _ _ _ fun e => hv (by rw [hk, e])⟩
/-- A table's tasks, to be written over. -/
structure Takes (w : World) (B : Nat) (V : Value) (n : Nat) (xs : List Value) : Prop where
  row : w.ownsRow B 32 2 V n xs
  ops : ∀ i, i < n → ∃ A m c, xs[i * 2 + 1]? = some (.slice A m c) ∧ Loose w B 34 3 (.slice A m c) m ∧ m ≤ 1000000
theorem Takes.setOp {w : World} {B n g j : Nat} {V u : Value} {xs : List Value} (h : Takes w B V n xs) (hg : V.ownBlock ≠ some g) : Takes (w.setCell ⟨g, j, none⟩ u) B V n xs :=
  ⟨row_same h.row fun k hk => Below.heap_setCell _ _ _ _ fun e => hg (by rw [hk, e]), fun i hi => by
    obtain ⟨A, m, c, h1, h2, h3⟩ := h.ops i hi
    exact ⟨A, m, c, h1, h2.set, h3⟩⟩
theorem Takes.zero {w : World} {B n g c i : Nat} {xs : List Value} (h : Takes w B (.slice (some ⟨g, 0, none⟩) n c) n xs) :
    Takes ((w.setCell ⟨g, i * 2, none⟩ (.int .i64 0)).setCell ⟨g, i * 2 + 1, none⟩ (.slice none 0 0)) B (.slice (some ⟨g, 0, none⟩) n c) n ((xs.set (i * 2) (.int .i64 0)).set (i * 2 + 1) (.slice none 0 0)) := by
  have h1 := (h.row.stored (i * 2) (.int .i64 0)).1
  have h2 := (h1.stored (i * 2 + 1) (.slice none 0 0)).1
  refine ⟨h2, fun j hj => ?_⟩
  obtain ⟨A, m, c', q1, q2, q3⟩ := h.ops j hj
  by_cases e : j = i
  · subst e
    refine ⟨none, 0, 0, ?_, ⟨[], World.ownsRow_nil _ _ _ _⟩, by omega⟩
    have hl : xs.length = n * 2 := h.row.1
    rw [List.getElem?_set_self (by rw [List.length_set]; omega)]
  · refine ⟨A, m, c', ?_, q2.set.set, q3⟩
    rw [List.getElem?_set_ne (by omega), List.getElem?_set_ne (by omega)]
    exact q1
theorem Tasks.takes {w : World} {B : Nat} {V : Value} {l : List (Tk.Task × Value)} (h : Tasks w B V l) (hb : ∀ x ∈ l, x.1.ops.length ≤ 1000000) : Takes w B V l.length (l.flatMap taskC) := by
  refine ⟨h.row, fun i hi => ?_⟩
  have hx : l[i] ∈ l := List.getElem_mem _
  have ho := h.ops _ hx
  obtain ⟨A, c, q, _, _⟩ := row_slice ho
  rw [q] at ho
  refine ⟨A, _, c, (taskC_at l i 1 hi (by omega)).trans ?_, ⟨_, ho⟩, hb _ hx⟩
  show some l[i].2 = _
  rw [q]
theorem parse_bd (s : List UInt8) (hs : s.length ≤ 900000) : Bd (Tk.parse s).1 1000000 := by
  have hnone : Bd Tk.Table.none 1000000 := ⟨by simp [Tk.Table.none], fun x hx => by simp [Tk.Table.none] at hx⟩
  have key : ∀ (ls : List (List UInt8)) (i : Nat) (t : Tk.Table) (st n : Nat) (t' : Tk.Table) (st' : Nat), st ≤ 3 → Bd t n → Tk.linesRun ls i t st = .inl (t', st') → Bd t' (n + ls.length) := by
    intro ls
    induction ls with
    | nil => intro i t st n t' st' _ hb h; injection h with h; injection h with h1 h2; subst h1; exact hb
    | cons l ls ih =>
      intro i t st n t' st' hst hb h
      rw [Tk.linesRun] at h
      rcases hl : Tk.line t st l with _ | ⟨u, su⟩
      · rw [hl] at h; cases h
      · rw [hl] at h
        obtain ⟨q1, q2⟩ := line_bd hst hb hl
        have := ih _ _ _ _ _ _ q2 q1 h
        rw [List.length_cons]
        exact this.more (by omega)
  have hlen : (Tk.lines s).length ≤ 900001 := by
    rw [lines_parts]
    have h2 : (trim (parts s)).length ≤ (parts s).length := by unfold trim; split <;> simp
    have := (parts_len s).1
    omega
  rcases hr : Tk.linesRun (Tk.lines s) 1 Tk.Table.none 0 with ⟨t, st⟩ | i
  · have hb := key _ _ _ _ 0 _ _ (by omega) ⟨by simp [Tk.Table.none], fun x hx => by simp [Tk.Table.none] at hx⟩ hr
    unfold Tk.parse
    rw [hr]
    dsimp only
    split
    · exact hnone
    · split
      · exact hb.more (by omega)
      · exact hnone
  · unfold Tk.parse
    rw [hr]
    exact hnone
set_option maxRecDepth 100000 in
set_option maxHeartbeats 8000000 in
theorem tasksParse_any (s o : ByteArray) (w : World) (m0 : Int) (hm : w.cell? ⟨0, 0, none⟩ = some (.int .i64 m0)) : Calls Tryd.prog 3 #[.string s, .string o] w fun e w' => e = .returned (.bool true) ∧ Below w.heap.size w w' := by
  have hz0 : 0 < w.heap.size := block_lt_of_cell hm
  by_cases hs : 5000 < s.size
  · have hs' : (5000 : Int) < s.size := by omega
    go_enter Tryd.func3, Tryd.ntmps3
    go_wp2_with fail
    refine (alive_any w m0 hm).mono ?_
    rintro e w1 ⟨rfl, hb⟩
    go_wp2_with fail
    go_ret
    exact ⟨rfl, hb⟩
  have hs' : ¬ (5000 : Int) < s.size := by omega
  by_cases ho : 5000 < o.size
  · have ho' : (5000 : Int) < o.size := by omega
    go_enter Tryd.func3, Tryd.ntmps3
    go_wp2_with fail
    refine (alive_any w m0 hm).mono ?_
    rintro e w1 ⟨rfl, hb⟩
    go_wp2_with fail
    go_ret
    exact ⟨rfl, hb⟩
  have ho' : ¬ (5000 : Int) < o.size := by omega
  have HM := Lib.hid hm
  clear hm
  go_enter Tryd.func3, Tryd.ntmps3
  go_wp2_with fail
  refine (alive_any w m0 HM.out).mono ?_
  rintro e w1 ⟨rfl, hb1⟩
  have m1 := (hb1.cell (p := ⟨0, 0, none⟩) hz0).trans HM.out
  have z1 := hb1.size
  have M1 := Lib.hid m1
  clear m1
  go_wp2_with fail
  refine (parse_any s w1 (by omega) m0 M1.out).mono ?_
  rintro e w2 ⟨V1, V2, V3, rfl, ht, hb2⟩
  obtain ⟨T, hT⟩ : ∃ T, Tk.parse (bytesOf s) = T := ⟨_, rfl⟩
  rw [hT] at ht ⊢
  obtain ⟨t, at_, er⟩ := T
  dsimp only at ht ⊢
  obtain ⟨A1, n1, hV1, _, _⟩ := ht.len
  obtain ⟨A2, n2, hV2, _, _⟩ := row_slice ht.sems
  obtain ⟨A3, n3, hV3, _, _⟩ := row_slice ht.queues
  subst hV1 hV2 hV3
  have hb12 := hb1.trans (hb2.mono z1)
  have z2 := hb12.size
  have z12 := hb2.size
  obtain ⟨w3, hw3⟩ : ∃ w3, w3 = w2.alloc (.cells #[.slice A1 t.tasks.length n1, .slice A2 t.sems.length n2, .int .i64 t.mutexes, .slice A3 t.queues.length n3] 26) := ⟨_, rfl⟩
  have b3 : Below w2.heap.size w2 w3 := by rw [hw3]; exact (Below.refl _ _).alloc (Nat.le_refl _) _
  have bx3 : Whole w3 w2.heap.size 26 #[.slice A1 t.tasks.length n1, .slice A2 t.sems.length n2, .int .i64 t.mutexes, .slice A3 t.queues.length n3] := by rw [hw3]; exact Whole.made _ _ _
  have hb3 := hb12.trans (b3.mono z2)
  have z3 := hb3.size
  have z23 := bx3.lt
  have m3 := (hb3.cell (p := ⟨0, 0, none⟩) hz0).trans HM.out
  have ht3 := ht.below b3 (Nat.le_refl _)
  have HT := Lib.hid hT
  have HW3 := Lib.hid hw3
  have M3 := Lib.hid m3
  have HT3 := Lib.hid ht3
  have BX3 := Lib.hid bx3
  clear hT hw3 m3 ht ht3 bx3 M1
  go_wp2_with fail
  rw [← HW3.out]
  refine (parse_any o w3 (by omega) m0 M3.out).mono ?_
  rintro e w4 ⟨U1, U2, U3, rfl, hu, hb4⟩
  have hub := parse_bd (bytesOf o) (by rw [bytesOf_len]; omega)
  obtain ⟨U, hU⟩ : ∃ U, Tk.parse (bytesOf o) = U := ⟨_, rfl⟩
  rw [hU] at hu hub ⊢
  obtain ⟨u, uat, uer⟩ := U
  dsimp only at hu hub ⊢
  clear hU
  obtain ⟨B1, k1, hU1, _, _⟩ := hu.len
  obtain ⟨B2, k2, hU2, _, _⟩ := row_slice hu.sems
  obtain ⟨B3, k3, hU3, _, _⟩ := row_slice hu.queues
  subst hU1 hU2 hU3
  obtain ⟨l, el, hl⟩ := hu.tasks
  have hln : l.length = u.tasks.length := by rw [← el, List.length_map]
  have htk := hl.takes (fun x hx => hub.2 x.1 (by rw [← el]; exact List.mem_map_of_mem hx))
  rw [hln] at htk
  obtain ⟨n, hn⟩ : ∃ n, n = u.tasks.length := ⟨_, rfl⟩
  have hnb : n ≤ 1000000 := by rw [hn]; exact hub.1
  rw [← hn] at htk ⊢
  generalize l.flatMap taskC = xs at htk
  have z34 := hb4.size
  obtain ⟨w5, hw5⟩ : ∃ w5, w5 = w4.alloc (.cells #[.slice B1 n k1, .slice B2 u.sems.length k2, .int .i64 u.mutexes, .slice B3 u.queues.length k3] 26) := ⟨_, rfl⟩
  have b5 : Below w4.heap.size w4 w5 := by rw [hw5]; exact (Below.refl _ _).alloc (Nat.le_refl _) _
  have bx5 : Whole w5 w4.heap.size 26 #[.slice B1 n k1, .slice B2 u.sems.length k2, .int .i64 u.mutexes, .slice B3 u.queues.length k3] := by rw [hw5]; exact Whole.made _ _ _
  have hb5 : Below w3.heap.size w3 w5 := hb4.trans (b5.mono z34)
  have htk5 : Takes w5 w3.heap.size (.slice B1 n k1) n xs := by
    refine ⟨row_below htk.row b5 (Nat.le_refl _), fun i hi => ?_⟩
    obtain ⟨A, m, c, q1, ⟨ys, q2⟩, q3⟩ := htk.ops i hi
    exact ⟨A, m, c, q1, ⟨ys, row_below q2 b5 (Nat.le_refl _)⟩, q3⟩
  have HW5 := Lib.hid hw5
  have BX5 := Lib.hid bx5
  have HTK5 := Lib.hid htk5
  have HB5 := Lib.hid hb5
  clear hw5 bx5 htk5 hb5 htk hl el hln hu hub hn
  go_wp2_with fail
  rw [← HW5.out]
  go_loopg [12] n (fun kk v wr => ∃ (i : Nat) (xs : List Value), v = .int .i64 i ∧ i ≤ n ∧ Takes wr w3.heap.size (.slice B1 n k1) n xs ∧ Whole wr w4.heap.size 26 #[.slice B1 n k1, .slice B2 u.sems.length k2, .int .i64 u.mutexes, .slice B3 u.queues.length k3] ∧ Below w3.heap.size w3 wr ∧ n - i ≤ kk)
  case atStart => exact ⟨0, xs, rfl, Nat.zero_le _, HTK5.out, BX5.out, HB5.out, by omega⟩
  case round =>
    obtain ⟨i, xs, rfl, hi, htk, hbx, hbr, hkk⟩ := hrel
    obtain ⟨wo, rfl⟩ : ∃ wo : World, wo = wr := ⟨_, rfl⟩
    have q0 := hbx.cell 0
    simp at q0
    have hzr := hbr.size
    by_cases hlt : i < n
    · have hlt' : (i : Int) < n := by omega
      obtain ⟨g, cg, eV, hg0, hgl⟩ := htk.row.form (by omega)
      injection eV with e1 _ e3
      subst e1 e3
      obtain ⟨A, m, c, hxm, hlo, hmb⟩ := htk.ops i hlt
      have c1 := htk.row.cellAt (i * 2 + 1) (by omega)
      rw [hxm] at c1
      have HTK := Lib.hid htk
      have HBX := Lib.hid hbx
      have HXM := Lib.hid hxm
      clear htk hbx hlo hxm
      go_wp2_with fail
      go_loopg [13] m (fun k2' v wx => ∃ j : Nat, v = .int .i64 j ∧ j ≤ m ∧ Takes wx w3.heap.size (.slice (some ⟨g, 0, none⟩) n k1) n xs ∧ Whole wx w4.heap.size 26 #[.slice (some ⟨g, 0, none⟩) n k1, .slice B2 u.sems.length k2, .int .i64 u.mutexes, .slice B3 u.queues.length k3] ∧ Below w3.heap.size w3 wx ∧ m - j ≤ k2')
      case atStart => exact ⟨0, rfl, Nat.zero_le _, HTK.out, HBX.out, hbr, by omega⟩
      case round =>
        obtain ⟨j, rfl, hj, htk, hbx, hbx2, hk2⟩ := hrel
        have q0 := hbx.cell 0
        simp at q0
        have hzx := hbx2.size
        obtain ⟨A', m', c', hxm', hlo, _⟩ := htk.ops i hlt
        rw [HXM.out] at hxm'
        injection hxm' with hxm'
        injection hxm' with e1 e2 e3
        subst e1 e2 e3
        have c1 := htk.row.cellAt (i * 2 + 1) (by omega)
        rw [HXM.out] at c1
        have s0 := htk.row.cellAt (i * 2) (by omega)
        obtain ⟨y0, hy0⟩ : ∃ y0, xs[i * 2]? = some y0 := ⟨_, List.getElem?_eq_getElem (by have := htk.row.1; omega)⟩
        rw [hy0] at s0
        have z0 := htk.row.frozenAt (i * 2)
        have z1' := htk.row.frozenAt (i * 2 + 1)
        by_cases hjm : j < m
        · have hjm' : (j : Int) < m := by omega
          obtain ⟨ys, hys⟩ := hlo
          obtain ⟨g2, cg2, eV2, hg20, hg2l⟩ := hys.form (by omega)
          injection eV2 with e1 _ e3
          subst e1 e3
          have hyl : ys.length = m * 3 := hys.1
          have hne : (Value.slice (some ⟨g, 0, none⟩) n k1).ownBlock ≠ some g2 := fun e => row_kind htk.row hys (by decide) g2 e rfl
          have hne4 : g2 ≠ w4.heap.size := fun e => row_whole_ne hys hbx (by decide) (by show some g2 = _; rw [e])
          have t0 := hys.cellAt (j * 3) (by omega)
          have t1 := hys.cellAt (j * 3 + 1) (by omega)
          have t2 := hys.cellAt (j * 3 + 2) (by omega)
          rw [List.getElem?_eq_getElem (by omega)] at t0 t1 t2
          have f0 := hys.frozenAt (j * 3)
          have f1 := hys.frozenAt (j * 3 + 1)
          have f2 := hys.frozenAt (j * 3 + 2)
          generalize ys[j * 3]'_ = p0 at t0
          generalize ys[j * 3 + 1]'_ = p1 at t1
          generalize ys[j * 3 + 2]'_ = p2 at t2
          have TK := Lib.hid htk
          have BX := Lib.hid hbx
          clear htk hbx hys hy0
          go_wp2_with fail
          go_roundg (m - (j + 1))
          case measure => omega
          case rel => exact ⟨j + 1, by go_num, by omega, ((TK.out.setOp hne).setOp hne).setOp hne, ((BX.out.far (fun e => hne4 e.symm) _).far (fun e => hne4 e.symm) _).far (fun e => hne4 e.symm) _, ((hbx2.setCell hg20 _).setCell hg20 _).setCell hg20 _, Nat.le_refl _⟩
        · have hgm : ¬ (j : Int) < m := by omega
          have hne4 : g ≠ w4.heap.size := fun e => row_whole_ne htk.row hbx (by decide) (by show some g = _; rw [e])
          have TK := Lib.hid htk
          have BX := Lib.hid hbx
          clear htk hbx hlo hy0
          go_wp2_with fail
          go_roundg (n - (i + 1))
          case measure => omega
          case rel => exact ⟨i + 1, _, by go_num, by omega, TK.out.zero, (BX.out.far (fun e => hne4 e.symm) _).far (fun e => hne4 e.symm) _, (hbx2.setCell hg0 _).setCell hg0 _, Nat.le_refl _⟩
    · have hge : ¬ (i : Int) < n := by omega
      clear htk hbx
      go_wp2_with fail
      refine (rparse_any s wo (by omega)).mono ?_
      rintro e w6 ⟨R1, R2, R3, rfl, hr, hb6⟩
      rw [HT.out] at hr ⊢
      dsimp only at hr ⊢
      obtain ⟨C1, d1, hR1, _, _⟩ := hr.len
      obtain ⟨C2, d2, hR2, _, _⟩ := row_slice hr.sems
      obtain ⟨C3, d3, hR3, _, _⟩ := row_slice hr.queues
      subst hR1 hR2 hR3
      have z6 := hb6.size
      obtain ⟨w7, hw7⟩ : ∃ w7, w7 = w6.alloc (.cells #[.slice C1 t.tasks.length d1, .slice C2 t.sems.length d2, .int .i64 t.mutexes, .slice C3 t.queues.length d3] 26) := ⟨_, rfl⟩
      have b7 : Below w6.heap.size w6 w7 := by rw [hw7]; exact (Below.refl _ _).alloc (Nat.le_refl _) _
      have bx7 : Whole w7 w6.heap.size 26 #[.slice C1 t.tasks.length d1, .slice C2 t.sems.length d2, .int .i64 t.mutexes, .slice C3 t.queues.length d3] := by rw [hw7]; exact Whole.made _ _ _
      have hb37 : Below w3.heap.size w3 w7 := (hbr.trans (hb6.mono (by omega))).trans (b7.mono (by omega))
      have hr7 := hr.below b7 (Nat.le_refl _)
      have ht7 := HT3.out.below hb37 (Nat.le_refl _)
      have bt7 := BX3.out.same (hb37.block _ z23)
      have x0 := bt7.cell 0
      have x1 := bt7.cell 1
      have x2 := bt7.cell 2
      have x3 := bt7.cell 3
      have y0 := bx7.cell 0
      have y1 := bx7.cell 1
      have y2 := bx7.cell 2
      have y3 := bx7.cell 3
      simp at x0 x1 x2 x3 y0 y1 y2 y3
      have RD1 := Lib.hid (ht7.reads).1
      have RD2 := Lib.hid (hr7.reads).1
      have HW7 := Lib.hid hw7
      have z7 := hb37.size
      clear hw7 bx7 bt7 hr7 ht7 hr
      go_wp2_with fail
      rw [← HW7.out]
      refine (num_any _ _).mono ?_
      rintro e w' ⟨rfl, ew⟩
      have ew' := ew.symm
      subst ew'
      go_wp2_with fail
      refine (sameTable_any RD1.out RD2.out).mono ?_
      rintro e w8 ⟨rfl, hb8⟩
      go_wp2_with fail
      go_ret
      exact ⟨rfl, (hb3.trans (hb37.mono z3)).trans (hb8.mono (by omega))⟩
end Go.Proofs.YtadcfedjmofjjaaDoor
