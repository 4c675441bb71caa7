/-
  The document's kernel: the best one of those that wait: the walk of best.
-/
import Derived.Test.YtncbgnpoffolcaaRkB
import Derived.BigQuiet
namespace Go.Proofs.Ytncbgnpoffolcaa
open Go.RowKit
namespace Rk
theorem bestAt_no {r : K} {on id b : Int} {f i : Nat} (h : ¬ Waits (r.ti i) on id) : r.bestAt on id (f + 1) i b = r.bestAt on id f (i + 1) b := by
 show r.bestAt on id f (i + 1) _ = _
 rw [if_neg h]
theorem bestAt_yes {r : K} {on id b : Int} {f i : Nat} (h : Waits (r.ti i) on id) (ha : b < 0 ∨ Ahead (r.ti i) (r.t b)) : r.bestAt on id (f + 1) i b = r.bestAt on id f (i + 1) i := by
 show r.bestAt on id f (i + 1) _ = _
 rw [if_pos h, if_pos ha]
theorem bestAt_keep {r : K} {on id b : Int} {f i : Nat} (h : Waits (r.ti i) on id) (ha : ¬ (b < 0 ∨ Ahead (r.ti i) (r.t b))) : r.bestAt on id (f + 1) i b = r.bestAt on id f (i + 1) b := by
 show r.bestAt on id f (i + 1) _ = _
 rw [if_pos h, if_neg ha]
set_option maxRecDepth 100000 in
set_option maxHeartbeats 8000000 in
theorem best_any {w : World} {B : Nat} {r : K} {L : Ly} (on id : Int) (h : RM w B r L) (hn : r.tasks.length ≤ 1000) (h0 : 0 < r.tasks.length) :
 Calls Try.prog 78 #[.pointer (some ⟨L.b, 0, none⟩), .int .i64 on, .int .i64 id] w fun e w' => e = .returned (.int .i64 (r.best on id)) ∧ Below w.heap.size w w' := by
 obtain ⟨gt, ct, hta⟩ := h.ta h0
 have HK := zh h
 have HTA := zh hta
 clear h hta
 go_enter Try.func78, Try.ntmps78
 go_wp2_with fail
 go_loopg [8, 7] r.tasks.length (fun kk i s wr => ∃ (j : Nat) (b : Int), j ≤ r.tasks.length ∧ i = .int .i64 j ∧ s = .int .i64 b ∧ r.best on id = r.bestAt on id (r.tasks.length - j) j b ∧ (b < 0 ∨ 0 ≤ b ∧ b < r.tasks.length) ∧ Below w.heap.size w wr ∧ r.tasks.length - j ≤ kk)
 case atStart => exact ⟨0, -1, Nat.zero_le _, rfl, rfl, rfl, .inl (by decide), zr _ _, by omega⟩
 case round =>
  obtain ⟨j, b, hj, rfl, rfl, hb, hbv, hbe, hkk⟩ := hrel
  have HB := zh hb
  have HBE := zh hbe
  clear hb hbe
  have HKr := zh (HK.out.below HBE.out)
  have c0 := HKr.out.cTa
  rw [HTA.out] at c0
  by_cases hlt : j < r.tasks.length
  ·have hlt' : (j : Int) < r.tasks.length := by omega
   have hj0 : (0 : Int) ≤ j := by omega
   have t0 : wr.cell? ⟨gt, j * 13, none⟩ = some (.int .i64 (r.ti j).base) := HKr.out.cTask HTA.out hlt (j := 0) (by decide)
   have t1 : wr.cell? ⟨gt, j * 13 + 1, none⟩ = some (.int .i64 (r.ti j).prio) := HKr.out.cTask HTA.out hlt (j := 1) (by decide)
   have t2 : wr.cell? ⟨gt, j * 13 + 2, none⟩ = some (L.O j) := HKr.out.cTask HTA.out hlt (j := 2) (by decide)
   have t3 : wr.cell? ⟨gt, j * 13 + 3, none⟩ = some (.int .i64 (r.ti j).place) := HKr.out.cTask HTA.out hlt (j := 3) (by decide)
   have t4 : wr.cell? ⟨gt, j * 13 + 4, none⟩ = some (.int .i64 (r.ti j).last) := HKr.out.cTask HTA.out hlt (j := 4) (by decide)
   have t5 : wr.cell? ⟨gt, j * 13 + 5, none⟩ = some (.int .i64 (r.ti j).state) := HKr.out.cTask HTA.out hlt (j := 5) (by decide)
   have t6 : wr.cell? ⟨gt, j * 13 + 6, none⟩ = some (.int .i64 (r.ti j).wake) := HKr.out.cTask HTA.out hlt (j := 6) (by decide)
   have t7 : wr.cell? ⟨gt, j * 13 + 7, none⟩ = some (.int .i64 (r.ti j).answer) := HKr.out.cTask HTA.out hlt (j := 7) (by decide)
   have t8 : wr.cell? ⟨gt, j * 13 + 8, none⟩ = some (.int .i64 (r.ti j).on) := HKr.out.cTask HTA.out hlt (j := 8) (by decide)
   have t9 : wr.cell? ⟨gt, j * 13 + 9, none⟩ = some (.int .i64 (r.ti j).id) := HKr.out.cTask HTA.out hlt (j := 9) (by decide)
   have t10 : wr.cell? ⟨gt, j * 13 + 10, none⟩ = some (.int .i64 (r.ti j).value) := HKr.out.cTask HTA.out hlt (j := 10) (by decide)
   have t11 : wr.cell? ⟨gt, j * 13 + 11, none⟩ = some (.int .i64 (r.ti j).since) := HKr.out.cTask HTA.out hlt (j := 11) (by decide)
   have t12 : wr.cell? ⟨gt, j * 13 + 12, none⟩ = some (L.V (.lp j)) := HKr.out.cTask HTA.out hlt (j := 12) (by decide)
   obtain ⟨A2, n2, eO, -⟩ := HKr.out.ops j hlt
   obtain ⟨A12, q12, eV, -, -⟩ := HKr.out.slice (.lp j)
   rw [eO] at t2
   rw [eV] at t12
   have hr1 : r.tasks.length - j = (r.tasks.length - (j + 1)) + 1 := by omega
   have hbs := HBE.out.size
   obtain ⟨wq, rfl⟩ : ∃ wq : World, wq = wr := ⟨_, rfl⟩
   have BX : Hid (∀ (b1 b2 b3 : Int), Below w.heap.size w (wq.alloc (.cells #[.int .i64 (r.ti j).base, .int .i64 (r.ti j).prio, .slice A2 (r.ti j).ops.length n2, .int .i64 (r.ti j).place, .int .i64 (r.ti j).last, .int .i64 b1, .int .i64 (r.ti j).wake, .int .i64 (r.ti j).answer, .int .i64 b2, .int .i64 b3, .int .i64 (r.ti j).value, .int .i64 (r.ti j).since, .slice A12 (Part.len r (.lp j)) q12] 100))) := fun _ _ _ => HBE.out.alloc hbs _
   by_cases hw : Waits (r.ti j) on id
   ·obtain ⟨w1, w2, w3⟩ := hw
    have HW : Hid (Waits (r.ti j) on id) := ⟨w1, w2, w3⟩
    rw [w1] at t5
    rw [w2] at t8
    rw [w3] at t9
    clear w1 w2 w3
    go_wp2_with fail
    have x1 := (zm wq 100 #[.int .i64 (r.ti j).base, .int .i64 (r.ti j).prio, .slice A2 (r.ti j).ops.length n2, .int .i64 (r.ti j).place, .int .i64 (r.ti j).last, .int .i64 1, .int .i64 (r.ti j).wake, .int .i64 (r.ti j).answer, .int .i64 on, .int .i64 id, .int .i64 (r.ti j).value, .int .i64 (r.ti j).since, .slice A12 (Part.len r (.lp j)) q12]).cell 1
    have x11 := (zm wq 100 #[.int .i64 (r.ti j).base, .int .i64 (r.ti j).prio, .slice A2 (r.ti j).ops.length n2, .int .i64 (r.ti j).place, .int .i64 (r.ti j).last, .int .i64 1, .int .i64 (r.ti j).wake, .int .i64 (r.ti j).answer, .int .i64 on, .int .i64 id, .int .i64 (r.ti j).value, .int .i64 (r.ti j).since, .slice A12 (Part.len r (.lp j)) q12]).cell 11
    have BB := zh (BX.out 1 on id)
    have hbs2 := BB.out.size
    have c0' : (wq.alloc (.cells #[.int .i64 (r.ti j).base, .int .i64 (r.ti j).prio, .slice A2 (r.ti j).ops.length n2, .int .i64 (r.ti j).place, .int .i64 (r.ti j).last, .int .i64 1, .int .i64 (r.ti j).wake, .int .i64 (r.ti j).answer, .int .i64 on, .int .i64 id, .int .i64 (r.ti j).value, .int .i64 (r.ti j).since, .slice A12 (Part.len r (.lp j)) q12] 100)).cell? ⟨L.b, 0, none⟩ = some (.slice (some ⟨gt, 0, none⟩) r.tasks.length ct) := (zw wq _ ⟨L.b, 0, none⟩ HKr.out.lt).trans c0
    have hgl : gt < wq.heap.size := (HKr.out.rowLt (p := .ta) (g := gt) (by rw [HTA.out]; rfl)).2
    have hz : ∀ q k, (wq.alloc (.cells #[.int .i64 (r.ti j).base, .int .i64 (r.ti j).prio, .slice A2 (r.ti j).ops.length n2, .int .i64 (r.ti j).place, .int .i64 (r.ti j).last, .int .i64 1, .int .i64 (r.ti j).wake, .int .i64 (r.ti j).answer, .int .i64 on, .int .i64 id, .int .i64 (r.ti j).value, .int .i64 (r.ti j).since, .slice A12 (Part.len r (.lp j)) q12] 100)).cell? ⟨gt, q * 13 + k, none⟩ = wq.cell? ⟨gt, q * 13 + k, none⟩ := fun q k => zw wq _ ⟨gt, q * 13 + k, none⟩ hgl
    simp only [za, zb, zc] at x1 x11
    clear BX c0 t0 t1 t2 t3 t4 t5 t6 t7 t8 t9 t10 t11 t12
    generalize hWX : wq.alloc (.cells #[.int .i64 (r.ti j).base, .int .i64 (r.ti j).prio, .slice A2 (r.ti j).ops.length n2, .int .i64 (r.ti j).place, .int .i64 (r.ti j).last, .int .i64 1, .int .i64 (r.ti j).wake, .int .i64 (r.ti j).answer, .int .i64 on, .int .i64 id, .int .i64 (r.ti j).value, .int .i64 (r.ti j).since, .slice A12 (Part.len r (.lp j)) q12] 100) = WX at *
    clear hWX
    generalize hpj : (r.ti j).prio = pj at *
    generalize hsj : (r.ti j).since = sj at *
    rcases hbv with hb0 | ⟨hb0, hb1⟩
    ·have hst : Hid (r.bestAt on id (r.tasks.length - j) j b = r.bestAt on id (r.tasks.length - (j + 1)) (j + 1) j) := by show _ = _; rw [hr1]; exact bestAt_yes HW.out (.inl hb0)
     have hd : decide (b < 0) = true := zu hb0
     clear hz
     refine zy ?_
     repeat go_big_quiet_step (fail)
     refine wpQuiet_nil ?_
     intro _ hw'
     obtain ⟨nq, hw2⟩ := hw'
     subst hw2
     go_wp2_with fail
     go_roundg (r.tasks.length - (j + 1))
     case measure => omega
     case rel => exact ⟨j + 1, j, by omega, by go_num, rfl, HB.out.trans hst.out, .inr ⟨by omega, by omega⟩, BB.out.drewN' _, zl _⟩
    ·obtain ⟨q, rfl⟩ := Int.eq_ofNat_of_zero_le hb0
     have hq : q < r.tasks.length := by omega
     have iq : (q : Int) < r.tasks.length := by omega
     have hd : decide ((q : Int) < 0) = false := decide_eq_false (by omega)
     have s1 : WX.cell? ⟨gt, q * 13 + 1, none⟩ = some (.int .i64 (r.ti q).prio) := (hz q 1).trans (HKr.out.cTask HTA.out hq (j := 1) (by decide))
     have s11 : WX.cell? ⟨gt, q * 13 + 11, none⟩ = some (.int .i64 (r.ti q).since) := (hz q 11).trans (HKr.out.cTask HTA.out hq (j := 11) (by decide))
     clear hz
     by_cases a1 : pj < (r.ti q).prio
     ·have hst : Hid (r.bestAt on id (r.tasks.length - j) j q = r.bestAt on id (r.tasks.length - (j + 1)) (j + 1) j) := by show _ = _; rw [hr1]; exact bestAt_yes HW.out (.inr (.inl (by rw [hpj]; exact a1)))
      have hd2 : decide (pj < (r.ti q).prio) = true := zu a1
      clear hpj hsj
      generalize (r.ti q).prio = pq at *
      generalize (r.ti q).since = sq at *
      refine zy ?_
      repeat go_big_quiet_step (fail)
      refine wpQuiet_nil ?_
      intro _ hw'
      obtain ⟨nq, hw2⟩ := hw'
      subst hw2
      go_wp2_with fail
      go_roundg (r.tasks.length - (j + 1))
      case measure => omega
      case rel => exact ⟨j + 1, j, by omega, by go_num, rfl, HB.out.trans hst.out, .inr ⟨by omega, by omega⟩, BB.out.drewN' _, zl _⟩
     have hd2 : decide (pj < (r.ti q).prio) = false := decide_eq_false a1
     by_cases a2 : pj = (r.ti q).prio
     ·have hd3 : (pj == (r.ti q).prio) = true := by simp [a2]
      by_cases a3 : sj < (r.ti q).since
      ·have hst : Hid (r.bestAt on id (r.tasks.length - j) j q = r.bestAt on id (r.tasks.length - (j + 1)) (j + 1) j) := by show _ = _; rw [hr1]; exact bestAt_yes HW.out (.inr (.inr ⟨by rw [hpj]; exact a2, by rw [hsj]; exact a3⟩))
       have hd4 : decide ((sj : Int) < ((r.ti q).since : Int)) = true := zu (by omega)
       have hd5 : (sj : Int) < ((r.ti q).since : Int) := by omega
       clear hpj hsj
       rw [← a2] at s1 hd2 hd3 a1
       clear a2
       generalize (r.ti q).since = sq at *
       refine zy ?_
       repeat go_big_quiet_step (fail)
       refine wpQuiet_nil ?_
       intro _ hw'
       obtain ⟨nq, hw2⟩ := hw'
       subst hw2
       go_wp2_with fail
       go_roundg (r.tasks.length - (j + 1))
       case measure => omega
       case rel => exact ⟨j + 1, j, by omega, by go_num, rfl, HB.out.trans hst.out, .inr ⟨by omega, by omega⟩, BB.out.drewN' _, zl _⟩
      ·have hst : Hid (r.bestAt on id (r.tasks.length - j) j q = r.bestAt on id (r.tasks.length - (j + 1)) (j + 1) q) := by show _ = _; rw [hr1]; exact bestAt_keep HW.out (by
        rintro (h | h | ⟨_, h⟩)
        ·omega
        ·rw [hpj] at h; exact a1 h
        ·rw [hsj] at h; exact a3 h)
       have hd4 : decide ((sj : Int) < ((r.ti q).since : Int)) = false := decide_eq_false (by omega)
       have hd5 : ¬ (sj : Int) < ((r.ti q).since : Int) := by omega
       clear hpj hsj
       rw [← a2] at s1 hd2 hd3 a1
       clear a2
       generalize (r.ti q).since = sq at *
       refine zy ?_
       repeat go_big_quiet_step (fail)
       refine wpQuiet_nil ?_
       intro _ hw'
       obtain ⟨nq, hw2⟩ := hw'
       subst hw2
       go_wp2_with fail
       go_roundg (r.tasks.length - (j + 1))
       case measure => omega
       case rel => exact ⟨j + 1, q, by omega, by go_num, rfl, HB.out.trans hst.out, .inr ⟨by omega, by omega⟩, BB.out.drewN' _, zl _⟩
     ·have hd3 : (pj == (r.ti q).prio) = false := by simp [a2]
      have hst : Hid (r.bestAt on id (r.tasks.length - j) j q = r.bestAt on id (r.tasks.length - (j + 1)) (j + 1) q) := by show _ = _; rw [hr1]; exact bestAt_keep HW.out (by
       rintro (h | h | ⟨h, _⟩)
       ·omega
       ·rw [hpj] at h; exact a1 h
       ·rw [hpj] at h; exact a2 h)
      clear hpj hsj
      generalize (r.ti q).prio = pq at *
      generalize (r.ti q).since = sq at *
      refine zy ?_
      repeat go_big_quiet_step (fail)
      refine wpQuiet_nil ?_
      intro _ hw'
      obtain ⟨nq, hw2⟩ := hw'
      subst hw2
      go_wp2_with fail
      go_roundg (r.tasks.length - (j + 1))
      case measure => omega
      case rel => exact ⟨j + 1, q, by omega, by go_num, rfl, HB.out.trans hst.out, .inr ⟨by omega, by omega⟩, BB.out.drewN' _, zl _⟩
   ·have hst : Hid (r.bestAt on id (r.tasks.length - j) j b = r.bestAt on id (r.tasks.length - (j + 1)) (j + 1) b) := by show _ = _; rw [hr1]; exact bestAt_no hw
    have hw2 : (r.ti j).state ≠ 1 ∨ ((r.ti j).state = 1 ∧ ((r.ti j).on ≠ on ∨ ((r.ti j).on = on ∧ (r.ti j).id ≠ id))) := by
     unfold Waits at hw
     by_cases a1 : (r.ti j).state = 1 <;> by_cases a2 : (r.ti j).on = on <;> by_cases a3 : (r.ti j).id = id <;> simp [a1, a2, a3] at hw ⊢
    clear hw
    rcases hw2 with a1 | ⟨a1, a2 | ⟨a2, a3⟩⟩
    ·have e1 : ((r.ti j).state == 1) = false := by simp [a1]
     replace a1 : ¬ (r.ti j).state = 1 := a1
     go_wp2_with fail
     go_roundg (r.tasks.length - (j + 1))
     case measure => omega
     case rel => exact ⟨j + 1, b, by omega, by go_num, rfl, HB.out.trans hst.out, hbv, BX.out _ _ _, zl _⟩
    ·rw [a1] at t5
     clear a1
     have e2 : ((r.ti j).on == on) = false := by simp [a2]
     replace a2 : ¬ (r.ti j).on = on := a2
     go_wp2_with fail
     go_roundg (r.tasks.length - (j + 1))
     case measure => omega
     case rel => exact ⟨j + 1, b, by omega, by go_num, rfl, HB.out.trans hst.out, hbv, BX.out _ _ _, zl _⟩
    ·rw [a1] at t5
     rw [a2] at t8
     clear a1 a2
     have e3 : ((r.ti j).id == id) = false := by simp [a3]
     replace a3 : ¬ (r.ti j).id = id := a3
     go_wp2_with fail
     go_roundg (r.tasks.length - (j + 1))
     case measure => omega
     case rel => exact ⟨j + 1, b, by omega, by go_num, rfl, HB.out.trans hst.out, hbv, BX.out _ _ _, zl _⟩
  ·have hge : ¬ (j : Int) < r.tasks.length := by omega
   have hjl : j = r.tasks.length := by omega
   have E : Hid (r.best on id = b) := by
    show _ = _
    rw [HB.out, hjl, Nat.sub_self]
    rfl
   go_wp2_with fail
   go_ret
   exact ⟨by rw [E.out]; rfl, HBE.out⟩
end Rk
end Go.Proofs.Ytncbgnpoffolcaa
