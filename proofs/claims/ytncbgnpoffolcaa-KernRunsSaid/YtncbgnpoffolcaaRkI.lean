/-
  The document's kernel: the walk of do: yield, loop, bad, prio, who.
-/
import Derived.Test.YtncbgnpoffolcaaRkP
namespace Go.Proofs.Ytncbgnpoffolcaa
open Go.RowKit
namespace Rk
set_option maxRecDepth 100000 in
set_option maxHeartbeats 16000000 in
theorem do_11 {w : World} {B M : Nat} {r : K} {L : Ly} {m : Nat} {oa ob : Int} (h : DO w B M r L m ⟨11, oa, ob⟩) :
 Calls Try.prog 50 #[.pointer (some ⟨L.b, 0, none⟩), .int .i64 m] w (DoPost w B (r.do_ m) L) := by
 refine (doHead h).2 ?_
 intro hM hm hpl hol hct gt ct im im0 cO ad hwr HK HF HTA hpl3 hgo hog KK hKK W2 F2 P2 W2F r1 EO hT1 hm1 HF1 hti hown hsem hsiz hcnt htic hou K2 HTA1 c0 x0 x1 x2
 clear h
 have t4 : W2.cell? ⟨gt, m * 13 + 4, none⟩ = some (.int .i64 (r1.ti m).last) := K2.out.cTask HTA1.out hm1 (j := 4) (by decide)
 have f4 := K2.out.rowFree HTA1.out (m * 13 + 4)
 have KS := zh (K2.out.task (f := fun t => { t with last := 5 }) (u := .int .i64 5) HTA1.out hm1 (j := 4) (by decide) rfl rfl rfl)
 have PS := zh (P2.out.trans (Kp.task (w := W2) (i := m) (j := 4) (u := .int .i64 5) HTA1.out))
 go_wp2_with fail
 go_end0
 rw [EO.out]
 exact ⟨rfl, L, KS.out, PS.out⟩
set_option maxRecDepth 100000 in
set_option maxHeartbeats 16000000 in
theorem do_1 {w : World} {B M : Nat} {r : K} {L : Ly} {m : Nat} {oa ob : Int} (h : DO w B M r L m ⟨1, oa, ob⟩) :
 Calls Try.prog 50 #[.pointer (some ⟨L.b, 0, none⟩), .int .i64 m] w (DoPost w B (r.do_ m) L) := by
 refine (doHead h).2 ?_
 intro hM hm hpl hol hct gt ct im im0 cO ad hwr HK HF HTA hpl3 hgo hog KK hKK W2 F2 P2 W2F r1 EO hT1 hm1 HF1 hti hown hsem hsiz hcnt htic hou K2 HTA1 c0 x0 x1 x2
 clear h
 have HC := zh (back_any K2.out hm1 (by have := HF1.out.tasks; exact this) (HF1.out.prio m hm1) (zt (HF1.out.len _) (by omega)))
 go_wp2_with fail
 refine HC.out.mono ?_
 rintro e w3 ⟨rfl, L3, k3, p3⟩
 have K3 := zh k3
 have P3 := zh (P2.out.trans p3)
 clear k3 p3
 go_wp2_with fail
 go_end0
 rw [EO.out]
 exact ⟨rfl, L3, K3.out, P3.out⟩
set_option maxRecDepth 100000 in
set_option maxHeartbeats 16000000 in
theorem do_13 {w : World} {B M : Nat} {r : K} {L : Ly} {m : Nat} {oa ob : Int} (h : DO w B M r L m ⟨13, oa, ob⟩) :
 Calls Try.prog 50 #[.pointer (some ⟨L.b, 0, none⟩), .int .i64 m] w (DoPost w B (r.do_ m) L) := by
 refine (doHead h).2 ?_
 intro hM hm hpl hol hct gt ct im im0 cO ad hwr HK HF HTA hpl3 hgo hog KK hKK W2 F2 P2 W2F r1 EO hT1 hm1 HF1 hti hown hsem hsiz hcnt htic hou K2 HTA1 c0 x0 x1 x2
 clear h
 have t0 : W2.cell? ⟨gt, m * 13, none⟩ = some (.int .i64 (r1.ti m).base) := K2.out.cTask HTA1.out hm1 (j := 0) (by decide)
 have f0 := K2.out.rowFree HTA1.out (m * 13)
 have t4 : W2.cell? ⟨gt, m * 13 + 4, none⟩ = some (.int .i64 (r1.ti m).last) := K2.out.cTask HTA1.out hm1 (j := 4) (by decide)
 have f4 := K2.out.rowFree HTA1.out (m * 13 + 4)
 have q1 := K2.out.task (f := fun t => { t with base := oa }) (u := .int .i64 oa) HTA1.out hm1 (j := 0) (by decide) rfl rfl rfl
 have KS := zh (q1.task (f := fun t => { t with last := 0 }) (u := .int .i64 0) HTA1.out (by rw [len_setT]; exact hm1) (j := 4) (by decide) rfl rfl rfl)
 have PS := zh (P2.out.trans ((Kp.task (w := W2) (i := m) (j := 0) (u := .int .i64 oa) HTA1.out).trans (Kp.task (i := m) (j := 4) (u := .int .i64 0) HTA1.out)))
 clear q1
 go_wp2_with fail
 go_end0
 rw [EO.out]
 exact ⟨rfl, L, KS.out, PS.out⟩
set_option maxRecDepth 100000 in
set_option maxHeartbeats 16000000 in
theorem do_14 {w : World} {B M : Nat} {r : K} {L : Ly} {m : Nat} {oa ob : Int} (h : DO w B M r L m ⟨14, oa, ob⟩) :
 Calls Try.prog 50 #[.pointer (some ⟨L.b, 0, none⟩), .int .i64 m] w (DoPost w B (r.do_ m) L) := by
 refine (doHead h).2 ?_
 intro hM hm hpl hol hct gt ct im im0 cO ad hwr HK HF HTA hpl3 hgo hog KK hKK W2 F2 P2 W2F r1 EO hT1 hm1 HF1 hti hown hsem hsiz hcnt htic hou K2 HTA1 c0 x0 x1 x2
 clear h
 have t4 : W2.cell? ⟨gt, m * 13 + 4, none⟩ = some (.int .i64 (r1.ti m).last) := K2.out.cTask HTA1.out hm1 (j := 4) (by decide)
 have f4 := K2.out.rowFree HTA1.out (m * 13 + 4)
 have KS := zh (K2.out.task (f := fun t => { t with last := (m : Int) }) (u := .int .i64 (m : Int)) HTA1.out hm1 (j := 4) (by decide) rfl rfl rfl)
 have PS := zh (P2.out.trans (Kp.task (w := W2) (i := m) (j := 4) (u := .int .i64 (m : Int)) HTA1.out))
 go_wp2_with fail
 go_end0
 rw [EO.out]
 exact ⟨rfl, L, KS.out, PS.out⟩
set_option maxRecDepth 100000 in
set_option maxHeartbeats 16000000 in
theorem do_10 {w : World} {B M : Nat} {r : K} {L : Ly} {m : Nat} {a : Nat} {ob : Int} (h : DO w B M r L m ⟨10, (a : Int), ob⟩) (hb : 1 ≤ ob ∧ ob ≤ 20) (hlo : ∀ j : Nat, j < (r.ti m).loops.length → 0 ≤ (r.ti m).loops.getD j 0 ∧ (r.ti m).loops.getD j 0 ≤ 20) (hll : (r.ti m).loops.length = (r.ti m).ops.length) :
 Calls Try.prog 50 #[.pointer (some ⟨L.b, 0, none⟩), .int .i64 m] w (DoPost w B (r.do_ m) L) := by
 refine (doHead h).2 ?_
 intro hM hm hpl hol hct gt ct im im0 cO ad hwr HK HF HTA hpl3 hgo hog KK hKK W2 F2 P2 W2F r1 EO hT1 hm1 HF1 hti hown hsem hsiz hcnt htic hou K2 HTA1 c0 x0 x1 x2
 clear h
 have t3 : W2.cell? ⟨gt, m * 13 + 3, none⟩ = some (.int .i64 ((r1.ti m).place : Int)) := K2.out.cTask HTA1.out hm1 (j := 3) (by decide)
 have f3 := K2.out.rowFree HTA1.out (m * 13 + 3)
 have hp1 : (r1.ti m).place = (r.ti m).place + 1 := by rw [hti]
 have hl1 : (r1.ti m).loops = (r.ti m).loops := by rw [hti]
 rw [hp1] at t3
 have hpw : IntKind.i64.wrap ((((r.ti m).place + 1 : Nat) : Int) - 1) = ((r.ti m).place : Int) := by rw [IntKind.wrap_i64]; omega
 obtain ⟨v0, v1⟩ := hlo (r.ti m).place (by omega)
 obtain ⟨gl, cl, hv⟩ := K2.out.form (p := .lp m) (by show 0 < (r1.ti m).loops.length; rw [hl1]; omega)
 have t12 : W2.cell? ⟨gt, m * 13 + 12, none⟩ = some (L.V (.lp m)) := K2.out.cTask HTA1.out hm1 (j := 12) (by decide)
 have hlen : Part.len r1 (.lp m) = (r.ti m).ops.length := by show (r1.ti m).loops.length = _; rw [hl1, hll]
 rw [hlen] at hv
 have HV := zh hv
 rw [hv] at t12
 have cp := K2.out.cRowInt (p := .lp m) (l := (r.ti m).loops) hv ⟨rfl, rfl, by rw [hlen, hll], by show intV (r1.ti m).loops = _; rw [hl1]⟩ (j := (r.ti m).place) (by omega)
 have fp := K2.out.rowFree hv (r.ti m).place
 have eg : (r.ti m).loops.getD (r.ti m).place 0 = (r.ti m).loops[(r.ti m).place]'(by omega) := by rw [zd, List.getElem?_eq_getElem (by omega)]; rfl
 have ipl : ((r.ti m).place : Int) < (r.ti m).ops.length := by omega
 have ipl0 : (0 : Int) ≤ ((r.ti m).place : Int) := by omega
 have EL : Hid (r1.act m ⟨10, (a : Int), ob⟩ = if (r.ti m).loops.getD (r.ti m).place 0 < ob then r1.setT m fun t => { t with loops := t.loops.modify (r.ti m).place (· + 1), place := a } else r1.setT m fun t => { t with loops := t.loops.set (r.ti m).place 0 }) := by
  show K.loop r1 m ⟨10, (a : Int), ob⟩ = _
  have e1 : (r1.t (m : Int)).place - 1 = (r.ti m).place := by show (r1.ti m).place - 1 = _; rw [hp1]; rfl
  have e2 : (r1.t (m : Int)).loops = (r.ti m).loops := hl1
  unfold K.loop
  simp only [e1, e2]
  rfl
 have egl : gl ≠ w.heap.size := fun e => F2.out.V (.lp m) (by rw [hv, e]; rfl)
 have egl2 : w.heap.size ≠ gl := egl.symm
 have egt : gl ≠ gt := fun e => K2.out.apart (.lp m) .ta gl (by simp) (by rw [hv]; rfl) (by rw [HTA1.out, e]; rfl)
 have egt2 : gt ≠ gl := egt.symm
 rw [eg] at EL v0 v1
 have hvl : (r.ti m).loops.modify (r.ti m).place (· + 1) = (r.ti m).loops.set (r.ti m).place ((r.ti m).loops[(r.ti m).place]'(by omega) + 1) := by
  apply List.ext_getElem?
  intro j
  rw [List.getElem?_modify, List.getElem?_set]
  by_cases e : (r.ti m).place = j
  ·subst e
   simp [hll, hpl3]
  ·simp [e]
 have HVL := zh hvl
 have HL1 := zh hl1
 clear hvl hlo eg hv
 generalize hlv : (r.ti m).loops[(r.ti m).place]'(by omega) = lv at *
 by_cases hc : lv < ob
 ·rw [if_pos hc] at EL
  have hcd : decide (lv < ob) = true := zu hc
  have hlw : IntKind.i64.wrap (lv + 1) = lv + 1 := by rw [IntKind.wrap_i64]; omega
  have q1 := fun n => (K2.out.below ((zr _ _).drewN' n)).loop1 (i := m) (j := (r.ti m).place) (v := lv + 1) HV.out hm1
  have q2 := fun n => (q1 n).task (f := fun t => { t with place := a }) (u := .int .i64 (a : Int)) HTA1.out (by rw [len_setT]; exact hm1) (j := 3) (by decide) rfl rfl rfl
  have ek : K.setT (r1.setT m fun t => { t with loops := t.loops.set (r.ti m).place (lv + 1) }) m (fun t => { t with place := a }) = r1.setT m fun t => { t with loops := t.loops.modify (r.ti m).place (· + 1), place := a } := by
   rw [setT_comp]
   unfold K.setT
   congr 1
   apply List.ext_getElem?
   intro j
   rw [Int.toNat_natCast, List.getElem?_modify, List.getElem?_modify]
   by_cases e : m = j
   ·subst e
    have er : r1.tasks[m]? = some (r1.ti m) := by unfold K.ti; rw [zd, List.getElem?_eq_getElem hm1]; rfl
    rw [er]
    simp only [if_true, Option.map_eq_map, Option.map_some, Function.comp]
    rw [HL1.out, HVL.out]
   ·simp [e]
  simp only [ek] at q2
  have p2 := fun n => (P2.out.drewN n).trans ((Kp.put (w := W2.drewN n) (p := .lp m) (g := gl) (j := (r.ti m).place) (u := .int .i64 (lv + 1)) (by rw [HV.out]; rfl)).trans (Kp.task (i := m) (j := 3) (u := .int .i64 (a : Int)) HTA1.out))
  have KS := zh q2
  have PS := zh p2
  clear q1 q2 p2 ek hlv
  go_upto_region 82 with fail
  refine zy ?_
  repeat go_big_quiet_step (fail)
  refine wpQuiet_nil ?_
  intro _ hw'
  obtain ⟨nq, hw2⟩ := hw'
  subst hw2
  go_wp2_with fail
  go_end0
  rw [EO.out, EL.out]
  exact ⟨rfl, L, KS.out _, PS.out _⟩
 ·rw [if_neg hc] at EL
  have hcd : decide (lv < ob) = false := decide_eq_false hc
  have q1 := fun n => (K2.out.below ((zr _ _).drewN' n)).loop1 (i := m) (j := (r.ti m).place) (v := 0) HV.out hm1
  have p2 := fun n => (P2.out.drewN n).trans (Kp.put (w := W2.drewN n) (p := .lp m) (g := gl) (j := (r.ti m).place) (u := .int .i64 0) (by rw [HV.out]; rfl))
  have KS := zh q1
  have PS := zh p2
  clear q1 p2 hlv
  go_upto_region 82 with fail
  refine zy ?_
  repeat go_big_quiet_step (fail)
  refine wpQuiet_nil ?_
  intro _ hw'
  obtain ⟨nq, hw2⟩ := hw'
  subst hw2
  go_wp2_with fail
  go_end0
  rw [EO.out, EL.out]
  exact ⟨rfl, L, KS.out _, PS.out _⟩
end Rk
end Go.Proofs.Ytncbgnpoffolcaa
