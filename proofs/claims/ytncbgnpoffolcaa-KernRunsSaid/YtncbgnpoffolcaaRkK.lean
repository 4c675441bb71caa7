/-
  The document's kernel: the walk of do: delay, take.
-/
import Derived.Test.YtncbgnpoffolcaaRkP
namespace Go.Proofs.Ytncbgnpoffolcaa
open Go.RowKit
namespace Rk
set_option maxRecDepth 100000 in
set_option maxHeartbeats 16000000 in
theorem do_2 {w : World} {B M : Nat} {r : K} {L : Ly} {m : Nat} {a : Nat} {ob : Int} (h : DO w B M r L m ⟨2, (a : Int), ob⟩) (ha : a ≤ 1000) (htk : r.ticks ≤ 1000000) :
 Calls Try.prog 50 #[.pointer (some ⟨L.b, 0, none⟩), .int .i64 m] w (DoPost w B (r.do_ m) L) := by
 refine (doHead h).2 ?_
 intro hM hm hpl hol hct gt ct im im0 cO ad hwr HK HF HTA hpl3 hgo hog KK hKK W2 F2 P2 W2F r1 EO hT1 hm1 HF1 hti hown hsem hsiz hcnt htic hou K2 HTA1 c0 x0 x1 x2
 clear h
 have EA : Hid (r1.act m ⟨2, (a : Int), ob⟩ = if (a : Int) = 0 then r1.back m else (r1.wait m 0 0 0).till m a 0) := rfl
 by_cases hc : a = 0
 ·subst hc
  have HC := zh (back_any K2.out hm1 (by have := HF1.out.tasks; exact this) (HF1.out.prio m hm1) (zt (HF1.out.len _) (by omega)))
  go_wp2_with fail
  refine HC.out.mono ?_
  rintro e w3 ⟨rfl, L3, k3, p3⟩
  have K3 := zh k3
  have P3 := zh (P2.out.trans p3)
  clear k3 p3
  go_wp2_with fail
  go_end0
  rw [EO.out]
  exact ⟨rfl, L3, K3.out, P3.out⟩
 ·have hci : ¬ (a : Int) = 0 := by omega
  have hcb : ((a : Int) == 0) = false := beq_eq_false_iff_ne.2 hci
  rw [if_neg hci] at EA
  have HC := zh (wait_any (0) (0) (0) K2.out hm1 (by have := HF1.out.tasks; exact this) (HF1.out.prio m hm1) (zt (HF1.out.len _) (by omega)) (by rw [hcnt.out]; omega))
  go_wp2_with fail
  refine HC.out.mono ?_
  rintro e W3 ⟨rfl, L3, k3, p3⟩
  have F3 := zh (F2.out.kp p3)
  have WF3 : Hid (Whole W3 w.heap.size 32 #[.int .i64 2, .int .i64 (a : Int), .int .i64 ob]) := W2F.out.same (F2.out.same p3)
  have HTA3 : Hid (L3.V .ta = .slice (some ⟨gt, 0, none⟩) r1.tasks.length ct) := (p3.fix .ta (by simp) (by simp)).trans HTA1.out
  have eb3 := p3.b
  have K3 := zh k3
  have P3 := zh (P2.out.trans p3)
  have hm3 : m < (r1.wait m (0) (0) (0)).tasks.length := by
   show m < (K.setT _ _ _).tasks.length
   rw [len_setT]
   exact hm1
  have htk3 : Hid ((r1.wait m (0) (0) (0)).ticks = r.ticks) := htic.out
  clear k3 p3 HC c0 x0 x1 x2
  have hT3 : (r1.wait m 0 0 0).tasks.length = r.tasks.length := by
   show (K.setT _ _ _).tasks.length = _
   rw [len_setT]
   exact hT1
  have HTA4 : Hid (L3.V .ta = .slice (some ⟨gt, 0, none⟩) (r1.wait m 0 0 0).tasks.length ct) := by
   show _ = _
   rw [hT3, ← hT1]
   exact HTA3.out
  have t6 : W3.cell? ⟨gt, m * 13 + 6, none⟩ = some (.int .i64 ((r1.wait m 0 0 0).ti m).wake) := K3.out.cTask HTA4.out hm3 (j := 6) (by decide)
  have f6 := K3.out.rowFree HTA4.out (m * 13 + 6)
  have t7 : W3.cell? ⟨gt, m * 13 + 7, none⟩ = some (.int .i64 ((r1.wait m 0 0 0).ti m).answer) := K3.out.cTask HTA4.out hm3 (j := 7) (by decide)
  have f7 := K3.out.rowFree HTA4.out (m * 13 + 7)
  have xt := K3.out.cTicks
  rw [htk3.out, eb3] at xt
  have y0 := WF3.out.cell 0
  have y1 := WF3.out.cell 1
  have y2 := WF3.out.cell 2
  simp only [za, zb, zc] at y0 y1 y2
  have hwt : IntKind.i64.wrap ((r.ticks : Int) + (a : Int)) = (r.ticks : Int) + (a : Int) := by rw [IntKind.wrap_i64]; omega
  obtain ⟨a1, a2⟩ := (K3.out.below ((zr _ _).drew)).till (x := (a : Int)) (a := 0) HTA4.out hm3
  rw [htk3.out] at a1 a2
  have A1 := zh a1
  have A2 := zh (P3.out.trans ((Kp.of_below ((zr _ _).drew)).trans a2))
  clear a1 a2 hT3
  generalize ((r1.wait m 0 0 0).ti m).wake = wk at *
  generalize ((r1.wait m 0 0 0).ti m).answer = an at *
  go_upto_region 13 with fail
  refine wp_region_need (S := fun w' => w'.cell? (⟨w.heap.size, 1, none⟩) = some (.int .i64 (a : Int)) ∧ w'.cell? (⟨L.b, 37, none⟩) = some (.int .i64 (r.ticks : Int))) (need := fun i => i != 10) 11 (bs 11 0) (by kernel_rfl) (by kernel_rfl) (by kernel_rfl) ?_ (fun hHeld => ?_)
  ·(try dsimp only)
   exact ⟨y1, xt⟩
  refine tk 0 (bs 11 1) (v := ?_) ?_ ?_; rotate_left 2
  refine tk 1 (bs 11 3) (v := ?_) ?_ ?_; rotate_left 2
  refine tk 2 (bs 11 7) (v := ?_) ?_ ?_; rotate_left 2
  refine tk 3 (bs 11 15) (v := ?_) ?_ ?_; rotate_left 2
  refine tk 4 (bs 11 31) (v := ?_) ?_ ?_; rotate_left 2
  refine tk 5 (bs 11 63) (v := ?_) ?_ ?_; rotate_left 2
  refine tk 6 (bs 11 127) (v := ?_) ?_ ?_; rotate_left 2
  refine tk 7 (bs 11 255) (v := ?_) ?_ ?_; rotate_left 2
  refine tk 8 (bs 11 511) (v := ?_) ?_ ?_; rotate_left 2
  refine tk 9 (bs 11 1023) (v := ?_) ?_ ?_; rotate_left 2
  rotate_left
  iterate 10 (rotate_left; focus (intro w hSw; (try dsimp only at hSw); obtain ⟨hS0', hS1'⟩ := hSw; go_simp; with_reducible rfl))
  try simp only [Act.put, p1, p2, p3, p4, p5, p6]
  refine wpAnyN_step (i := 10) (listed' := (bs 11 2047)) (by kernel_rfl) rfl (by kernel_rfl) (fun K hK => ?_)
  refine step_storeN rfl _ _ (by rfl) (by rfl) (by rfl) (z := .int .i64 wk) t6 f6 ?_
  refine hK.out _ _ ?_ (fun hHeld => ?_)
  ·exact fun h => absurd h (by decide)
  clear hK K
  try simp only [Act.put, p1, p2, p3]
  refine wpAnyN_done (by kernel_rfl) ?_ _
  clear hHeld
  go_wp2_with fail
  go_end0
  rw [EO.out, EA.out]
  exact ⟨rfl, L3, A1.out, A2.out⟩
set_option maxRecDepth 100000 in
set_option maxHeartbeats 16000000 in
theorem do_3 {w : World} {B M : Nat} {r : K} {L : Ly} {m : Nat} {a : Nat} {ob : Int} (h : DO w B M r L m ⟨3, (a : Int), ob⟩) (ha : a ≤ 15) (hb : ob ≤ 1000) (htk : r.ticks ≤ 1000000) (hss : ∀ h : a < r.sems.length, 0 ≤ r.sems[a] ∧ r.sems[a] ≤ 100) :
 Calls Try.prog 50 #[.pointer (some ⟨L.b, 0, none⟩), .int .i64 m] w (DoPost w B (r.do_ m) L) := by
 refine (doHead h).2 ?_
 intro hM hm hpl hol hct gt ct im im0 cO ad hwr HK HF HTA hpl3 hgo hog KK hKK W2 F2 P2 W2F r1 EO hT1 hm1 HF1 hti hown hsem hsiz hcnt htic hou K2 HTA1 c0 x0 x1 x2
 clear h
 have c33 := K2.out.cSa
 obtain ⟨A3, q3, e3, -, -⟩ := K2.out.slice .sa
 replace e3 : L.V .sa = .slice A3 r1.sems.length q3 := e3
 rw [e3] at c33
 have HSS : Hid (∀ h : a < r1.sems.length, 0 ≤ r1.sems[a] ∧ r1.sems[a] ≤ 100) := by
  have := hsem.out
  generalize r1.sems = ss at *
  subst this
  exact hss
 clear hss
 by_cases h1 : r1.sems.length ≤ a
 ·have EA : Hid (r1.act m ⟨3, (a : Int), ob⟩ = r1.say m 2) := by
   show K.take r1 m ⟨3, (a : Int), ob⟩ = _
   show (if r1.sems.length ≤ a then r1.say m 2 else _) = _
   rw [if_pos h1]
  have hge : (r1.sems.length : Int) ≤ (a : Int) := by omega
  have t4 : W2.cell? ⟨gt, m * 13 + 4, none⟩ = some (.int .i64 (r1.ti m).last) := K2.out.cTask HTA1.out hm1 (j := 4) (by decide)
  have f4 := K2.out.rowFree HTA1.out (m * 13 + 4)
  have KS := zh (K2.out.task (f := fun t => { t with last := 2 }) (u := .int .i64 2) HTA1.out hm1 (j := 4) (by decide) rfl rfl rfl)
  have PS := zh (P2.out.trans (Kp.task (w := W2) (i := m) (j := 4) (u := .int .i64 2) HTA1.out))
  go_wp2_with fail
  go_end0
  rw [EO.out, EA.out]
  exact ⟨rfl, L, KS.out, PS.out⟩
 ·have hal : a < r1.sems.length := by omega
  have ial : (a : Int) < (r1.sems.length : Int) := by omega
  have ia0 : (0 : Int) ≤ (a : Int) := by omega
  obtain ⟨gs, cs, hv⟩ := K2.out.form (p := .sa) (by show 0 < r1.sems.length; omega)
  replace hv : L.V .sa = .slice (some ⟨gs, 0, none⟩) r1.sems.length cs := hv
  have HV := zh hv
  rw [e3] at hv
  injection hv with hv _ hv2
  subst hv hv2
  have ca := K2.out.cRowInt (p := .sa) (l := r1.sems) HV.out ⟨rfl, rfl, rfl, rfl⟩ hal
  have fa := K2.out.rowFree HV.out a
  obtain ⟨b0, b1⟩ := HSS.out hal
  have eg : r1.sems.getD a 0 = r1.sems[a] := by rw [zd, List.getElem?_eq_getElem hal]; rfl
  have EA : Hid (r1.act m ⟨3, (a : Int), ob⟩ = if 0 < r1.sems[a] then ({ r1 with sems := r1.sems.modify a (· - 1) } : K).say m 0 else if ob = 0 then r1.say m 1 else if 0 < ob then (r1.wait m 1 (a : Int) 0).till m ob 1 else r1.wait m 1 (a : Int) 0) := by
   show K.take r1 m ⟨3, (a : Int), ob⟩ = _
   show (if r1.sems.length ≤ a then r1.say m 2 else _) = _
   rw [if_neg h1]
   show (if 0 < r1.sems.getD a 0 then _ else _) = _
   rw [eg]
   rfl
  have KSM : Hid (∀ W, RM W B r1 L → RM (W.setCell ⟨gs, a, none⟩ (.int .i64 (r1.sems[a] - 1))) B { r1 with sems := r1.sems.modify a (· - 1) } L) := fun W hW => hW.semMod (f := (· - 1)) HV.out hal
  have hgsl : gs < W2.heap.size := (K2.out.rowLt (p := .sa) (g := gs) (by rw [HV.out]; rfl)).2
  have hgol := F2.out.lt
  have hLbl := K2.out.lt
  have egt : gs ≠ gt := fun e => K2.out.apart .sa .ta gs (by decide) (by rw [HV.out]; rfl) (by rw [HTA1.out, e]; rfl)
  have egt2 : gt ≠ gs := egt.symm
  clear eg e3 h1
  generalize r1.sems[a] = sv at *
  by_cases h2 : 0 < sv
  ·rw [if_pos h2] at EA
   have hd : decide (0 < sv) = true := zu h2
   have hwm : IntKind.i64.wrap (sv - 1) = sv - 1 := by rw [IntKind.wrap_i64]; omega
   go_upto_region 18 with fail
   refine zy ?_
   repeat go_big_quiet_step (fail)
   refine wpQuiet_nil ?_
   intro _ hw'
   obtain ⟨nq, hw2⟩ := hw'
   subst hw2
   replace c33 : (W2.drewN nq).cell? ⟨L.b, 33, none⟩ = some (.slice (some ⟨gs, 0, none⟩) r1.sems.length q3) := c33
   replace ca : (W2.drewN nq).cell? ⟨gs, a, none⟩ = some (.int .i64 sv) := ca
   replace fa : (W2.drewN nq).frozen? ⟨gs, a, none⟩ = false := fa
   replace x1 : (W2.drewN nq).cell? ⟨w.heap.size, 1, none⟩ = some (.int .i64 (a : Int)) := x1
   replace hgsl : gs < (W2.drewN nq).heap.size := hgsl
   replace hgol : w.heap.size < (W2.drewN nq).heap.size := hgol
   replace hLbl : L.b < (W2.drewN nq).heap.size := hLbl
   have KQ : Hid (RM (W2.drewN nq) B r1 L) := K2.out.below ((zr _ _).drewN' _)
   have PQ : Hid (Kp w L (W2.drewN nq) L) := P2.out.drewN _
   have FQ : Hid (Fo (W2.drewN nq) L w.heap.size) := ⟨F2.out.lt, F2.out.b, F2.out.V⟩
   have WQ : Hid (Whole (W2.drewN nq) w.heap.size 32 #[.int .i64 3, .int .i64 (a : Int), .int .i64 ob]) := W2F.out
   clear K2 P2 F2 W2F c0 x0 x2
   generalize W2.drewN nq = W2 at *
   have K2 := KQ
   have P2 := PQ
   have F2 := FQ
   have W2F := WQ
   clear KQ PQ FQ WQ
   have k3 := KSM.out _ (K2.out.below ((zr _ _).drew))
   have p3 := P2.out.trans ((Kp.of_below ((zr _ W2).drew)).trans (Kp.put (w := W2.drew) (p := .sa) (g := gs) (j := a) (u := .int .i64 (sv - 1)) (by rw [HV.out]; rfl)))
   have t4 : (W2.drew.setCell ⟨gs, a, none⟩ (.int .i64 (sv - 1))).cell? ⟨gt, m * 13 + 4, none⟩ = some (.int .i64 (r1.ti m).last) := k3.cTask HTA1.out hm1 (j := 4) (by decide)
   have f4 := k3.rowFree HTA1.out (m * 13 + 4)
   have K3 := zh k3
   have P3 := zh p3
   clear k3 p3 KSM
   go_upto_region 19 with fail
   refine wp_region_need (S := fun w' => w'.cell? (⟨L.b, 33, none⟩) = some (.slice (some ⟨gs, 0, none⟩) r1.sems.length q3) ∧ w'.cell? (⟨w.heap.size, 1, none⟩) = some (.int .i64 (a : Int)) ∧ w'.cell? (⟨gs, a, none⟩) = some (.int .i64 sv)) (need := fun i => i != 10) 11 (bs 11 0) (by kernel_rfl) (by kernel_rfl) (by kernel_rfl) ?_ (fun hHeld => ?_)
   ·(try dsimp only)
    exact ⟨c33, x1, ca⟩
   refine tk 0 (bs 11 1) (v := ?_) ?_ ?_; rotate_left 2
   refine tk 1 (bs 11 3) (v := ?_) ?_ ?_; rotate_left 2
   refine tk 2 (bs 11 7) (v := ?_) ?_ ?_; rotate_left 2
   refine tk 3 (bs 11 15) (v := ?_) ?_ ?_; rotate_left 2
   refine tk 4 (bs 11 31) (v := ?_) ?_ ?_; rotate_left 2
   refine tk 5 (bs 11 63) (v := ?_) ?_ ?_; rotate_left 2
   refine tk 6 (bs 11 127) (v := ?_) ?_ ?_; rotate_left 2
   refine tk 7 (bs 11 255) (v := ?_) ?_ ?_; rotate_left 2
   refine tk 8 (bs 11 511) (v := ?_) ?_ ?_; rotate_left 2
   refine tk 9 (bs 11 1023) (v := ?_) ?_ ?_; rotate_left 2
   rotate_left
   iterate 10 (rotate_left; focus (intro w hSw; (try dsimp only at hSw); obtain ⟨hS0', hS1', hS2'⟩ := hSw; go_simp; with_reducible rfl))
   try simp only [Act.put, p1, p2, p3, p4, p5, p6]
   refine wpAnyN_step (i := 10) (listed' := (bs 11 2047)) (by kernel_rfl) rfl (by kernel_rfl) (fun K hK => ?_)
   refine step_storeN rfl _ _ (by rfl) (by rfl) (by rfl) (z := .int .i64 sv) ca fa ?_
   refine hK.out _ _ ?_ (fun hHeld => ?_)
   ·exact fun h => absurd h (by decide)
   clear hK K
   try simp only [Act.put, p1, p2, p3]
   refine wpAnyN_done (by kernel_rfl) ?_ _
   clear hHeld
   generalize W2.drew.setCell ⟨gs, a, none⟩ (.int .i64 (sv - 1)) = W5 at *
   have KS := zh (K3.out.task (f := fun t => { t with last := 0 }) (u := .int .i64 0) HTA1.out hm1 (j := 4) (by decide) rfl rfl rfl)
   have PS := zh (P3.out.trans (Kp.task (w := W5) (i := m) (j := 4) (u := .int .i64 0) HTA1.out))
   go_wp2_with fail
   go_end0
   rw [EO.out, EA.out]
   exact ⟨rfl, L, KS.out, PS.out⟩
  ·rw [if_neg h2] at EA
   have hd : decide (0 < sv) = false := decide_eq_false h2
   go_upto_region 18 with fail
   refine zy ?_
   repeat go_big_quiet_step (fail)
   refine wpQuiet_nil ?_
   intro _ hw'
   obtain ⟨nq, hw2⟩ := hw'
   subst hw2
   replace x2 : (W2.drewN nq).cell? ⟨w.heap.size, 2, none⟩ = some (.int .i64 ob) := x2
   replace x1 : (W2.drewN nq).cell? ⟨w.heap.size, 1, none⟩ = some (.int .i64 (a : Int)) := x1
   clear fa ca c33 hgsl hgol hLbl KSM
   have KQ : Hid (RM (W2.drewN nq) B r1 L) := K2.out.below ((zr _ _).drewN' _)
   have PQ : Hid (Kp w L (W2.drewN nq) L) := P2.out.drewN _
   have FQ : Hid (Fo (W2.drewN nq) L w.heap.size) := ⟨F2.out.lt, F2.out.b, F2.out.V⟩
   have WQ : Hid (Whole (W2.drewN nq) w.heap.size 32 #[.int .i64 3, .int .i64 (a : Int), .int .i64 ob]) := W2F.out
   clear K2 P2 F2 W2F c0 x0
   generalize W2.drewN nq = W2 at *
   have K2 := KQ
   have P2 := PQ
   have F2 := FQ
   have W2F := WQ
   clear KQ PQ FQ WQ
   by_cases h3 : ob = 0
   ·rw [if_pos h3] at EA
    subst h3
    have t4 : W2.cell? ⟨gt, m * 13 + 4, none⟩ = some (.int .i64 (r1.ti m).last) := K2.out.cTask HTA1.out hm1 (j := 4) (by decide)
    have f4 := K2.out.rowFree HTA1.out (m * 13 + 4)
    have KS := zh (K2.out.task (f := fun t => { t with last := 1 }) (u := .int .i64 1) HTA1.out hm1 (j := 4) (by decide) rfl rfl rfl)
    have PS := zh (P2.out.trans (Kp.task (w := W2) (i := m) (j := 4) (u := .int .i64 1) HTA1.out))
    go_wp2_with fail
    go_end0
    rw [EO.out, EA.out]
    exact ⟨rfl, L, KS.out, PS.out⟩
   ·rw [if_neg h3] at EA
    have hb3 : (ob == 0) = false := by simp [h3]
    have c0 := K2.out.cTa
    rw [HTA.out] at c0
    have x0 := x1
    by_cases h4 : 0 < ob
    ·rw [if_pos h4] at EA
     have HC := zh (wait_any (1) ((a : Int)) (0) K2.out hm1 (by have := HF1.out.tasks; exact this) (HF1.out.prio m hm1) (zt (HF1.out.len _) (by omega)) (by rw [hcnt.out]; omega))
     go_wp2_with fail
     refine HC.out.mono ?_
     rintro e W3 ⟨rfl, L3, k3, p3⟩
     have F3 := zh (F2.out.kp p3)
     have WF3 : Hid (Whole W3 w.heap.size 32 #[.int .i64 3, .int .i64 (a : Int), .int .i64 ob]) := W2F.out.same (F2.out.same p3)
     have HTA3 : Hid (L3.V .ta = .slice (some ⟨gt, 0, none⟩) r1.tasks.length ct) := (p3.fix .ta (by simp) (by simp)).trans HTA1.out
     have eb3 := p3.b
     have K3 := zh k3
     have P3 := zh (P2.out.trans p3)
     have hm3 : m < (r1.wait m (1) ((a : Int)) (0)).tasks.length := by
      show m < (K.setT _ _ _).tasks.length
      rw [len_setT]
      exact hm1
     have htk3 : Hid ((r1.wait m (1) ((a : Int)) (0)).ticks = r.ticks) := htic.out
     clear k3 p3 HC c0 x0 x1 x2
     have hd4 : decide (0 < ob) = true := zu h4
     have hT3 : (r1.wait m 1 (a : Int) 0).tasks.length = r.tasks.length := by
      show (K.setT _ _ _).tasks.length = _
      rw [len_setT]
      exact hT1
     have HTA4 : Hid (L3.V .ta = .slice (some ⟨gt, 0, none⟩) (r1.wait m 1 (a : Int) 0).tasks.length ct) := by
      show _ = _
      rw [hT3, ← hT1]
      exact HTA3.out
     have t6 : W3.cell? ⟨gt, m * 13 + 6, none⟩ = some (.int .i64 ((r1.wait m 1 (a : Int) 0).ti m).wake) := K3.out.cTask HTA4.out hm3 (j := 6) (by decide)
     have f6 := K3.out.rowFree HTA4.out (m * 13 + 6)
     have t7 : W3.cell? ⟨gt, m * 13 + 7, none⟩ = some (.int .i64 ((r1.wait m 1 (a : Int) 0).ti m).answer) := K3.out.cTask HTA4.out hm3 (j := 7) (by decide)
     have f7 := K3.out.rowFree HTA4.out (m * 13 + 7)
     have xt := K3.out.cTicks
     rw [htk3.out, eb3] at xt
     have y0 := WF3.out.cell 0
     have y1 := WF3.out.cell 1
     have y2 := WF3.out.cell 2
     simp only [za, zb, zc] at y0 y1 y2
     have hwt : IntKind.i64.wrap ((r.ticks : Int) + ob) = (r.ticks : Int) + ob := by rw [IntKind.wrap_i64]; omega
     obtain ⟨a1, a2⟩ := (K3.out.below ((zr _ _).drew)).till (x := ob) (a := 1) HTA4.out hm3
     rw [htk3.out] at a1 a2
     have A1 := zh a1
     have A2 := zh (P3.out.trans ((Kp.of_below ((zr _ _).drew)).trans a2))
     clear a1 a2 hT3
     generalize ((r1.wait m 1 (a : Int) 0).ti m).wake = wk at *
     generalize ((r1.wait m 1 (a : Int) 0).ti m).answer = an at *
     go_upto_region 25 with fail
     refine wp_region_need (S := fun w' => w'.cell? (⟨w.heap.size, 2, none⟩) = some (.int .i64 ob) ∧ w'.cell? (⟨L.b, 37, none⟩) = some (.int .i64 (r.ticks : Int))) (need := fun i => i != 10) 11 (bs 11 0) (by kernel_rfl) (by kernel_rfl) (by kernel_rfl) ?_ (fun hHeld => ?_)
     ·(try dsimp only)
      exact ⟨y2, xt⟩
     refine tk 0 (bs 11 1) (v := ?_) ?_ ?_; rotate_left 2
     refine tk 1 (bs 11 3) (v := ?_) ?_ ?_; rotate_left 2
     refine tk 2 (bs 11 7) (v := ?_) ?_ ?_; rotate_left 2
     refine tk 3 (bs 11 15) (v := ?_) ?_ ?_; rotate_left 2
     refine tk 4 (bs 11 31) (v := ?_) ?_ ?_; rotate_left 2
     refine tk 5 (bs 11 63) (v := ?_) ?_ ?_; rotate_left 2
     refine tk 6 (bs 11 127) (v := ?_) ?_ ?_; rotate_left 2
     refine tk 7 (bs 11 255) (v := ?_) ?_ ?_; rotate_left 2
     refine tk 8 (bs 11 511) (v := ?_) ?_ ?_; rotate_left 2
     refine tk 9 (bs 11 1023) (v := ?_) ?_ ?_; rotate_left 2
     rotate_left
     iterate 10 (rotate_left; focus (intro w hSw; (try dsimp only at hSw); obtain ⟨hS0', hS1'⟩ := hSw; go_simp; with_reducible rfl))
     try simp only [Act.put, p1, p2, p3, p4, p5, p6]
     refine wpAnyN_step (i := 10) (listed' := (bs 11 2047)) (by kernel_rfl) rfl (by kernel_rfl) (fun K hK => ?_)
     refine step_storeN rfl _ _ (by rfl) (by rfl) (by rfl) (z := .int .i64 wk) t6 f6 ?_
     refine hK.out _ _ ?_ (fun hHeld => ?_)
     ·exact fun h => absurd h (by decide)
     clear hK K
     try simp only [Act.put, p1, p2, p3]
     refine wpAnyN_done (by kernel_rfl) ?_ _
     clear hHeld
     go_wp2_with fail
     go_end0
     rw [EO.out, EA.out]
     exact ⟨rfl, L3, A1.out, A2.out⟩
    ·rw [if_neg h4] at EA
     have HC := zh (wait_any (1) ((a : Int)) (0) K2.out hm1 (by have := HF1.out.tasks; exact this) (HF1.out.prio m hm1) (zt (HF1.out.len _) (by omega)) (by rw [hcnt.out]; omega))
     go_wp2_with fail
     refine HC.out.mono ?_
     rintro e W3 ⟨rfl, L3, k3, p3⟩
     have F3 := zh (F2.out.kp p3)
     have WF3 : Hid (Whole W3 w.heap.size 32 #[.int .i64 3, .int .i64 (a : Int), .int .i64 ob]) := W2F.out.same (F2.out.same p3)
     have HTA3 : Hid (L3.V .ta = .slice (some ⟨gt, 0, none⟩) r1.tasks.length ct) := (p3.fix .ta (by simp) (by simp)).trans HTA1.out
     have eb3 := p3.b
     have K3 := zh k3
     have P3 := zh (P2.out.trans p3)
     have hm3 : m < (r1.wait m (1) ((a : Int)) (0)).tasks.length := by
      show m < (K.setT _ _ _).tasks.length
      rw [len_setT]
      exact hm1
     have htk3 : Hid ((r1.wait m (1) ((a : Int)) (0)).ticks = r.ticks) := htic.out
     clear k3 p3 HC c0 x0 x1 x2
     have y0 := WF3.out.cell 0
     have y1 := WF3.out.cell 1
     have y2 := WF3.out.cell 2
     simp only [za, zb, zc] at y0 y1 y2
     have hd4 : decide (0 < ob) = false := decide_eq_false (by omega)
     go_wp2_with fail
     go_end0
     rw [EO.out, EA.out]
     exact ⟨rfl, L3, K3.out, P3.out⟩
end Rk
end Go.Proofs.Ytncbgnpoffolcaa
