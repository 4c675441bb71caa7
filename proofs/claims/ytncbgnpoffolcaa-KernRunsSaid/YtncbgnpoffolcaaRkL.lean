/-
  The document's kernel: the walk of do: give, lock, unlock.
-/
import Derived.Test.YtncbgnpoffolcaaRkP
namespace Go.Proofs.Ytncbgnpoffolcaa
open Go.RowKit
namespace Rk
set_option maxRecDepth 100000 in
set_option maxHeartbeats 16000000 in
theorem do_4 {w : World} {B M : Nat} {r : K} {L : Ly} {m : Nat} {a : Nat} {ob : Int} (h : DO w B M r L m ⟨4, (a : Int), ob⟩) (ha : a ≤ 15) (hss : ∀ h : a < r.sems.length, 0 ≤ r.sems[a] ∧ r.sems[a] ≤ 100) :
 Calls Try.prog 50 #[.pointer (some ⟨L.b, 0, none⟩), .int .i64 m] w (DoPost w B (r.do_ m) L) := by
 refine (doHead h).2 ?_
 intro hM hm hpl hol hct gt ct im im0 cO ad hwr HK HF HTA hpl3 hgo hog KK hKK W2 F2 P2 W2F r1 EO hT1 hm1 HF1 hti hown hsem hsiz hcnt htic hou K2 HTA1 c0 x0 x1 x2
 clear h
 have c33 := K2.out.cSa
 obtain ⟨A3, q3, e3, -, -⟩ := K2.out.slice .sa
 replace e3 : L.V .sa = .slice A3 r1.sems.length q3 := e3
 rw [e3] at c33
 have HSS : Hid (∀ h : a < r1.sems.length, 0 ≤ r1.sems[a] ∧ r1.sems[a] ≤ 100) := by
  have := hsem.out
  generalize r1.sems = ss at *
  subst this
  exact hss
 clear hss
 by_cases h1 : r1.sems.length ≤ a
 ·have EA : Hid (r1.act m ⟨4, (a : Int), ob⟩ = r1.say m 2) := by
   show K.give r1 m ⟨4, (a : Int), ob⟩ = _
   show (if r1.sems.length ≤ a then r1.say m 2 else _) = _
   rw [if_pos h1]
  have hge : (r1.sems.length : Int) ≤ (a : Int) := by omega
  have t4 : W2.cell? ⟨gt, m * 13 + 4, none⟩ = some (.int .i64 (r1.ti m).last) := K2.out.cTask HTA1.out hm1 (j := 4) (by decide)
  have f4 := K2.out.rowFree HTA1.out (m * 13 + 4)
  have KS := zh (K2.out.task (f := fun t => { t with last := 2 }) (u := .int .i64 2) HTA1.out hm1 (j := 4) (by decide) rfl rfl rfl)
  have PS := zh (P2.out.trans (Kp.task (w := W2) (i := m) (j := 4) (u := .int .i64 2) HTA1.out))
  go_wp2_with fail
  go_end0
  rw [EO.out, EA.out]
  exact ⟨rfl, L, KS.out, PS.out⟩
 ·have hal : a < r1.sems.length := by omega
  have ial : (a : Int) < (r1.sems.length : Int) := by omega
  have ia0 : (0 : Int) ≤ (a : Int) := by omega
  obtain ⟨gs, cs, hv⟩ := K2.out.form (p := .sa) (by show 0 < r1.sems.length; omega)
  replace hv : L.V .sa = .slice (some ⟨gs, 0, none⟩) r1.sems.length cs := hv
  have HV := zh hv
  rw [e3] at hv
  injection hv with hv _ hv2
  subst hv hv2
  have ca := K2.out.cRowInt (p := .sa) (l := r1.sems) HV.out ⟨rfl, rfl, rfl, rfl⟩ hal
  have fa := K2.out.rowFree HV.out a
  have hgsl : gs < W2.heap.size := (K2.out.rowLt (p := .sa) (g := gs) (by rw [HV.out]; rfl)).2
  have hgol := F2.out.lt
  have hLbl := K2.out.lt
  have egt : gs ≠ gt := fun e => K2.out.apart .sa .ta gs (by decide) (by rw [HV.out]; rfl) (by rw [HTA1.out, e]; rfl)
  have egt2 : gt ≠ gs := egt.symm
  obtain ⟨b0, b1⟩ := HSS.out hal
  have eg : r1.sems.getD a 0 = r1.sems[a] := by rw [zd, List.getElem?_eq_getElem hal]; rfl
  have EA : Hid (r1.act m ⟨4, (a : Int), ob⟩ = if 0 ≤ (r1.say m 0).best 1 a then (r1.say m 0).ready ((r1.say m 0).best 1 a) 0 else if 100 ≤ r1.sems[a] then (r1.say m 0).say m 4 else ({ r1.say m 0 with sems := r1.sems.modify a (· + 1) } : K)) := by
   show K.give r1 m ⟨4, (a : Int), ob⟩ = _
   show (if r1.sems.length ≤ a then r1.say m 2 else _) = _
   rw [if_neg h1, ← eg]
   rfl
  have t4 : W2.cell? ⟨gt, m * 13 + 4, none⟩ = some (.int .i64 (r1.ti m).last) := K2.out.cTask HTA1.out hm1 (j := 4) (by decide)
  have f4 := K2.out.rowFree HTA1.out (m * 13 + 4)
  have q3' := K2.out.task (f := fun t => { t with last := 0 }) (u := .int .i64 0) HTA1.out hm1 (j := 4) (by decide) rfl rfl rfl
  have p3' := P2.out.trans (Kp.task (w := W2) (i := m) (j := 4) (u := .int .i64 0) HTA1.out)
  have f3' := F2.out.kp (Kp.task (w := W2) (i := m) (j := 4) (u := .int .i64 0) HTA1.out)
  have w3' := W2F.out.far (p := ⟨gt, m * 13 + 4, none⟩) hog (.int .i64 0)
  have hr2 : RF (r1.say m 0) M := HF1.out.setT hm1 (HF1.out.prio m hm1)
  have hBst := zh (best_any (r := r1.say m 0) 1 (a : Int) q3' hr2.tasks hr2.pos)
  have K3 := zh q3'
  have P3 := zh p3'
  have F3 := zh f3'
  have WF3 := zh w3'
  have HR2 := zh hr2
  have hm2 : m < (r1.say m 0).tasks.length := by unfold K.say; rw [len_setT]; exact hm1
  have ht2 : Hid ((r1.say m 0).tasks.length = r1.tasks.length) := len_setT
  have hs2 : Hid ((r1.say m 0).sems = r1.sems) := rfl
  replace K3 : Hid (RM (W2.setCell ⟨gt, m * 13 + 4, none⟩ (.int .i64 0)) B (r1.say m 0) L) := K3
  clear q3' p3' f3' w3' hr2 e3 eg h1
  generalize r1.say m 0 = r2 at *
  go_wp2_with fail
  refine hBst.out.mono ?_
  rintro e W4 ⟨rfl, hb4⟩
  have K4 := zh (K3.out.below hb4)
  have P4 := zh (P3.out.trans (Kp.of_below hb4))
  have F4 : Hid (Fo W4 L w.heap.size) := F3.out.kp (Kp.of_below hb4)
  have WF4 : Hid (Whole W4 w.heap.size 32 #[.int .i64 4, .int .i64 (a : Int), .int .i64 ob]) := WF3.out.same (hb4.block _ F3.out.lt)
  have HTA4 : Hid (L.V .ta = .slice (some ⟨gt, 0, none⟩) r2.tasks.length ct) := by show _ = _; rw [ht2.out]; exact HTA1.out
  clear c33 ca fa hgsl hgol hLbl c0 x0 x1 x2 t4 f4 hb4 hBst K3 P3 F3 WF3 K2 P2 F2 W2F
  have c33 := K4.out.cSa
  rw [HV.out] at c33
  have ca : W4.cell? ⟨gs, a, none⟩ = some (.int .i64 (r1.sems[a]'hal)) := by
   have q := K4.out.cRowInt (p := .sa) (l := r1.sems) HV.out ⟨rfl, rfl, by show r2.sems.length = _; rw [hs2.out], by show intV r2.sems = _; rw [hs2.out]⟩ hal
   exact q
  have fa := K4.out.rowFree HV.out a
  have hgsl : gs < W4.heap.size := (K4.out.rowLt (p := .sa) (g := gs) (by rw [HV.out]; rfl)).2
  have hgol := F4.out.lt
  have hLbl := K4.out.lt
  have x0 := WF4.out.cell 0
  have x1 := WF4.out.cell 1
  have x2 := WF4.out.cell 2
  simp only [za, zb, zc] at x0 x1 x2
  have hbr := best_range (r := r2) 1 a
  have KSM : Hid (∀ W, RM W B r2 L → RM (W.setCell ⟨gs, a, none⟩ (.int .i64 (r1.sems[a] + 1))) B { r2 with sems := r1.sems.modify a (· + 1) } L) := fun W hW => by
   have e : r2.sems = r1.sems := hs2.out
   have hal2 : a < r2.sems.length := by rw [e]; exact hal
   have q := hW.semMod (f := (· + 1)) HV.out hal2
   have e2 : r2.sems[a] = r1.sems[a] := by simp only [e]
   rw [e2, e] at q
   exact q
  generalize r1.sems[a] = sv at *
  generalize hbb : r2.best 1 a = b at *
  clear hbb
  by_cases h2 : 0 ≤ b
  ·rw [if_pos h2] at EA
   obtain ⟨j, rfl⟩ := Int.eq_ofNat_of_zero_le h2
   have hj : j < r2.tasks.length := by omega
   have HRD := zh (ready_any (m := j) 0 K4.out hj HR2.out.tasks (HR2.out.prio j hj) (zt (HR2.out.len _) (by omega)))
   clear KSM fa ca
   go_wp2_with fail
   refine HRD.out.mono ?_
   rintro e W5 ⟨rfl, L5, k5, p5⟩
   have K5 := zh k5
   have P5 := zh (P4.out.trans p5)
   clear k5 p5
   go_wp2_with fail
   go_end0
   rw [EO.out, EA.out]
   exact ⟨rfl, L5, K5.out, P5.out⟩
  ·rw [if_neg h2] at EA
   have hdb : decide (0 ≤ b) = false := decide_eq_false h2
   have h2' : b < 0 := by omega
   by_cases h3 : 100 ≤ sv
   ·rw [if_pos h3] at EA
    have hd : decide (100 ≤ sv) = true := zu h3
    clear fa KSM
    go_upto_region 35 with fail
    refine zy ?_
    repeat go_big_quiet_step (fail)
    refine wpQuiet_nil ?_
    intro _ hw'
    obtain ⟨nq, hw2⟩ := hw'
    subst hw2
    have KQ : Hid (RM (W4.drewN nq) B r2 L) := K4.out.below ((zr _ _).drewN' _)
    have PQ : Hid (Kp w L (W4.drewN nq) L) := P4.out.drewN _
    clear ca c33 x0 x1 x2 hgsl hgol hLbl K4 P4 F4 WF4
    generalize W4.drewN nq = W5 at *
    have t4 : W5.cell? ⟨gt, m * 13 + 4, none⟩ = some (.int .i64 (r2.ti m).last) := KQ.out.cTask HTA4.out hm2 (j := 4) (by decide)
    have f4 := KQ.out.rowFree HTA4.out (m * 13 + 4)
    have KS := zh (KQ.out.task (f := fun t => { t with last := 4 }) (u := .int .i64 4) HTA4.out hm2 (j := 4) (by decide) rfl rfl rfl)
    have PS := zh (PQ.out.trans (Kp.task (w := W5) (i := m) (j := 4) (u := .int .i64 4) HTA4.out))
    go_wp2_with fail
    go_end0
    rw [EO.out, EA.out]
    exact ⟨rfl, L, KS.out, PS.out⟩
   ·rw [if_neg h3] at EA
    have hd : decide (100 ≤ sv) = false := decide_eq_false h3
    have hwm : IntKind.i64.wrap (sv + 1) = sv + 1 := by rw [IntKind.wrap_i64]; omega
    go_upto_region 35 with fail
    refine zy ?_
    repeat go_big_quiet_step (fail)
    refine wpQuiet_nil ?_
    intro _ hw'
    obtain ⟨nq, hw2⟩ := hw'
    subst hw2
    have KQ : Hid (RM (W4.drewN nq) B r2 L) := K4.out.below ((zr _ _).drewN' _)
    have PQ : Hid (Kp w L (W4.drewN nq) L) := P4.out.drewN _
    replace c33 : (W4.drewN nq).cell? ⟨L.b, 33, none⟩ = some (.slice (some ⟨gs, 0, none⟩) r1.sems.length q3) := c33
    replace ca : (W4.drewN nq).cell? ⟨gs, a, none⟩ = some (.int .i64 sv) := ca
    replace fa : (W4.drewN nq).frozen? ⟨gs, a, none⟩ = false := fa
    replace x1 : (W4.drewN nq).cell? ⟨w.heap.size, 1, none⟩ = some (.int .i64 (a : Int)) := x1
    clear x0 x2 hgsl hgol hLbl K4 P4 F4 WF4
    generalize W4.drewN nq = W5 at *
    have k6 := KSM.out _ (KQ.out.below ((zr _ _).drew))
    have p6 := PQ.out.trans ((Kp.of_below ((zr _ W5).drew)).trans (Kp.put (w := W5.drew) (p := .sa) (g := gs) (j := a) (u := .int .i64 (sv + 1)) (by rw [HV.out]; rfl)))
    have K6 := zh k6
    have P6 := zh p6
    clear k6 p6 KSM
    go_upto_region 32 with fail
    refine wp_region_need (S := fun w' => w'.cell? (⟨L.b, 33, none⟩) = some (.slice (some ⟨gs, 0, none⟩) r1.sems.length q3) ∧ w'.cell? (⟨w.heap.size, 1, none⟩) = some (.int .i64 (a : Int)) ∧ w'.cell? (⟨gs, a, none⟩) = some (.int .i64 sv)) (need := fun i => i != 10) 11 (bs 11 0) (by kernel_rfl) (by kernel_rfl) (by kernel_rfl) ?_ (fun hHeld => ?_)
    ·(try dsimp only)
     exact ⟨c33, x1, ca⟩
    refine tk 0 (bs 11 1) (v := ?_) ?_ ?_; rotate_left 2
    refine tk 1 (bs 11 3) (v := ?_) ?_ ?_; rotate_left 2
    refine tk 2 (bs 11 7) (v := ?_) ?_ ?_; rotate_left 2
    refine tk 3 (bs 11 15) (v := ?_) ?_ ?_; rotate_left 2
    refine tk 4 (bs 11 31) (v := ?_) ?_ ?_; rotate_left 2
    refine tk 5 (bs 11 63) (v := ?_) ?_ ?_; rotate_left 2
    refine tk 6 (bs 11 127) (v := ?_) ?_ ?_; rotate_left 2
    refine tk 7 (bs 11 255) (v := ?_) ?_ ?_; rotate_left 2
    refine tk 8 (bs 11 511) (v := ?_) ?_ ?_; rotate_left 2
    refine tk 9 (bs 11 1023) (v := ?_) ?_ ?_; rotate_left 2
    rotate_left
    iterate 10 (rotate_left; focus (intro w hSw; (try dsimp only at hSw); obtain ⟨hS0', hS1', hS2'⟩ := hSw; go_simp; with_reducible rfl))
    try simp only [Act.put, p1, p2, p3, p4, p5, p6]
    refine wpAnyN_step (i := 10) (listed' := (bs 11 2047)) (by kernel_rfl) rfl (by kernel_rfl) (fun K hK => ?_)
    refine step_storeN rfl _ _ (by rfl) (by rfl) (by rfl) (z := .int .i64 sv) ca fa ?_
    refine hK.out _ _ ?_ (fun hHeld => ?_)
    ·exact fun h => absurd h (by decide)
    clear hK K
    try simp only [Act.put, p1, p2, p3]
    refine wpAnyN_done (by kernel_rfl) ?_ _
    clear hHeld
    go_wp2_with fail
    go_end0
    rw [EO.out, EA.out]
    exact ⟨rfl, L, K6.out, P6.out⟩
set_option maxRecDepth 100000 in
set_option maxHeartbeats 16000000 in
theorem do_5 {w : World} {B M : Nat} {r : K} {L : Ly} {m : Nat} {a : Nat} {ob : Int} (h : DO w B M r L m ⟨5, (a : Int), ob⟩) (ha : a ≤ 15) :
 Calls Try.prog 50 #[.pointer (some ⟨L.b, 0, none⟩), .int .i64 m] w (DoPost w B (r.do_ m) L) := by
 refine (doHead h).2 ?_
 intro hM hm hpl hol hct gt ct im im0 cO ad hwr HK HF HTA hpl3 hgo hog KK hKK W2 F2 P2 W2F r1 EO hT1 hm1 HF1 hti hown hsem hsiz hcnt htic hou K2 HTA1 c0 x0 x1 x2
 clear h
 have c34 := K2.out.cOw
 obtain ⟨A3, q3, e3, -, -⟩ := K2.out.slice .ow
 replace e3 : L.V .ow = .slice A3 r1.owner.length q3 := e3
 rw [e3] at c34
 by_cases h1 : r1.owner.length ≤ a
 ·have EA : Hid (r1.act m ⟨5, (a : Int), ob⟩ = r1.say m 2) := by
   show K.lock r1 m ⟨5, (a : Int), ob⟩ = _
   show (if r1.owner.length ≤ a then r1.say m 2 else _) = _
   rw [if_pos h1]
  have hge : (r1.owner.length : Int) ≤ (a : Int) := by omega
  have t4 : W2.cell? ⟨gt, m * 13 + 4, none⟩ = some (.int .i64 (r1.ti m).last) := K2.out.cTask HTA1.out hm1 (j := 4) (by decide)
  have f4 := K2.out.rowFree HTA1.out (m * 13 + 4)
  have KS := zh (K2.out.task (f := fun t => { t with last := 2 }) (u := .int .i64 2) HTA1.out hm1 (j := 4) (by decide) rfl rfl rfl)
  have PS := zh (P2.out.trans (Kp.task (w := W2) (i := m) (j := 4) (u := .int .i64 2) HTA1.out))
  go_wp2_with fail
  go_end0
  rw [EO.out, EA.out]
  exact ⟨rfl, L, KS.out, PS.out⟩
 ·have hal : a < r1.owner.length := by omega
  have ial : (a : Int) < (r1.owner.length : Int) := by omega
  have ia0 : (0 : Int) ≤ (a : Int) := by omega
  obtain ⟨gs, cs, hv⟩ := K2.out.form (p := .ow) (by show 0 < r1.owner.length; omega)
  replace hv : L.V .ow = .slice (some ⟨gs, 0, none⟩) r1.owner.length cs := hv
  have HV := zh hv
  rw [e3] at hv
  injection hv with hv _ hv2
  subst hv hv2
  have ca := K2.out.cRowInt (p := .ow) (l := r1.owner) HV.out ⟨rfl, rfl, rfl, rfl⟩ hal
  have fa := K2.out.rowFree HV.out a
  have hgsl : gs < W2.heap.size := (K2.out.rowLt (p := .ow) (g := gs) (by rw [HV.out]; rfl)).2
  have hgol := F2.out.lt
  have hLbl := K2.out.lt
  have egt : gs ≠ gt := fun e => K2.out.apart .ow .ta gs (by decide) (by rw [HV.out]; rfl) (by rw [HTA1.out, e]; rfl)
  have egt2 : gt ≠ gs := egt.symm
  have eg : r1.owner.getD a 0 = r1.owner[a] := by rw [zd, List.getElem?_eq_getElem hal]; rfl
  have EA : Hid (r1.act m ⟨5, (a : Int), ob⟩ = if r1.owner[a] = -1 then ({ r1 with owner := r1.owner.set a m } : K).say m 0 else if r1.owner[a] = m then r1.say m 3 else r1.wait m 2 (a : Int) 0) := by
   show K.lock r1 m ⟨5, (a : Int), ob⟩ = _
   show (if r1.owner.length ≤ a then r1.say m 2 else _) = _
   rw [if_neg h1, ← eg]
   rfl
  clear eg e3 h1
  generalize r1.owner[a] = ow at *
  by_cases h2 : ow = -1
  ·rw [if_pos h2] at EA
   subst h2
   go_upto_region 40 with fail
   refine zy ?_
   repeat go_big_quiet_step (fail)
   refine wpQuiet_nil ?_
   intro _ hw'
   obtain ⟨nq, hw2⟩ := hw'
   subst hw2
   replace c34 : (W2.drewN nq).cell? ⟨L.b, 34, none⟩ = some (.slice (some ⟨gs, 0, none⟩) r1.owner.length q3) := c34
   replace ca : (W2.drewN nq).cell? ⟨gs, a, none⟩ = some (.int .i64 (-1)) := ca
   replace fa : (W2.drewN nq).frozen? ⟨gs, a, none⟩ = false := fa
   replace x1 : (W2.drewN nq).cell? ⟨w.heap.size, 1, none⟩ = some (.int .i64 (a : Int)) := x1
   clear hgsl hgol hLbl
   have KQ : Hid (RM (W2.drewN nq) B r1 L) := K2.out.below ((zr _ _).drewN' _)
   have PQ : Hid (Kp w L (W2.drewN nq) L) := P2.out.drewN _
   have FQ : Hid (Fo (W2.drewN nq) L w.heap.size) := ⟨F2.out.lt, F2.out.b, F2.out.V⟩
   have WQ : Hid (Whole (W2.drewN nq) w.heap.size 32 #[.int .i64 5, .int .i64 (a : Int), .int .i64 ob]) := W2F.out
   clear K2 P2 F2 W2F c0 x0 x2
   generalize W2.drewN nq = W2 at *
   have K2 := KQ
   have P2 := PQ
   have F2 := FQ
   have W2F := WQ
   clear KQ PQ FQ WQ
   have k3 := (K2.out.below ((zr _ _).drew)).owner (i := a) (b := (m : Int)) HV.out
   have p3 := P2.out.trans ((Kp.of_below ((zr _ W2).drew)).trans (Kp.put (w := W2.drew) (p := .ow) (g := gs) (j := a) (u := .int .i64 (m : Int)) (by rw [HV.out]; rfl)))
   have t4 : (W2.drew.setCell ⟨gs, a, none⟩ (.int .i64 (m : Int))).cell? ⟨gt, m * 13 + 4, none⟩ = some (.int .i64 (r1.ti m).last) := k3.cTask HTA1.out hm1 (j := 4) (by decide)
   have f4 := k3.rowFree HTA1.out (m * 13 + 4)
   have K3 := zh k3
   have P3 := zh p3
   clear k3 p3
   go_upto_region 43 with fail
   refine wp_region_need (S := fun w' => w'.cell? (⟨L.b, 34, none⟩) = some (.slice (some ⟨gs, 0, none⟩) r1.owner.length q3) ∧ w'.cell? (⟨w.heap.size, 1, none⟩) = some (.int .i64 (a : Int))) (need := fun i => i != 8) 9 (bs 9 0) (by kernel_rfl) (by kernel_rfl) (by kernel_rfl) ?_ (fun hHeld => ?_)
   ·(try dsimp only)
    exact ⟨c34, x1⟩
   refine tk 0 (bs 9 1) (v := ?_) ?_ ?_; rotate_left 2
   refine tk 1 (bs 9 3) (v := ?_) ?_ ?_; rotate_left 2
   refine tk 2 (bs 9 7) (v := ?_) ?_ ?_; rotate_left 2
   refine tk 3 (bs 9 15) (v := ?_) ?_ ?_; rotate_left 2
   refine tk 4 (bs 9 31) (v := ?_) ?_ ?_; rotate_left 2
   refine tk 5 (bs 9 63) (v := ?_) ?_ ?_; rotate_left 2
   refine tk 6 (bs 9 127) (v := ?_) ?_ ?_; rotate_left 2
   refine tk 7 (bs 9 255) (v := ?_) ?_ ?_; rotate_left 2
   rotate_left
   iterate 8 (rotate_left; focus (intro w hSw; (try dsimp only at hSw); obtain ⟨hS0', hS1'⟩ := hSw; go_simp; with_reducible rfl))
   try simp only [Act.put, p1, p2, p3, p4, p5, p6]
   refine wpAnyN_step (i := 8) (listed' := (bs 9 511)) (by kernel_rfl) rfl (by kernel_rfl) (fun K hK => ?_)
   refine step_storeN rfl _ _ (by rfl) (by rfl) (by rfl) (z := .int .i64 (-1)) ca fa ?_
   refine hK.out _ _ ?_ (fun hHeld => ?_)
   ·exact fun h => absurd h (by decide)
   clear hK K
   try simp only [Act.put, p1, p2, p3]
   refine wpAnyN_done (by kernel_rfl) ?_ _
   clear hHeld
   generalize W2.drew.setCell ⟨gs, a, none⟩ (.int .i64 (m : Int)) = W5 at *
   have KS := zh (K3.out.task (f := fun t => { t with last := 0 }) (u := .int .i64 0) HTA1.out hm1 (j := 4) (by decide) rfl rfl rfl)
   have PS := zh (P3.out.trans (Kp.task (w := W5) (i := m) (j := 4) (u := .int .i64 0) HTA1.out))
   go_wp2_with fail
   go_end0
   rw [EO.out, EA.out]
   exact ⟨rfl, L, KS.out, PS.out⟩
  ·rw [if_neg h2] at EA
   have hb2 : (ow == -1) = false := beq_eq_false_iff_ne.2 h2
   clear fa
   by_cases h3 : ow = (m : Int)
   ·rw [if_pos h3] at EA
    subst h3
    go_upto_region 40 with fail
    refine zy ?_
    repeat go_big_quiet_step (fail)
    refine wpQuiet_nil ?_
    intro _ hw'
    obtain ⟨nq, hw2⟩ := hw'
    subst hw2
    clear hgsl hgol hLbl ca c34
    have KQ : Hid (RM (W2.drewN nq) B r1 L) := K2.out.below ((zr _ _).drewN' _)
    have PQ : Hid (Kp w L (W2.drewN nq) L) := P2.out.drewN _
    have FQ : Hid (Fo (W2.drewN nq) L w.heap.size) := ⟨F2.out.lt, F2.out.b, F2.out.V⟩
    have WQ : Hid (Whole (W2.drewN nq) w.heap.size 32 #[.int .i64 5, .int .i64 (a : Int), .int .i64 ob]) := W2F.out
    clear K2 P2 F2 W2F c0 x0 x1 x2
    generalize W2.drewN nq = W2 at *
    have K2 := KQ
    have P2 := PQ
    have F2 := FQ
    have W2F := WQ
    clear KQ PQ FQ WQ
    have t4 : W2.cell? ⟨gt, m * 13 + 4, none⟩ = some (.int .i64 (r1.ti m).last) := K2.out.cTask HTA1.out hm1 (j := 4) (by decide)
    have f4 := K2.out.rowFree HTA1.out (m * 13 + 4)
    have KS := zh (K2.out.task (f := fun t => { t with last := 3 }) (u := .int .i64 3) HTA1.out hm1 (j := 4) (by decide) rfl rfl rfl)
    have PS := zh (P2.out.trans (Kp.task (w := W2) (i := m) (j := 4) (u := .int .i64 3) HTA1.out))
    go_wp2_with fail
    go_end0
    rw [EO.out, EA.out]
    exact ⟨rfl, L, KS.out, PS.out⟩
   ·rw [if_neg h3] at EA
    have hb3 : (ow == (m : Int)) = false := beq_eq_false_iff_ne.2 h3
    go_upto_region 40 with fail
    refine zy ?_
    repeat go_big_quiet_step (fail)
    refine wpQuiet_nil ?_
    intro _ hw'
    obtain ⟨nq, hw2⟩ := hw'
    subst hw2
    replace x1 : (W2.drewN nq).cell? ⟨w.heap.size, 1, none⟩ = some (.int .i64 (a : Int)) := x1
    clear hgsl hgol hLbl ca c34
    have KQ : Hid (RM (W2.drewN nq) B r1 L) := K2.out.below ((zr _ _).drewN' _)
    have PQ : Hid (Kp w L (W2.drewN nq) L) := P2.out.drewN _
    have FQ : Hid (Fo (W2.drewN nq) L w.heap.size) := ⟨F2.out.lt, F2.out.b, F2.out.V⟩
    have WQ : Hid (Whole (W2.drewN nq) w.heap.size 32 #[.int .i64 5, .int .i64 (a : Int), .int .i64 ob]) := W2F.out
    clear K2 P2 F2 W2F c0 x0 x2
    generalize W2.drewN nq = W2 at *
    have K2 := KQ
    have P2 := PQ
    have F2 := FQ
    have W2F := WQ
    clear KQ PQ FQ WQ
    have c0 := K2.out.cTa
    have x0 := x1
    have x2 := x1
    have HC := zh (wait_any (2) ((a : Int)) (0) K2.out hm1 (by have := HF1.out.tasks; exact this) (HF1.out.prio m hm1) (zt (HF1.out.len _) (by omega)) (by rw [hcnt.out]; omega))
    go_wp2_with fail
    refine HC.out.mono ?_
    rintro e W3 ⟨rfl, L3, k3, p3⟩
    have F3 := zh (F2.out.kp p3)
    have WF3 : Hid (Whole W3 w.heap.size 32 #[.int .i64 5, .int .i64 (a : Int), .int .i64 ob]) := W2F.out.same (F2.out.same p3)
    have HTA3 : Hid (L3.V .ta = .slice (some ⟨gt, 0, none⟩) r1.tasks.length ct) := (p3.fix .ta (by simp) (by simp)).trans HTA1.out
    have eb3 := p3.b
    have K3 := zh k3
    have P3 := zh (P2.out.trans p3)
    have hm3 : m < (r1.wait m (2) ((a : Int)) (0)).tasks.length := by
     show m < (K.setT _ _ _).tasks.length
     rw [len_setT]
     exact hm1
    have htk3 : Hid ((r1.wait m (2) ((a : Int)) (0)).ticks = r.ticks) := htic.out
    clear k3 p3 HC c0 x0 x1 x2
    go_wp2_with fail
    go_end0
    rw [EO.out, EA.out]
    exact ⟨rfl, L3, K3.out, P3.out⟩
set_option maxRecDepth 100000 in
set_option maxHeartbeats 16000000 in
theorem do_6 {w : World} {B M : Nat} {r : K} {L : Ly} {m : Nat} {a : Nat} {ob : Int} (h : DO w B M r L m ⟨6, (a : Int), ob⟩) (ha : a ≤ 15) :
 Calls Try.prog 50 #[.pointer (some ⟨L.b, 0, none⟩), .int .i64 m] w (DoPost w B (r.do_ m) L) := by
 refine (doHead h).2 ?_
 intro hM hm hpl hol hct gt ct im im0 cO ad hwr HK HF HTA hpl3 hgo hog KK hKK W2 F2 P2 W2F r1 EO hT1 hm1 HF1 hti hown hsem hsiz hcnt htic hou K2 HTA1 c0 x0 x1 x2
 clear h
 have c34 := K2.out.cOw
 obtain ⟨A3, q3, e3, -, -⟩ := K2.out.slice .ow
 replace e3 : L.V .ow = .slice A3 r1.owner.length q3 := e3
 rw [e3] at c34
 by_cases h1 : r1.owner.length ≤ a
 ·have EA : Hid (r1.act m ⟨6, (a : Int), ob⟩ = r1.say m 2) := by
   show K.unlock r1 m ⟨6, (a : Int), ob⟩ = _
   show (if r1.owner.length ≤ a then r1.say m 2 else _) = _
   rw [if_pos h1]
  have hge : (r1.owner.length : Int) ≤ (a : Int) := by omega
  have t4 : W2.cell? ⟨gt, m * 13 + 4, none⟩ = some (.int .i64 (r1.ti m).last) := K2.out.cTask HTA1.out hm1 (j := 4) (by decide)
  have f4 := K2.out.rowFree HTA1.out (m * 13 + 4)
  have KS := zh (K2.out.task (f := fun t => { t with last := 2 }) (u := .int .i64 2) HTA1.out hm1 (j := 4) (by decide) rfl rfl rfl)
  have PS := zh (P2.out.trans (Kp.task (w := W2) (i := m) (j := 4) (u := .int .i64 2) HTA1.out))
  go_wp2_with fail
  go_end0
  rw [EO.out, EA.out]
  exact ⟨rfl, L, KS.out, PS.out⟩
 ·have hal : a < r1.owner.length := by omega
  have ial : (a : Int) < (r1.owner.length : Int) := by omega
  have ia0 : (0 : Int) ≤ (a : Int) := by omega
  obtain ⟨gs, cs, hv⟩ := K2.out.form (p := .ow) (by show 0 < r1.owner.length; omega)
  replace hv : L.V .ow = .slice (some ⟨gs, 0, none⟩) r1.owner.length cs := hv
  have HV := zh hv
  rw [e3] at hv
  injection hv with hv _ hv2
  subst hv hv2
  have ca := K2.out.cRowInt (p := .ow) (l := r1.owner) HV.out ⟨rfl, rfl, rfl, rfl⟩ hal
  have fa := K2.out.rowFree HV.out a
  have hgsl : gs < W2.heap.size := (K2.out.rowLt (p := .ow) (g := gs) (by rw [HV.out]; rfl)).2
  have hgol := F2.out.lt
  have hLbl := K2.out.lt
  have egt : gs ≠ gt := fun e => K2.out.apart .ow .ta gs (by decide) (by rw [HV.out]; rfl) (by rw [HTA1.out, e]; rfl)
  have egt2 : gt ≠ gs := egt.symm
  have eg : r1.owner.getD a 0 = r1.owner[a] := by rw [zd, List.getElem?_eq_getElem hal]; rfl
  have EA : Hid (r1.act m ⟨6, (a : Int), ob⟩ = if r1.owner[a] ≠ m then r1.say m 3 else (r1.say m 0).free a) := by
   show K.unlock r1 m ⟨6, (a : Int), ob⟩ = _
   show (if r1.owner.length ≤ a then r1.say m 2 else _) = _
   rw [if_neg h1, ← eg]
   rfl
  clear eg e3 h1 fa
  generalize r1.owner[a] = ow at *
  by_cases h2 : ow = (m : Int)
  ·rw [if_neg (fun q => q h2)] at EA
   subst h2
   go_upto_region 50 with fail
   refine zy ?_
   repeat go_big_quiet_step (fail)
   refine wpQuiet_nil ?_
   intro _ hw'
   obtain ⟨nq, hw2⟩ := hw'
   subst hw2
   replace x1 : (W2.drewN nq).cell? ⟨w.heap.size, 1, none⟩ = some (.int .i64 (a : Int)) := x1
   clear hgsl hgol hLbl ca c34
   have KQ : Hid (RM (W2.drewN nq) B r1 L) := K2.out.below ((zr _ _).drewN' _)
   have PQ : Hid (Kp w L (W2.drewN nq) L) := P2.out.drewN _
   have FQ : Hid (Fo (W2.drewN nq) L w.heap.size) := ⟨F2.out.lt, F2.out.b, F2.out.V⟩
   have WQ : Hid (Whole (W2.drewN nq) w.heap.size 32 #[.int .i64 6, .int .i64 (a : Int), .int .i64 ob]) := W2F.out
   clear K2 P2 F2 W2F c0 x0 x2
   generalize W2.drewN nq = W2 at *
   have K2 := KQ
   have P2 := PQ
   have F2 := FQ
   have W2F := WQ
   clear KQ PQ FQ WQ
   have t4 : W2.cell? ⟨gt, m * 13 + 4, none⟩ = some (.int .i64 (r1.ti m).last) := K2.out.cTask HTA1.out hm1 (j := 4) (by decide)
   have f4 := K2.out.rowFree HTA1.out (m * 13 + 4)
   have q3' := K2.out.task (f := fun t => { t with last := 0 }) (u := .int .i64 0) HTA1.out hm1 (j := 4) (by decide) rfl rfl rfl
   have P3 := zh (P2.out.trans (Kp.task (w := W2) (i := m) (j := 4) (u := .int .i64 0) HTA1.out))
   have HFR := zh (free_any (r := r1.say m 0) (i := a) q3' (HF1.out.setT hm1 (HF1.out.prio m hm1)) (by omega) hal)
   clear q3'
   go_wp2_with fail
   refine HFR.out.mono ?_
   rintro e W5 ⟨rfl, L5, k5, p5⟩
   have K5 := zh k5
   have P5 := zh (P3.out.trans p5)
   clear k5 p5
   go_wp2_with fail
   go_end0
   rw [EO.out, EA.out]
   exact ⟨rfl, L5, K5.out, P5.out⟩
  ·rw [if_pos h2] at EA
   have hb2 : (ow == (m : Int)) = false := beq_eq_false_iff_ne.2 h2
   go_upto_region 50 with fail
   refine zy ?_
   repeat go_big_quiet_step (fail)
   refine wpQuiet_nil ?_
   intro _ hw'
   obtain ⟨nq, hw2⟩ := hw'
   subst hw2
   clear hgsl hgol hLbl ca c34
   have KQ : Hid (RM (W2.drewN nq) B r1 L) := K2.out.below ((zr _ _).drewN' _)
   have PQ : Hid (Kp w L (W2.drewN nq) L) := P2.out.drewN _
   have FQ : Hid (Fo (W2.drewN nq) L w.heap.size) := ⟨F2.out.lt, F2.out.b, F2.out.V⟩
   have WQ : Hid (Whole (W2.drewN nq) w.heap.size 32 #[.int .i64 6, .int .i64 (a : Int), .int .i64 ob]) := W2F.out
   clear K2 P2 F2 W2F c0 x0 x1 x2
   generalize W2.drewN nq = W2 at *
   have K2 := KQ
   have P2 := PQ
   have F2 := FQ
   have W2F := WQ
   clear KQ PQ FQ WQ
   have t4 : W2.cell? ⟨gt, m * 13 + 4, none⟩ = some (.int .i64 (r1.ti m).last) := K2.out.cTask HTA1.out hm1 (j := 4) (by decide)
   have f4 := K2.out.rowFree HTA1.out (m * 13 + 4)
   have KS := zh (K2.out.task (f := fun t => { t with last := 3 }) (u := .int .i64 3) HTA1.out hm1 (j := 4) (by decide) rfl rfl rfl)
   have PS := zh (P2.out.trans (Kp.task (w := W2) (i := m) (j := 4) (u := .int .i64 3) HTA1.out))
   go_wp2_with fail
   go_end0
   rw [EO.out, EA.out]
   exact ⟨rfl, L, KS.out, PS.out⟩
end Rk
end Go.Proofs.Ytncbgnpoffolcaa
