/-
  The document's kernel: the walk of do: send.
-/
import Derived.Test.YtncbgnpoffolcaaRkP
namespace Go.Proofs.Ytncbgnpoffolcaa
open Go.RowKit
namespace Rk
set_option maxRecDepth 100000 in
set_option maxHeartbeats 16000000 in
theorem do_7 {w : World} {B M : Nat} {r : K} {L : Ly} {m : Nat} {a : Nat} {ob : Int} (h : DO w B M r L m ⟨7, (a : Int), ob⟩) (ha : a ≤ 15) :
 Calls Try.prog 50 #[.pointer (some ⟨L.b, 0, none⟩), .int .i64 m] w (DoPost w B (r.do_ m) L) := by
 refine (doHead h).2 ?_
 intro hM hm hpl hol hct gt ct im im0 cO ad hwr HK HF HTA hpl3 hgo hog KK hKK W2 F2 P2 W2F r1 EO hT1 hm1 HF1 hti hown hsem hsiz hcnt htic hou K2 HTA1 c0 x0 x1 x2
 clear h
 have c35 := K2.out.cQa
 obtain ⟨A3, q3, e3, -, -⟩ := K2.out.slice .qa
 replace e3 : L.V .qa = .slice A3 r1.size.length q3 := e3
 rw [e3] at c35
 by_cases h1 : r1.size.length ≤ a
 ·have EA : Hid (r1.act m ⟨7, (a : Int), ob⟩ = r1.say m 2) := by
   show K.send r1 m ⟨7, (a : Int), ob⟩ = _
   show (if r1.size.length ≤ a then r1.say m 2 else _) = _
   rw [if_pos h1]
  have hge : (r1.size.length : Int) ≤ (a : Int) := by omega
  have t4 : W2.cell? ⟨gt, m * 13 + 4, none⟩ = some (.int .i64 (r1.ti m).last) := K2.out.cTask HTA1.out hm1 (j := 4) (by decide)
  have f4 := K2.out.rowFree HTA1.out (m * 13 + 4)
  have KS := zh (K2.out.task (f := fun t => { t with last := 2 }) (u := .int .i64 2) HTA1.out hm1 (j := 4) (by decide) rfl rfl rfl)
  have PS := zh (P2.out.trans (Kp.task (w := W2) (i := m) (j := 4) (u := .int .i64 2) HTA1.out))
  go_wp2_with fail
  go_end0
  rw [EO.out, EA.out]
  exact ⟨rfl, L, KS.out, PS.out⟩
 ·have hal : a < r1.size.length := by omega
  have ial : (a : Int) < (r1.size.length : Int) := by omega
  have ia0 : (0 : Int) ≤ (a : Int) := by omega
  obtain ⟨gq, cs, hv⟩ := K2.out.form (p := .qa) (by show 0 < r1.size.length; omega)
  replace hv : L.V .qa = .slice (some ⟨gq, 0, none⟩) r1.size.length cs := hv
  have HV := zh hv
  rw [e3] at hv
  injection hv with hv _ hv2
  subst hv hv2
  have hfew8 : r1.size.length ≤ 8 := K2.out.few
  have eg : r1.size.getD a 0 = r1.size[a] := by rw [zd, List.getElem?_eq_getElem hal]; rfl
  have EA : Hid (r1.act m ⟨7, (a : Int), ob⟩ = if 0 ≤ r1.best 4 a then (r1.ready (r1.best 4 a) ob).say m 0 else if ((r1.l (32 + a)).length : Int) < r1.size[a] then (r1.setL (32 + a) (· ++ [ob])).say m 0 else r1.wait m 3 (a : Int) ob) := by
   show K.send r1 m ⟨7, (a : Int), ob⟩ = _
   show (if r1.size.length ≤ a then r1.say m 2 else _) = _
   rw [if_neg h1, ← eg]
   rfl
  have hBst := zh (best_any 4 (a : Int) K2.out HF1.out.tasks HF1.out.pos)
  clear eg e3 h1
  go_wp2_with fail
  refine hBst.out.mono ?_
  rintro e W3 ⟨rfl, hb3⟩
  have K3 := zh (K2.out.below hb3)
  have P3 := zh (P2.out.trans (Kp.of_below hb3))
  have F3 : Hid (Fo W3 L w.heap.size) := F2.out.kp (Kp.of_below hb3)
  have WF3 : Hid (Whole W3 w.heap.size 32 #[.int .i64 7, .int .i64 (a : Int), .int .i64 ob]) := W2F.out.same (hb3.block _ F2.out.lt)
  clear c35 c0 x0 x1 x2 hb3 hBst K2 P2 F2 W2F
  have K2 := K3
  have P2 := P3
  have F2 := F3
  have W2F := WF3
  clear K3 P3 F3 WF3
  have c35 := K2.out.cQa
  rw [HV.out] at c35
  have x0 := W2F.out.cell 0
  have x1 := W2F.out.cell 1
  have x2 := W2F.out.cell 2
  simp only [za, zb, zc] at x0 x1 x2
  have hbr := best_range (r := r1) 4 a
  generalize hbb : r1.best 4 a = b at *
  clear hbb
  go_upto_region 58 with fail
  refine zy ?_
  repeat go_big_quiet_step (fail)
  refine wpQuiet_nil ?_
  intro _ hw'
  obtain ⟨nq, hw2⟩ := hw'
  subst hw2
  clear c35
  have KQ : Hid (RM (W3.drewN nq) B r1 L) := K2.out.below ((zr _ _).drewN' _)
  have PQ : Hid (Kp w L (W3.drewN nq) L) := P2.out.drewN _
  have FQ : Hid (Fo (W3.drewN nq) L w.heap.size) := ⟨F2.out.lt, F2.out.b, F2.out.V⟩
  have WQ : Hid (Whole (W3.drewN nq) w.heap.size 32 #[.int .i64 7, .int .i64 (a : Int), .int .i64 ob]) := W2F.out
  clear K2 P2 F2 W2F x0 x1 x2
  generalize W3.drewN nq = W3 at *
  have K2 := KQ
  have P2 := PQ
  have F2 := FQ
  have W2F := WQ
  clear KQ PQ FQ WQ
  have x0 := W2F.out.cell 0
  have x1 := W2F.out.cell 1
  have x2 := W2F.out.cell 2
  simp only [za, zb, zc] at x0 x1 x2
  by_cases h2 : 0 ≤ b
  ·rw [if_pos h2] at EA
   obtain ⟨j, rfl⟩ := Int.eq_ofNat_of_zero_le h2
   have hj : j < r1.tasks.length := by omega
   have HRD := zh (ready_any (m := j) ob K2.out hj HF1.out.tasks (HF1.out.prio j hj) (zt (HF1.out.len _) (by omega)))
   go_wp2_with fail
   refine HRD.out.mono ?_
   rintro e W5 ⟨rfl, L5, k5, p5⟩
   have eb5 := p5.b
   have hT5 : (r1.ready j ob).tasks.length = r1.tasks.length := by
    show (K.setT _ _ _).tasks.length = _
    rw [len_setT]
   have HTA5 : Hid (L5.V .ta = .slice (some ⟨gt, 0, none⟩) (r1.ready j ob).tasks.length ct) := by
    show _ = _
    rw [hT5]
    exact (p5.fix .ta (by simp) (by simp)).trans HTA1.out
   have hm5 : m < (r1.ready j ob).tasks.length := by rw [hT5]; exact hm1
   have t4 : W5.cell? ⟨gt, m * 13 + 4, none⟩ = some (.int .i64 ((r1.ready j ob).ti m).last) := k5.cTask HTA5.out hm5 (j := 4) (by decide)
   have f4 := k5.rowFree HTA5.out (m * 13 + 4)
   have KS := zh (k5.task (f := fun t => { t with last := 0 }) (u := .int .i64 0) HTA5.out hm5 (j := 4) (by decide) rfl rfl rfl)
   have PS := zh (P2.out.trans (p5.trans (Kp.task (w := W5) (i := m) (j := 4) (u := .int .i64 0) HTA5.out)))
   clear k5 p5 x0 x1 x2 hT5
   generalize ((r1.ready j ob).ti m).last = lz at *
   go_wp2_with fail
   go_end0
   rw [EO.out, EA.out]
   exact ⟨rfl, L5, KS.out, PS.out⟩
  ·rw [if_neg h2] at EA
   have hdb : decide (0 ≤ b) = false := decide_eq_false h2
   have h2' : b < 0 := by omega
   have HVQ := HV
   have halq := hal
   have EBQ : Hid (L.b = L.b) := rfl
   have HTAQ := HTA1
   obtain ⟨cq0, cq1⟩ := K2.out.cQue HVQ.out halq
   obtain ⟨AV, cV, eV, -, -⟩ := K2.out.slice (.l (32 + a))
   replace eV : L.V (.l (32 + a)) = .slice AV (r1.l (32 + a)).length cV := eV
   have EV := zh eV
   have HR : Hid (W3.ownsRow B 3 1 (.slice AV (r1.l (32 + a)).length cV) (r1.l (32 + a)).length (intV (r1.l (32 + a)))) := by
    show W3.ownsRow B 3 1 _ _ _
    rw [← eV]
    exact K2.out.row (.l (32 + a))
   rw [eV] at cq0
   have qf := K2.out.rowFree HVQ.out (a * 2)
   have hgql : gq < W3.heap.size := (K2.out.rowLt (p := .qa) (g := gq) (by rw [HVQ.out]; rfl)).2
   have hBw : B ≤ W3.heap.size := zt K2.out.low (Nat.le_of_lt K2.out.lt)
   have hneQ : some gq ≠ (Value.slice AV (r1.l (32 + a)).length cV).ownBlock := fun e => K2.out.apart .qa (.l (32 + a)) gq (by simp) (by rw [HVQ.out]; rfl) (by rw [eV]; exact e.symm)
   have hneL : some L.b ≠ (Value.slice AV (r1.l (32 + a)).length cV).ownBlock := fun e => K2.out.ne (.l (32 + a)) (by rw [eV, EBQ.out]; exact e.symm)
   have hneT : some gt ≠ (Value.slice AV (r1.l (32 + a)).length cV).ownBlock := fun e => K2.out.apart .ta (.l (32 + a)) gt (by simp) (by rw [HTAQ.out]; rfl) (by rw [eV]; exact e.symm)
   clear eV
   have hxl : (r1.l (32 + a)).length ≤ 1000000 := zt (HF1.out.len _) (by omega)
   generalize r1.size[a] = sz at *
   by_cases h3 : ((r1.l (32 + a)).length : Int) < sz
   ·rw [if_pos h3] at EA
    have hd : decide (((r1.l (32 + a)).length : Int) < sz) = true := zu h3
    go_upto_region 63 with fail
    refine zy ?_
    repeat go_big_quiet_step (fail)
    refine wpQuiet_nil ?_
    intro _ hw'
    obtain ⟨nq, hw2⟩ := hw'
    subst hw2
    replace cq0 : (W3.drewN nq).cell? ⟨gq, a * 2, none⟩ = some (.slice AV (r1.l (32 + a)).length cV) := cq0
    replace qf : (W3.drewN nq).frozen? ⟨gq, a * 2, none⟩ = false := qf
    replace hgql : gq < (W3.drewN nq).heap.size := hgql
    replace hBw : B ≤ (W3.drewN nq).heap.size := hBw
    replace HR : Hid ((W3.drewN nq).ownsRow B 3 1 (.slice AV (r1.l (32 + a)).length cV) (r1.l (32 + a)).length (intV (r1.l (32 + a)))) := HR
    clear cq1
    have KQ : Hid (RM (W3.drewN nq) B r1 L) := K2.out.below ((zr _ _).drewN' _)
    have PQ : Hid (Kp w L (W3.drewN nq) L) := P2.out.drewN _
    have FQ : Hid (Fo (W3.drewN nq) L w.heap.size) := ⟨F2.out.lt, F2.out.b, F2.out.V⟩
    have WQ : Hid (Whole (W3.drewN nq) w.heap.size 32 #[.int .i64 7, .int .i64 (a : Int), .int .i64 ob]) := W2F.out
    clear K2 P2 F2 W2F x0 x1 x2
    generalize W3.drewN nq = W3 at *
    have K2 := KQ
    have P2 := PQ
    have F2 := FQ
    have W2F := WQ
    clear KQ PQ FQ WQ
    have x0 := W2F.out.cell 0
    have x1 := W2F.out.cell 1
    have x2 := W2F.out.cell 2
    simp only [za, zb, zc] at x0 x1 x2
    have hgol := F2.out.lt
    have hneO : some w.heap.size ≠ (Value.slice AV (r1.l (32 + a)).length cV).ownBlock := fun e => F2.out.V (.l (32 + a)) (by rw [EV.out]; exact e.symm)
    go_upto_region 64 with fail
    have hl0 : Addr.block (⟨gq, a * 2, none⟩) < W3.heap.size := hgql
    have hne0 := hneQ
    have hl1 : Addr.block (⟨w.heap.size, 2, none⟩) < W3.heap.size := hgol
    have hne1 := hneO
    refine wp_region_need (S := fun w' => w'.cell? (⟨gq, a * 2, none⟩) = some (.slice AV (r1.l (32 + a)).length cV) ∧ w'.cell? (⟨w.heap.size, 2, none⟩) = some (.int .i64 ob)) (need := fun i => i != 11) 12 (bs 12 0) (by kernel_rfl) (by kernel_rfl) (by kernel_rfl) ?_ (fun hHeld => ?_)
    ·(try dsimp only)
     exact ⟨cq0, x2⟩
    refine tk 0 (bs 12 1) (v := ?_) ?_ ?_; rotate_left 2
    refine tk 1 (bs 12 3) (v := ?_) ?_ ?_; rotate_left 2
    refine tk 2 (bs 12 7) (v := ?_) ?_ ?_; rotate_left 2
    refine tk 3 (bs 12 15) (v := ?_) ?_ ?_; rotate_left 2
    refine tk 4 (bs 12 31) (v := ?_) ?_ ?_; rotate_left 2
    refine tk 5 (bs 12 63) (v := ?_) ?_ ?_; rotate_left 2
    refine tk 6 (bs 12 127) (v := ?_) ?_ ?_; rotate_left 2
    rotate_left
    iterate 7 (rotate_left; focus (intro w hSw; (try dsimp only at hSw); obtain ⟨hS0', hS1'⟩ := hSw; go_simp; with_reducible rfl))
    try simp only [Act.put, p1, p2, p3, p4, p5, p6]
    refine wpAnyN_step (i := 7) (listed' := (bs 12 255)) (by kernel_rfl) rfl (by kernel_rfl) (fun K hK => ?_)
    refine step_bsI rfl _ (by rfl) (ob) (by rfl) ?_
    refine hK.out _ _ ?_ (fun hHeld => ?_)
    ·(try dsimp only)
     exact fun _ => ⟨(zw _ _ _ hl0).trans (hHeld.1), (zw _ _ _ hl1).trans (hHeld.2)⟩
    clear hK K
    replace hHeld := hHeld rfl
    try simp only [Act.put, p1, p2, p3, p4, p5, p6]
    refine wpAnyN_step (i := 8) (listed' := (bs 12 511)) (by kernel_rfl) rfl (by kernel_rfl) (fun K hK => ?_)
    refine step_appI rfl _ _ (by rfl) B (.slice AV (r1.l (32 + a)).length cV) (r1.l (32 + a)) (by rfl) (HR.out.alloc _) (ob) ⟨W3.heap.size, 0, none⟩ 1 (by rfl) (by exact (zm W3 3 #[.int .i64 (ob)]).cell 0) hxl (by rw [World.size_alloc]; exact Nat.le_succ_of_le hBw) ?_
    intro gg cap w5 hown hgrow hor
    have z0 := (hgrow.cell_far (⟨gq, a * 2, none⟩) (lt_al hl0 _) hne0).trans (hHeld.1)
    have zf := (hgrow.frozen_far (⟨gq, a * 2, none⟩) (lt_al hl0 _) hne0).trans ((zx (zo _ _ _ hl0)).trans qf)
    have HO := zh hown
    have HG := zh hgrow
    have HOR := zh hor
    clear hown hor
    refine hK.out _ _ ?_ (fun hHeld => ?_)
    ·(try dsimp only)
     exact fun _ => ⟨(hgrow.cell_far (⟨gq, a * 2, none⟩) (lt_al hl0 _) hne0).trans (hHeld.1), (hgrow.cell_far (⟨w.heap.size, 2, none⟩) (lt_al hl1 _) hne1).trans (hHeld.2)⟩
    clear hK K
    replace hHeld := hHeld rfl
    try simp only [Act.put, p1, p2, p3, p4, p5, p6]
    refine tk 9 (bs 12 1023) (v := ?_) ?_ ?_; rotate_left 2
    refine tk 10 (bs 12 2047) (v := ?_) ?_ ?_; rotate_left 2
    rotate_left
    iterate 2 (rotate_left; focus (intro w hSw; (try dsimp only at hSw); obtain ⟨hS0', hS1'⟩ := hSw; go_simp; with_reducible rfl))
    try simp only [Act.put, p1, p2, p3, p4, p5, p6]
    refine wpAnyN_step (i := 11) (listed' := (bs 12 4095)) (by kernel_rfl) rfl (by kernel_rfl) (fun K hK => ?_)
    refine step_storeI rfl _ _ (by rfl) (by rfl) (by rfl) z0 zf ?_
    refine hK.out _ _ ?_ (fun hHeld => ?_)
    ·exact fun h => absurd h (by decide)
    clear hK K
    try simp only [Act.put, p1, p2, p3]
    refine wpAnyN_done (by kernel_rfl) ?_ _
    obtain ⟨a1, a2⟩ := K2.out.quePush (i := a) (x := ob) (gg := gg) (cap := cap) (w5 := w5) HVQ.out halq HO.out (by rw [EV.out]; exact grown_drew HG.out) (by rw [EV.out]; exact HOR.out)
    have HTA6 : Hid ((L.set (.l (32 + a)) (.slice (some ⟨gg, 0, none⟩) ((r1.l (32 + a)).length + 1) cap)).V .ta = .slice (some ⟨gt, 0, none⟩) r1.tasks.length ct) := (set_ne (by simp)).trans HTA1.out
    have hm6 : m < (r1.setL (32 + a) (· ++ [ob])).tasks.length := hm1
    generalize hW6 : w5.setCell ⟨gq, a * 2, none⟩ (.slice (some ⟨gg, 0, none⟩) ((r1.l (32 + a)).length + 1) cap) = W6 at *
    have t4 : W6.cell? ⟨gt, m * 13 + 4, none⟩ = some (.int .i64 ((r1.setL (32 + a) (· ++ [ob])).ti m).last) := a1.cTask HTA6.out hm6 (j := 4) (by decide)
    have f4 := a1.rowFree HTA6.out (m * 13 + 4)
    have KS := zh (a1.task (f := fun t => { t with last := 0 }) (u := .int .i64 0) HTA6.out hm6 (j := 4) (by decide) rfl rfl rfl)
    have PS := zh (P2.out.trans (a2.trans (Kp.task (w := W6) (i := m) (j := 4) (u := .int .i64 0) HTA6.out)))
    clear a1 a2 hgrow hW6
    generalize ((r1.setL (32 + a) (· ++ [ob])).ti m).last = lz at *
    go_wp2_with fail
    go_end0
    rw [EO.out, EA.out]
    exact ⟨rfl, _, KS.out, PS.out⟩
   ·rw [if_neg h3] at EA
    have hd : decide (((r1.l (32 + a)).length : Int) < sz) = false := decide_eq_false h3
    clear qf HR hBw
    go_upto_region 63 with fail
    refine zy ?_
    repeat go_big_quiet_step (fail)
    refine wpQuiet_nil ?_
    intro _ hw'
    obtain ⟨nq, hw2⟩ := hw'
    subst hw2
    replace x1 : (W3.drewN nq).cell? ⟨w.heap.size, 1, none⟩ = some (.int .i64 (a : Int)) := x1
    replace x2 : (W3.drewN nq).cell? ⟨w.heap.size, 2, none⟩ = some (.int .i64 ob) := x2
    clear cq0 cq1 hgql
    have KQ : Hid (RM (W3.drewN nq) B r1 L) := K2.out.below ((zr _ _).drewN' _)
    have PQ : Hid (Kp w L (W3.drewN nq) L) := P2.out.drewN _
    have FQ : Hid (Fo (W3.drewN nq) L w.heap.size) := ⟨F2.out.lt, F2.out.b, F2.out.V⟩
    have WQ : Hid (Whole (W3.drewN nq) w.heap.size 32 #[.int .i64 7, .int .i64 (a : Int), .int .i64 ob]) := W2F.out
    clear K2 P2 F2 W2F x0
    generalize W3.drewN nq = W3 at *
    have K2 := KQ
    have P2 := PQ
    have F2 := FQ
    have W2F := WQ
    clear KQ PQ FQ WQ
    have c0 := K2.out.cTa
    have x0 := x1
    obtain ⟨W2, hW23⟩ : ∃ W2 : World, W2 = W3 := ⟨_, rfl⟩
    subst hW23
    have HC := zh (wait_any (3) ((a : Int)) (ob) K2.out hm1 (by have := HF1.out.tasks; exact this) (HF1.out.prio m hm1) (zt (HF1.out.len _) (by omega)) (by rw [hcnt.out]; omega))
    go_wp2_with fail
    refine HC.out.mono ?_
    rintro e W4 ⟨rfl, L3, k3, p3⟩
    have F3 := zh (F2.out.kp p3)
    have WF3 : Hid (Whole W4 w.heap.size 32 #[.int .i64 7, .int .i64 (a : Int), .int .i64 ob]) := W2F.out.same (F2.out.same p3)
    have HTA3 : Hid (L3.V .ta = .slice (some ⟨gt, 0, none⟩) r1.tasks.length ct) := (p3.fix .ta (by simp) (by simp)).trans HTA1.out
    have eb3 := p3.b
    have K3 := zh k3
    have P3 := zh (P2.out.trans p3)
    have hm3 : m < (r1.wait m (3) ((a : Int)) (ob)).tasks.length := by
     show m < (K.setT _ _ _).tasks.length
     rw [len_setT]
     exact hm1
    have htk3 : Hid ((r1.wait m (3) ((a : Int)) (ob)).ticks = r.ticks) := htic.out
    clear k3 p3 HC c0 x0 x1 x2
    go_wp2_with fail
    go_end0
    rw [EO.out, EA.out]
    exact ⟨rfl, L3, K3.out, P3.out⟩
end Rk
end Go.Proofs.Ytncbgnpoffolcaa
