/-
  The document's kernel: the walk of do: recv.
-/
import Derived.Test.YtncbgnpoffolcaaRkP
namespace Go.Proofs.Ytncbgnpoffolcaa
open Go.RowKit
namespace Rk
theorem reads_tail {w : World} {B g n c : Nat} {x : Int} {q : List Int} (h : w.ownsRow B 3 1 (.slice (some ⟨g, 0, none⟩) n c) n (intV (x :: q))) (hn : n = q.length + 1) : Reads w w.heap.size 1 (some ⟨g, if c = 1 then 0 else 1, none⟩) q.length (intV q) := by
 have hg := (h.lt g rfl).2
 have hnc : n ≤ c := by
  obtain ⟨A, c', e, h1, _⟩ := row_slice h
  injection e with _ _ e
  omega
 refine ⟨by simp [intV], fun h0 => ⟨_, rfl, hg, fun j u hj => ?_⟩⟩
 have hjl : j < q.length := by
  have := (List.getElem?_eq_some_iff.1 hj).1
  simpa [intV] using this
 rw [if_neg (by omega), Addr.add_lit, Nat.add_comm, h.cellAt (j + 1) (by omega), ← hj]
 show ((Value.int .i64 x) :: intV q)[j + 1]? = _
 rw [zc]
set_option maxRecDepth 100000 in
set_option maxHeartbeats 16000000 in
theorem do_8 {w : World} {B M : Nat} {r : K} {L : Ly} {m : Nat} {a : Nat} {ob : Int} (h : DO w B M r L m ⟨8, (a : Int), ob⟩) (ha : a ≤ 15) :
 Calls Try.prog 50 #[.pointer (some ⟨L.b, 0, none⟩), .int .i64 m] w (DoPost w B (r.do_ m) L) := by
 refine (doHead h).2 ?_
 intro hM hm hpl hol hct gt ct im im0 cO ad hwr HK HF HTA hpl3 hgo hog KK hKK W2 F2 P2 W2F r1 EO hT1 hm1 HF1 hti hown hsem hsiz hcnt htic hou K2 HTA1 c0 x0 x1 x2
 clear h
 have c35 := K2.out.cQa
 obtain ⟨A3, q3, e3, -, -⟩ := K2.out.slice .qa
 replace e3 : L.V .qa = .slice A3 r1.size.length q3 := e3
 rw [e3] at c35
 by_cases h1 : r1.size.length ≤ a
 ·have EA : Hid (r1.act m ⟨8, (a : Int), ob⟩ = r1.say m 2) := by
   show K.recv r1 m ⟨8, (a : Int), ob⟩ = _
   unfold K.recv
   rw [if_pos (show r1.size.length ≤ (⟨8, (a : Int), ob⟩ : Kn.Op).a.toNat from h1)]
  have hge : (r1.size.length : Int) ≤ (a : Int) := by omega
  have t4 : W2.cell? ⟨gt, m * 13 + 4, none⟩ = some (.int .i64 (r1.ti m).last) := K2.out.cTask HTA1.out hm1 (j := 4) (by decide)
  have f4 := K2.out.rowFree HTA1.out (m * 13 + 4)
  have KS := zh (K2.out.task (f := fun t => { t with last := 2 }) (u := .int .i64 2) HTA1.out hm1 (j := 4) (by decide) rfl rfl rfl)
  have PS := zh (P2.out.trans (Kp.task (w := W2) (i := m) (j := 4) (u := .int .i64 2) HTA1.out))
  go_wp2_with fail
  go_end0
  rw [EO.out, EA.out]
  exact ⟨rfl, L, KS.out, PS.out⟩
 ·have hal : a < r1.size.length := by omega
  have ial : (a : Int) < (r1.size.length : Int) := by omega
  have ia0 : (0 : Int) ≤ (a : Int) := by omega
  obtain ⟨gq, cs, hv⟩ := K2.out.form (p := .qa) (by show 0 < r1.size.length; omega)
  replace hv : L.V .qa = .slice (some ⟨gq, 0, none⟩) r1.size.length cs := hv
  have HV := zh hv
  rw [e3] at hv
  injection hv with hv _ hv2
  subst hv hv2
  have hfew8 : r1.size.length ≤ 8 := K2.out.few
  have ER : Hid (∀ l, r1.l (32 + a) = l → r1.act m ⟨8, (a : Int), ob⟩ = match l with | [] => r1.wait m 4 (a : Int) 0 | x :: q => r1.recv1 m ⟨8, (a : Int), ob⟩ x q) := fun l hl => by
   show K.recv r1 m ⟨8, (a : Int), ob⟩ = _
   unfold K.recv
   rw [if_neg (show ¬ r1.size.length ≤ (⟨8, (a : Int), ob⟩ : Kn.Op).a.toNat from h1)]
   subst hl
   rfl
  clear e3 h1
  go_upto_region 69 with fail
  refine zy ?_
  repeat go_big_quiet_step (fail)
  refine wpQuiet_nil ?_
  intro _ hw'
  obtain ⟨nq, hw2⟩ := hw'
  subst hw2
  clear c35
  have KQ : Hid (RM (W2.drewN nq) B r1 L) := K2.out.below ((zr _ _).drewN' _)
  have PQ : Hid (Kp w L (W2.drewN nq) L) := P2.out.drewN _
  have FQ : Hid (Fo (W2.drewN nq) L w.heap.size) := ⟨F2.out.lt, F2.out.b, F2.out.V⟩
  have WQ : Hid (Whole (W2.drewN nq) w.heap.size 32 #[.int .i64 8, .int .i64 (a : Int), .int .i64 ob]) := W2F.out
  clear K2 P2 F2 W2F x0 x1 x2 c0
  generalize W2.drewN nq = W2 at *
  have K2 := KQ
  have P2 := PQ
  have F2 := FQ
  have W2F := WQ
  clear KQ PQ FQ WQ
  have x0 := W2F.out.cell 0
  have x1 := W2F.out.cell 1
  have x2 := W2F.out.cell 2
  simp only [za, zb, zc] at x0 x1 x2
  have HVQ := HV
  have halq := hal
  have EBQ : Hid (L.b = L.b) := rfl
  have HTAQ := HTA1
  have c0 := K2.out.cTa
  rw [HTA.out] at c0
  obtain ⟨cq0, cq1⟩ := K2.out.cQue HVQ.out halq
  obtain ⟨AV, cV, eV, -, -⟩ := K2.out.slice (.l (32 + a))
  replace eV : L.V (.l (32 + a)) = .slice AV (r1.l (32 + a)).length cV := eV
  have EV := zh eV
  have HR : Hid (W2.ownsRow B 3 1 (.slice AV (r1.l (32 + a)).length cV) (r1.l (32 + a)).length (intV (r1.l (32 + a)))) := by
   show W2.ownsRow B 3 1 _ _ _
   rw [← eV]
   exact K2.out.row (.l (32 + a))
  rw [eV] at cq0
  have qf := K2.out.rowFree HVQ.out (a * 2)
  have hgql : gq < W2.heap.size := (K2.out.rowLt (p := .qa) (g := gq) (by rw [HVQ.out]; rfl)).2
  have hBw : B ≤ W2.heap.size := zt K2.out.low (Nat.le_of_lt K2.out.lt)
  have hneQ : some gq ≠ (Value.slice AV (r1.l (32 + a)).length cV).ownBlock := fun e => K2.out.apart .qa (.l (32 + a)) gq (by simp) (by rw [HVQ.out]; rfl) (by rw [eV]; exact e.symm)
  have hneL : some L.b ≠ (Value.slice AV (r1.l (32 + a)).length cV).ownBlock := fun e => K2.out.ne (.l (32 + a)) (by rw [eV, EBQ.out]; exact e.symm)
  have hneT : some gt ≠ (Value.slice AV (r1.l (32 + a)).length cV).ownBlock := fun e => K2.out.apart .ta (.l (32 + a)) gt (by simp) (by rw [HTAQ.out]; rfl) (by rw [eV]; exact e.symm)
  clear eV
  clear cq1
  cases hl : r1.l (32 + a) with
  | nil =>
    have EA : Hid (r1.act m ⟨8, (a : Int), ob⟩ = r1.wait m 4 (a : Int) 0) := ER.out _ hl
    rw [hl] at cq0
    simp only [List.length_nil] at cq0
    clear hneQ hneL hneT hBw HR EV hl
    have HC := zh (wait_any (4) ((a : Int)) (0) K2.out hm1 (by have := HF1.out.tasks; exact this) (HF1.out.prio m hm1) (zt (HF1.out.len _) (by omega)) (by rw [hcnt.out]; omega))
    go_wp2_with fail
    refine HC.out.mono ?_
    rintro e W3 ⟨rfl, L3, k3, p3⟩
    have F3 := zh (F2.out.kp p3)
    have WF3 : Hid (Whole W3 w.heap.size 32 #[.int .i64 8, .int .i64 (a : Int), .int .i64 ob]) := W2F.out.same (F2.out.same p3)
    have HTA3 : Hid (L3.V .ta = .slice (some ⟨gt, 0, none⟩) r1.tasks.length ct) := (p3.fix .ta (by simp) (by simp)).trans HTA1.out
    have eb3 := p3.b
    have K3 := zh k3
    have P3 := zh (P2.out.trans p3)
    have hm3 : m < (r1.wait m (4) ((a : Int)) (0)).tasks.length := by
     show m < (K.setT _ _ _).tasks.length
     rw [len_setT]
     exact hm1
    have htk3 : Hid ((r1.wait m (4) ((a : Int)) (0)).ticks = r.ticks) := htic.out
    clear k3 p3 HC c0 x0 x1 x2
    go_wp2_with fail
    go_end0
    rw [EO.out, EA.out]
    exact ⟨rfl, L3, K3.out, P3.out⟩
  | cons x q =>
    have EA : Hid (r1.act m ⟨8, (a : Int), ob⟩ = ((r1.say m x).setL (32 + a) fun _ => q).recv2 a (((r1.say m x).setL (32 + a) fun _ => q).best 3 a)) := ER.out _ hl
    have hql : q.length + 1 ≤ M := by
     have := HF1.out.len (32 + a)
     rw [hl, List.length_cons] at this
     exact this
    rw [hl] at cq0 HR EV hneQ hneL hneT
    simp only [List.length_cons] at cq0 HR EV hneQ hneL hneT
    obtain ⟨g, cg, eAV, _, _⟩ := HR.out.form (by omega)
    injection eAV with eAV _ ecg
    subst eAV
    subst ecg
    have hcell0 : W2.cell? ⟨g, 0, none⟩ = some (.int .i64 x) := by
     rw [HR.out.cellAt 0 (by omega)]
     rfl
    have hcv : q.length + 1 ≤ cV := by
     obtain ⟨A, c', e, h1, _⟩ := row_slice HR.out
     injection e with _ _ e
     omega
    have hgg : g ≠ gt := fun e => hneT (by rw [e]; rfl)
    have hgg2 : gt ≠ g := hgg.symm
    have hqt : gq ≠ gt := fun e => K2.out.apart .qa .ta gq (by decide) (by rw [HVQ.out]; rfl) (by rw [HTA1.out, e]; rfl)
    have hqt2 : gt ≠ gq := hqt.symm
    have hlen1 : ¬ ((q.length + 1 : Nat) : Int) = 0 := by omega
    have hlen2 : (((q.length + 1 : Nat) : Int) == 0) = false := beq_eq_false_iff_ne.2 hlen1
    have hpos0 : (0 : Int) < ((q.length + 1 : Nat) : Int) := by omega
    have t4 : W2.cell? ⟨gt, m * 13 + 4, none⟩ = some (.int .i64 (r1.ti m).last) := K2.out.cTask HTA1.out hm1 (j := 4) (by decide)
    have f4 := K2.out.rowFree HTA1.out (m * 13 + 4)
    have q3' := K2.out.task (f := fun t => { t with last := x }) (u := .int .i64 x) HTA1.out hm1 (j := 4) (by decide) rfl rfl rfl
    have kp3 := Kp.task (w := W2) (i := m) (j := 4) (u := .int .i64 x) HTA1.out
    have K3 : Hid (RM (W2.setCell ⟨gt, m * 13 + 4, none⟩ (.int .i64 x)) B (r1.say m x) L) := q3'
    have P3 := zh (P2.out.trans kp3)
    have F3 := zh (F2.out.kp kp3)
    have WF3 := zh (W2F.out.far (p := ⟨gt, m * 13 + 4, none⟩) hog (.int .i64 x))
    have HR3 : Hid ((W2.setCell ⟨gt, m * 13 + 4, none⟩ (.int .i64 x)).ownsRow B 3 1 (.slice (some ⟨g, 0, none⟩) (q.length + 1) cV) (q.length + 1) (intV (x :: q))) := ownsRow_setCell_other HR.out (a := ⟨gt, m * 13 + 4, none⟩) (by simp [Value.ownBlock]; exact hgg) _
    have hrt := reads_tail HR3.out rfl
    have HRT := zh hrt
    have hm2 : m < (r1.say m x).tasks.length := by unfold K.say; rw [len_setT]; exact hm1
    have hT2 : Hid ((r1.say m x).tasks.length = r1.tasks.length) := len_setT
    have HF2 : Hid (RF (r1.say m x) M) := HF1.out.setT hm1 (HF1.out.prio m hm1)
    have hl2 : Hid ((r1.say m x).l (32 + a) = x :: q) := hl
    have hal2 : a < (r1.say m x).size.length := hal
    have hlst2 : Hid (L.V (.l (32 + a)) = .slice (some ⟨g, 0, none⟩) (q.length + 1) cV) := EV
    clear q3' kp3 hrt hneQ hneL hneT qf HR EV ER hl
    generalize r1.say m x = r2 at *
    go_upto_region 73 with fail
    generalize hW3 : W2.setCell ⟨gt, m * 13 + 4, none⟩ (.int .i64 x) = W3 at *
    clear hW3 t4 f4 hcell0 cq0 x0 x1 x2 c0 hgql hBw K2 P2 F2 W2F
    obtain ⟨cq0, -⟩ := K3.out.cQue HVQ.out hal2
    rw [hlst2.out] at cq0
    have qf := K3.out.rowFree HVQ.out (a * 2)
    have hgql : gq < W3.heap.size := (K3.out.rowLt (p := .qa) (g := gq) (by rw [HVQ.out]; rfl)).2
    have hBw : B ≤ W3.heap.size := zt K3.out.low (Nat.le_of_lt K3.out.lt)
    obtain ⟨i3, hi3, hi30, hi31, hi32⟩ := info_parts info3
    have hsl := run_tail1 g (q.length + 1) cV (by omega) hcv
    simp only [Nat.add_sub_cancel] at hsl
    generalize (if cV = 1 then 0 else 1 : Nat) = off at *
    have one : ∀ u ∈ intV q, u.oneCell' = true := fun u hu => by
     obtain ⟨z, _, rfl⟩ := List.mem_map.1 hu
     rfl
    have q63 : q.length ≤ maxLen := by unfold maxLen; omega
    have qb : q.length * 8 ≤ 140737488355328 := by omega
    have ONE := zh one
    clear one
    go_wp2_with (at_builtin; refine wpList_append_reads rfl _ _ _ rfl W3.heap.size 3 i3 _ 1 8 Try.underlying24 hi3 hi30 hi31 hi32 rfl (by decide) rfl rfl HRT.out ONE.out q63 qb (zl _) ?_)
    intro v' W4 hown hgrow hor
    obtain ⟨A', c', e', _, _⟩ := row_slice hown
    subst e'
    have z0 := (hgrow.cell_far (⟨gq, a * 2, none⟩) hgql (by simp)).trans cq0
    have zf := (hgrow.frozen_far (⟨gq, a * 2, none⟩) hgql (by simp)).trans qf
    obtain ⟨k5, p5⟩ := K3.out.setQue (w1 := W4) (f := fun _ => q) (v := .slice A' q.length c') HVQ.out hal2 (row_mono hown hBw) ⟨hgrow.os, hgrow.tape, hgrow.output, hgrow.size, fun b hb _ => hgrow.block b hb (by simp)⟩ (fun b hb => .inr (hown.lt b hb).1)
    have K5 := zh k5
    have P5 := zh (P3.out.trans p5)
    have F5 := zh (F3.out.kp p5)
    have WF5 : Hid (Whole (W4.setCell ⟨gq, a * 2, none⟩ (.slice A' q.length c')) w.heap.size 32 #[.int .i64 8, .int .i64 (a : Int), .int .i64 ob]) := WF3.out.same (F3.out.same p5)
    have HF3 : Hid (RF (r2.setL (32 + a) fun _ => q) M) := HF2.out.setL (zl _) (by omega)
    have hT3 : Hid ((r2.setL (32 + a) fun _ => q).tasks.length = r1.tasks.length) := hT2.out
    have hal3 : a < (r2.setL (32 + a) fun _ => q).size.length := hal2
    have hl3 : Hid ((r2.setL (32 + a) fun _ => q).l (32 + a) = q) := l_same K3.out (by omega)
    have eb5 : Hid ((L.set (.l (32 + a)) (.slice A' q.length c')).b = L.b) := rfl
    have HV5 : Hid ((L.set (.l (32 + a)) (.slice A' q.length c')).V .qa = .slice (some ⟨gq, 0, none⟩) r1.size.length q3) := (set_ne (by simp)).trans HVQ.out
    have HTA5 : Hid ((L.set (.l (32 + a)) (.slice A' q.length c')).V .ta = .slice (some ⟨gt, 0, none⟩) r1.tasks.length ct) := (set_ne (by simp)).trans HTA1.out
    have hn32 : (r2.setL (32 + a) fun _ => q).tasks.length ≤ 1000 := HF3.out.tasks
    have HB5 := best_any 3 (a : Int) k5 HF3.out.tasks HF3.out.pos
    have HBS := zh HB5
    clear k5 p5 HB5 hown hgrow hor cq0 qf hsl
    go_upto_region 74 with fail
    generalize hL5 : L.set (.l (32 + a)) (.slice A' q.length c') = L5 at *
    generalize hW5 : W4.setCell ⟨gq, a * 2, none⟩ (.slice A' q.length c') = W5 at *
    generalize hr3 : (r2.setL (32 + a) fun _ => q) = r3 at *
    clear hL5 hW5 hr3 z0 zf hgql hBw K3 P3 F3 WF3 HRT HR3
    rw [eb5.out] at HBS
    have x0 := WF5.out.cell 0
    have x1 := WF5.out.cell 1
    have x2 := WF5.out.cell 2
    simp only [za, zb, zc] at x0 x1 x2
    go_wp2_with fail
    refine HBS.out.mono ?_
    rintro e W6 ⟨rfl, hb6⟩
    have K6 := zh (K5.out.below hb6)
    have P6 := zh (P5.out.trans (Kp.of_below hb6))
    clear x0 x1 x2 hb6 HBS K5 P5 F5 WF5
    have hbr := best_range (r := r3) 3 a
    generalize hbb : r3.best 3 a = b at *
    clear hbb
    by_cases h2 : 0 ≤ b
    ·have EB2 : Hid (r1.act m ⟨8, (a : Int), ob⟩ = (r3.setL (32 + a) (· ++ [(r3.t b).value])).ready b 0) := by
      show _ = _
      rw [EA.out]
      exact if_pos h2
     obtain ⟨j, rfl⟩ := Int.eq_ofNat_of_zero_le h2
     have hj : j < r3.tasks.length := by omega
     have ij : (j : Int) < r1.tasks.length := by have := hT3.out; omega
     have ij0 : (0 : Int) ≤ (j : Int) := by omega
     have HVQ6 := HV5
     have c06 := K6.out.cTa
     rw [HTA5.out, eb5.out] at c06
     have tv : W6.cell? ⟨gt, j * 13 + 10, none⟩ = some (.int .i64 (r3.t j).value) := K6.out.cTask (by rw [hT3.out]; exact HTA5.out) hj (j := 10) (by decide)
     have hLbl : L.b < W6.heap.size := by rw [← eb5.out]; exact K6.out.lt
     have hgtl : gt < W6.heap.size := (K6.out.rowLt (p := .ta) (g := gt) (by rw [HTA5.out]; rfl)).2
     obtain ⟨cq0, cq1⟩ := K6.out.cQue HV5.out hal3
     obtain ⟨AV, cV, eV, -, -⟩ := K6.out.slice (.l (32 + a))
     replace eV : L5.V (.l (32 + a)) = .slice AV (r3.l (32 + a)).length cV := eV
     have EV := zh eV
     have HR : Hid (W6.ownsRow B 3 1 (.slice AV (r3.l (32 + a)).length cV) (r3.l (32 + a)).length (intV (r3.l (32 + a)))) := by
      show W6.ownsRow B 3 1 _ _ _
      rw [← eV]
      exact K6.out.row (.l (32 + a))
     rw [eV] at cq0
     have qf := K6.out.rowFree HV5.out (a * 2)
     have hgql : gq < W6.heap.size := (K6.out.rowLt (p := .qa) (g := gq) (by rw [HV5.out]; rfl)).2
     have hBw : B ≤ W6.heap.size := zt K6.out.low (Nat.le_of_lt K6.out.lt)
     have hneQ : some gq ≠ (Value.slice AV (r3.l (32 + a)).length cV).ownBlock := fun e => K6.out.apart .qa (.l (32 + a)) gq (by simp) (by rw [HV5.out]; rfl) (by rw [eV]; exact e.symm)
     have hneL : some L.b ≠ (Value.slice AV (r3.l (32 + a)).length cV).ownBlock := fun e => K6.out.ne (.l (32 + a)) (by rw [eV, eb5.out]; exact e.symm)
     have hneT : some gt ≠ (Value.slice AV (r3.l (32 + a)).length cV).ownBlock := fun e => K6.out.apart .ta (.l (32 + a)) gt (by simp) (by rw [HTA5.out]; rfl) (by rw [eV]; exact e.symm)
     clear eV
     have hxl : (r3.l (32 + a)).length ≤ 1000000 := by rw [hl3.out]; omega
     have hneLb : some L.b ≠ (Value.slice AV (r3.l (32 + a)).length cV).ownBlock := hneL
     have ij2 : j < r.tasks.length := by have := hT3.out; omega
     have ij3 : (j : Int) < (r.tasks.length : Int) := by omega
     clear cq1
     generalize hvl : (r3.t j).value = vl at *
     clear hvl
     have hd0 : decide ((0 : Int) ≤ (j : Int)) = true := zu ij0
     go_upto_region 76 with fail
     have hl0 : Addr.block (⟨gq, a * 2, none⟩) < W6.heap.size := hgql
     have hne0 := hneQ
     have hl1 : Addr.block (⟨L.b, 0, none⟩) < W6.heap.size := hLbl
     have hne1 := hneLb
     have hl2 : Addr.block (⟨gt, j * 13 + 10, none⟩) < W6.heap.size := hgtl
     have hne2 := hneT
     refine wp_region_need (S := fun w' => w'.cell? (⟨gq, a * 2, none⟩) = some (.slice AV (r3.l (32 + a)).length cV) ∧ w'.cell? (⟨L.b, 0, none⟩) = some (.slice (some ⟨gt, 0, none⟩) r1.tasks.length ct) ∧ w'.cell? (⟨gt, j * 13 + 10, none⟩) = some (.int .i64 vl)) (need := fun i => i != 17) 18 (bs 18 0) (by kernel_rfl) (by kernel_rfl) (by kernel_rfl) ?_ (fun hHeld => ?_)
     ·(try dsimp only)
      exact ⟨cq0, c06, tv⟩
     refine tk 0 (bs 18 1) (v := ?_) ?_ ?_; rotate_left 2
     refine tk 1 (bs 18 3) (v := ?_) ?_ ?_; rotate_left 2
     refine tk 2 (bs 18 7) (v := ?_) ?_ ?_; rotate_left 2
     refine tk 3 (bs 18 15) (v := ?_) ?_ ?_; rotate_left 2
     refine tk 4 (bs 18 31) (v := ?_) ?_ ?_; rotate_left 2
     refine tk 5 (bs 18 63) (v := ?_) ?_ ?_; rotate_left 2
     refine tk 6 (bs 18 127) (v := ?_) ?_ ?_; rotate_left 2
     refine tk 7 (bs 18 255) (v := ?_) ?_ ?_; rotate_left 2
     refine tk 8 (bs 18 511) (v := ?_) ?_ ?_; rotate_left 2
     refine tk 9 (bs 18 1023) (v := ?_) ?_ ?_; rotate_left 2
     refine tk 10 (bs 18 2047) (v := ?_) ?_ ?_; rotate_left 2
     refine tk 11 (bs 18 4095) (v := ?_) ?_ ?_; rotate_left 2
     refine tk 12 (bs 18 8191) (v := ?_) ?_ ?_; rotate_left 2
     rotate_left
     iterate 13 (rotate_left; focus (intro w hSw; (try dsimp only at hSw); obtain ⟨hS0', hS1', hS2'⟩ := hSw; go_simp; with_reducible rfl))
     try simp only [Act.put, p1, p2, p3, p4, p5, p6]
     refine wpAnyN_step (i := 13) (listed' := (bs 18 16383)) (by kernel_rfl) rfl (by kernel_rfl) (fun K hK => ?_)
     refine step_bsI rfl _ (by rfl) (vl) (by rfl) ?_
     refine hK.out _ _ ?_ (fun hHeld => ?_)
     ·(try dsimp only)
      exact fun _ => ⟨(zw _ _ _ hl0).trans (hHeld.1), (zw _ _ _ hl1).trans (hHeld.2.1), (zw _ _ _ hl2).trans (hHeld.2.2)⟩
     clear hK K
     replace hHeld := hHeld rfl
     try simp only [Act.put, p1, p2, p3, p4, p5, p6]
     refine wpAnyN_step (i := 14) (listed' := (bs 18 32767)) (by kernel_rfl) rfl (by kernel_rfl) (fun K hK => ?_)
     refine step_appI rfl _ _ (by rfl) B (.slice AV (r3.l (32 + a)).length cV) (r3.l (32 + a)) (by rfl) (HR.out.alloc _) (vl) ⟨W6.heap.size, 0, none⟩ 1 (by rfl) (by exact (zm W6 3 #[.int .i64 (vl)]).cell 0) hxl (by rw [World.size_alloc]; exact Nat.le_succ_of_le hBw) ?_
     intro gg cap w5 hown hgrow hor
     have z0 := (hgrow.cell_far (⟨gq, a * 2, none⟩) (lt_al hl0 _) hne0).trans (hHeld.1)
     have zf := (hgrow.frozen_far (⟨gq, a * 2, none⟩) (lt_al hl0 _) hne0).trans ((zx (zo _ _ _ hl0)).trans qf)
     have HO := zh hown
     have HG := zh hgrow
     have HOR := zh hor
     clear hown hor
     refine hK.out _ _ ?_ (fun hHeld => ?_)
     ·(try dsimp only)
      exact fun _ => ⟨(hgrow.cell_far (⟨gq, a * 2, none⟩) (lt_al hl0 _) hne0).trans (hHeld.1), (hgrow.cell_far (⟨L.b, 0, none⟩) (lt_al hl1 _) hne1).trans (hHeld.2.1), (hgrow.cell_far (⟨gt, j * 13 + 10, none⟩) (lt_al hl2 _) hne2).trans (hHeld.2.2)⟩
     clear hK K
     replace hHeld := hHeld rfl
     try simp only [Act.put, p1, p2, p3, p4, p5, p6]
     refine tk 15 (bs 18 65535) (v := ?_) ?_ ?_; rotate_left 2
     refine tk 16 (bs 18 131071) (v := ?_) ?_ ?_; rotate_left 2
     rotate_left
     iterate 2 (rotate_left; focus (intro w hSw; (try dsimp only at hSw); obtain ⟨hS0', hS1', hS2'⟩ := hSw; go_simp; with_reducible rfl))
     try simp only [Act.put, p1, p2, p3, p4, p5, p6]
     refine wpAnyN_step (i := 17) (listed' := (bs 18 262143)) (by kernel_rfl) rfl (by kernel_rfl) (fun K hK => ?_)
     refine step_storeI rfl _ _ (by rfl) (by rfl) (by rfl) z0 zf ?_
     refine hK.out _ _ ?_ (fun hHeld => ?_)
     ·exact fun h => absurd h (by decide)
     clear hK K
     try simp only [Act.put, p1, p2, p3]
     refine wpAnyN_done (by kernel_rfl) ?_ _
     obtain ⟨a1, a2⟩ := K6.out.quePush (i := a) (x := vl) (gg := gg) (cap := cap) (w5 := w5) HV5.out hal3 HO.out (by rw [EV.out]; exact grown_drew HG.out) (by rw [EV.out]; exact HOR.out)
     have HRD := zh (ready_any (m := j) 0 a1 hj (HF3.out.tasks) (HF3.out.prio j hj) (zt ((HF3.out.push (x := 32 + a) (n := vl)).len _) (by omega)))
     have A2 := zh (P6.out.trans a2)
     have ebl : (L5.set (.l (32 + a)) (.slice (some ⟨gg, 0, none⟩) ((r3.l (32 + a)).length + 1) cap)).b = L.b := eb5.out
     rw [ebl] at HRD
     clear a1 a2 hgrow
     generalize w5.setCell ⟨gq, a * 2, none⟩ (.slice (some ⟨gg, 0, none⟩) ((r3.l (32 + a)).length + 1) cap) = W7 at *
     generalize L5.set (.l (32 + a)) (.slice (some ⟨gg, 0, none⟩) ((r3.l (32 + a)).length + 1) cap) = L7 at *
     go_wp2_with fail
     refine HRD.out.mono ?_
     rintro e W8 ⟨rfl, L8, k8, p8⟩
     have K8 := zh k8
     have P8 := zh (A2.out.trans p8)
     clear k8 p8
     go_wp2_with fail
     go_end0
     rw [EO.out, EB2.out]
     exact ⟨rfl, L8, K8.out, P8.out⟩
    ·have EB2 : Hid (r1.act m ⟨8, (a : Int), ob⟩ = r3) := by
      show _ = _
      rw [EA.out]
      exact if_neg h2
     have hdb : decide (0 ≤ b) = false := decide_eq_false h2
     have h2' : b < 0 := by omega
     go_wp2_with fail
     go_end0
     rw [EO.out, EB2.out]
     exact ⟨rfl, L5, K6.out, P6.out⟩
end Rk
end Go.Proofs.Ytncbgnpoffolcaa
