/-
  The calls: the walk of loop.
-/
import Derived.Test.YtncbgnpoffolcaaM10
import Derived.Test.YtncbgnpoffolcaaM5
import Derived.Maps.OwnOps
/-! The calls: the walk of loop. -/
namespace Go.Proofs.Ytncbgnpoffolcaa
open Go.RowKit
open Go.Maps (Keyed)
open Go.Maps Go.MapKept Go.ChangeMaps
theorem law3 : Keyed Try.prog 3 := Go.Maps.int_keyed Try.underlying3
theorem zero3 (w : World) : (zeroValue 3).run Try.prog w = .ok (.int .i64 0) w := by kernel_rfl
theorem wf_nat {a : Int} (h : 0 ≤ a ∧ a ≤ 1000000) : (Lit.int .i64 a).wf = true := by
 simp [Lit.wf, IntKind.min, IntKind.max, IntKind.signed, IntKind.bits]
 omega
theorem key3 {j : Nat} (h : j ≤ 1000000) : keyOf Try.prog 3 (.int .i64 (j : Int)) = some (.int .i64 j) := Go.Maps.keyOf_int_mk Try.underlying3 (wf_nat (by omega))
theorem taskCells_place {k : Kn.K} {L : Lay} {i : Nat} {p : Nat} (hi : i < k.tasks.length) : taskCells (k.setT i fun t => { t with place := p }) L i = (taskCells k L i).setIfInBounds 4 (.int .i64 p) := by
 unfold taskCells
 rw [kT_set hi]
 rfl
theorem setT_setT (k : Kn.K) (i : Int) (f g : Kn.T → Kn.T) : (k.setT i f).setT i g = k.setT i (fun t => g (f t)) := by
 unfold Kn.K.setT
 simp only []
 congr 1
 apply List.ext_getElem?
 intro j
 rw [List.getElem?_modify, List.getElem?_modify, List.getElem?_modify]
 rcases k.tasks[j]? with _ | t
 ·rfl
 ·by_cases e : i.toNat = j <;> simp [e]
theorem setT_same (k : Kn.K) (i : Nat) (f g : Kn.T → Kn.T) (h : f (kT k i) = g (kT k i)) : k.setT i f = k.setT i g := by
 unfold Kn.K.setT
 congr 1
 apply List.ext_getElem?
 intro j
 rw [List.getElem?_modify, List.getElem?_modify]
 rcases hq : k.tasks[j]? with _ | t
 ·rfl
 ·by_cases e : ((i : Int)).toNat = j
  ·have e2 : i = j := by omega
   subst e2
   unfold kT at h
   rw [zd, hq] at h
   simp only [Option.getD_some] at h
   simp [h]
  ·simp only [Option.map_eq_map, Option.map_some, if_neg e]
set_option maxRecDepth 100000 in
set_option maxHeartbeats 16000000 in
theorem loop_any {w : World} {B : Nat} {k : Kn.K} {L : Lay} {m a : Nat} {kd ob : Int} (h : KM w B k L) (hk : Kn.Ok k) (hm : m < k.tasks.length) (hB : B ≤ w.heap.size) (hp : 1 ≤ (kT k m).place) (hob : ob ≤ 20) :
 Calls Try.prog 69 #[callV L m ⟨kd, a, ob⟩] w (CallPost w B (k.loop m ⟨kd, a, ob⟩) L) := by
 obtain ⟨W, hW⟩ : ∃ W, W = w.alloc (.cells #[.pointer (some ⟨L.b .ker, 0, none⟩), .int .i64 m, .pointer (some ⟨L.b (.t m), 0, none⟩), .int .i64 kd, .int .i64 (a : Int), .int .i64 ob] 112) := ⟨_, rfl⟩
 have hbb : Below w.heap.size w W := by rw [hW]; exact (zr _ _).alloc (zl _) _
 have hK := h.below hbb
 have wc : Whole W w.heap.size 112 #[.pointer (some ⟨L.b .ker, 0, none⟩), .int .i64 m, .pointer (some ⟨L.b (.t m), 0, none⟩), .int .i64 kd, .int .i64 (a : Int), .int .i64 ob] := by rw [hW]; exact zm w 112 _
 have hoW : Out W k L w.heap.size := ⟨wc.lt, fun c hc e => by have := h.lt hc; omega⟩
 have hBW : Below B w W := hbb.mono hB
 have hzW := hBW.size
 have c0 : W.cell? ⟨w.heap.size, 0, none⟩ = some (.pointer (some ⟨L.b .ker, 0, none⟩)) := wc.cell 0
 have c1 : W.cell? ⟨w.heap.size, 1, none⟩ = some (.int .i64 m) := wc.cell 1
 have c2 : W.cell? ⟨w.heap.size, 2, none⟩ = some (.pointer (some ⟨L.b (.t m), 0, none⟩)) := wc.cell 2
 have c3 : W.cell? ⟨w.heap.size, 3, none⟩ = some (.int .i64 kd) := wc.cell 3
 have c4 : W.cell? ⟨w.heap.size, 4, none⟩ = some (.int .i64 (a : Int)) := wc.cell 4
 have c5 : W.cell? ⟨w.heap.size, 5, none⟩ = some (.int .i64 ob) := wc.cell 5
 have g := hk.good.task m hm
 obtain ⟨pl, hpl⟩ : ∃ pl, (kT k m).place = pl + 1 := ⟨(kT k m).place - 1, by omega⟩
 have g7 := g.place
 have g5 := g.loops
 have g3 := g.few
 have g6 := g.loop
 rw [← kT_ti] at g7 g5 g3 g6
 have hpll : pl < (kT k m).loops.length := by omega
 have hpls : pl ≤ 1000000 := by omega
 have wt := hK.task hm
 have t4 : W.cell? ⟨L.b (.t m), 4, none⟩ = some (.int .i64 ((kT k m).place : Int)) := wt.cell 4
 have tf4 := wt.frozen 4
 have t6 : W.cell? ⟨L.b (.t m), 6, none⟩ = some (.map (some (L.b (.lp m)))) := wt.cell 6
 rw [hpl] at t4
 have t4' : W.cell? ⟨L.b (.t m), 4, none⟩ = some (.int .i64 ((pl : Int) + 1)) := t4
 have hw1 : IntKind.i64.wrap ((pl : Int) + 1 - 1) = (pl : Int) := by rw [IntKind.wrap_i64]; omega
 obtain ⟨D, hown, hsm, hat⟩ := LoopsAre.owns (w := W) (hK.cont (.lp m) hm)
 have hkey := key3 hpls
 have hlk : ∀ n, (Instr.lookup 70 (.map (some (L.b (.lp m)))) (.int .i64 (pl : Int)) false).run Try.prog (W.drewN n) = .ok (.int .i64 ((kT k m).loops.getD pl 0)) (W.drewN n) := fun n => by
  have hown' : (W.drewN n).ownsMap Try.prog 3 (plainElem Try.prog 3) (L.b (.lp m)) (kT k m).loops.length D := hown
  obtain ⟨c, hrun, hc, _⟩ := hown'.lookup_int law3 Try.underlying70 Try.underlying3 (zero3 _) hkey
  rw [hat pl hpll] at hc
  injection hc with hc
  injection hc with _ hc
  rw [hrun, ← hc]
 have hlk0 := hlk 0
 have hc20 := g6 _ (List.getElem_mem hpll)
 have hce : (kT k m).loops.getD pl 0 = (kT k m).loops[pl] := Kn.getD_at hpll 0
 rw [← hce] at hc20
 have hlowT := hK.low (.t m) hm
 have hlowP := hK.low (.lp m) hm
 have hoP := hoW.2 (.lp m) hm
 have hoP2 : w.heap.size ≠ L.b (.lp m) := fun e => hoP e.symm
 have hTP : L.b (.t m) ≠ L.b (.lp m) := fun e => by cases hK.apart (.t m) (.lp m) hm hm e
 have hltT := hK.lt (c := .t m) hm
 have EK : Hid (k.loop m ⟨kd, a, ob⟩ = if (kT k m).loops.getD pl 0 < ob then k.setT m fun t => { t with loops := t.loops.modify pl (· + 1), place := a } else k.setT m fun t => { t with loops := t.loops.set pl 0 }) := by
  show Kn.K.loop _ _ _ = _
  unfold Kn.K.loop
  rw [show (k.t (m : Int)).place - 1 = pl from by show (kT k m).place - 1 = pl; omega]
  rfl
 have WT := zh wt
 have HOWN := zh hown
 have HSM := zh hsm
 have HAT := zh hat
 have HLP := zh hpll
 have HKEY := zh hkey
 have HW := zh hW
 have WC := zh wc
 have OW := zh hoW
 have BW := zh hBW
 have KW := zh hK
 have OK := zh hk
 clear h hW wc hoW hBW hbb hK hk
 clear wt hown hsm hat t4 hpl g g7 g5 g3 g6 hce hkey hp
 have HMOD := zh (fun (f : Int → Int) => modify_set (f := f) HLP.out)
 have hlen7 : (kT k m).loops.length < maxLen := by have := (OK.out.good.task m hm).loops; have := (OK.out.good.task m hm).few; rw [← kT_ti] at *; unfold maxLen; omega
 by_cases hlt : (kT k m).loops.getD pl 0 < ob
 ·have ED : Hid (k.loop m ⟨kd, a, ob⟩ = (k.setT m fun t => { t with loops := (kT k m).loops.set pl ((kT k m).loops.getD pl 0 + 1) }).setT m fun t => { t with place := a }) := by
   show _ = _
   rw [EK.out, if_pos hlt, setT_setT]
   refine setT_same k m _ _ ?_
   show ({ kT k m with loops := (kT k m).loops.modify pl (· + 1), place := a } : Kn.T) = _
   rw [HMOD.out]
  have HPUT := zh (fun (w1 : World) (n : Nat) (v : Int) (h1 : w1.ownsMap Try.prog 3 (plainElem Try.prog 3) (L.b (.lp m)) n (D.put (.int .i64 pl) (.lit (.int .i64 v)))) => LoopsAre.put HSM.out HAT.out HLP.out h1)
  have HKP := zh (fun (w1 : World) (ls : List Int) => KW.out.putLoops (w' := w1) (ls := ls) hm)
  generalize hcc : (kT k m).loops.getD pl 0 = c at *
  have hd : decide (c < ob) = true := zu hlt
  have hwc : IntKind.i64.wrap (c + 1) = c + 1 := by rw [IntKind.wrap_i64]; omega
  have hwf := wf_nat (a := c + 1) (by omega)
  unfold callV
  go_enter Try.func69, Try.ntmps69
  go_upto_region 1 with fail
  rw [← HW.out]
  go_upto_region 2 with fail
  refine zy ?_
  repeat go_big_quiet_step (fail)
  refine wpQuiet_nil ?_
  intro _ hw'
  obtain ⟨n1, hw''⟩ := hw'
  subst hw''
  go_upto_region 3 with fail
  go_upto_region 4 with (first | (at_mapUpdate; refine wpList_mapUpdate_own _ rfl _ _ _ 70 rfl 3 3 law3 Try.underlying70 _ (L.b (.lp m)) (kT k m).loops.length D rfl HOWN.out hlen7 _ _ _ rfl rfl HKEY.out _ [] (plainElem_int Try.underlying3 hwf) ?_))
  intro w1 hown1 hgrow1
  have hg1 : W.grownBy w1 (some (L.b (.lp m))) := ⟨hgrow1.os, hgrow1.tape, hgrow1.output, hgrow1.size, hgrow1.block⟩
  have K1 := HKP.out w1 _ hg1 (HPUT.out w1 _ _ hown1)
  have hb1 : Below B W w1 := (zr B W).grown hg1 (by omega) (fun x hx => by injection hx with hx; omega)
  have hbt : w1.heap[L.b (.t m)]? = W.heap[L.b (.t m)]? := hg1.block _ hltT (fun e => by injection e with e; exact hTP e)
  have wc1 : Whole w1 w.heap.size 112 #[.pointer (some ⟨L.b .ker, 0, none⟩), .int .i64 m, .pointer (some ⟨L.b (.t m), 0, none⟩), .int .i64 kd, .int .i64 (a : Int), .int .i64 ob] := WC.out.same (hg1.block _ WC.out.lt (fun e => by injection e with e; exact hoP2 e))
  have wt1 := WT.out.same hbt
  have t4b : w1.cell? ⟨L.b (.t m), 4, none⟩ = some (.int .i64 ((kT k m).place : Int)) := wt1.cell 4
  have tf4b := wt1.frozen 4
  clear c0 c1 c2 c3 c4 c5 t4' tf4 t6
  have d0 : w1.cell? ⟨w.heap.size, 0, none⟩ = some (.pointer (some ⟨L.b .ker, 0, none⟩)) := wc1.cell 0
  have d1 : w1.cell? ⟨w.heap.size, 1, none⟩ = some (.int .i64 m) := wc1.cell 1
  have d2 : w1.cell? ⟨w.heap.size, 2, none⟩ = some (.pointer (some ⟨L.b (.t m), 0, none⟩)) := wc1.cell 2
  have d3 : w1.cell? ⟨w.heap.size, 3, none⟩ = some (.int .i64 kd) := wc1.cell 3
  have d4 : w1.cell? ⟨w.heap.size, 4, none⟩ = some (.int .i64 (a : Int)) := wc1.cell 4
  have d5 : w1.cell? ⟨w.heap.size, 5, none⟩ = some (.int .i64 ob) := wc1.cell 5
  have K2 := K1.putTask (j := 4) (v := .int .i64 a) (f := fun t => { t with place := a }) (by rw [setT_len]; exact hm) rfl rfl (taskCells_place (by rw [setT_len]; exact hm))
  have K2h := zh K2
  have B1h := zh hb1
  clear K1 K2 hb1 wc1 wt1 hown1 hgrow1 hg1 hbt
  go_wp2_with fail
  go_end0
  rw [ED.out]
  exact ⟨rfl, L, K2h.out, Sam.refl L, (BW.out.trans B1h.out).setCell (p := ⟨L.b (.t m), 4, none⟩) hlowT _⟩
 ·have ED : Hid (k.loop m ⟨kd, a, ob⟩ = k.setT m fun t => { t with loops := (kT k m).loops.set pl 0 }) := by
   show _ = _
   rw [EK.out, if_neg hlt]
   exact setT_same k m _ _ rfl
  have HPUT := zh (fun (w1 : World) (n : Nat) (v : Int) (h1 : w1.ownsMap Try.prog 3 (plainElem Try.prog 3) (L.b (.lp m)) n (D.put (.int .i64 pl) (.lit (.int .i64 v)))) => LoopsAre.put HSM.out HAT.out HLP.out h1)
  have HKP := zh (fun (w1 : World) (ls : List Int) => KW.out.putLoops (w' := w1) (ls := ls) hm)
  generalize hcc : (kT k m).loops.getD pl 0 = c at *
  have hd : decide (c < ob) = false := decide_eq_false hlt
  have hwf := wf_nat (a := 0) (by omega)
  unfold callV
  go_enter Try.func69, Try.ntmps69
  go_upto_region 1 with fail
  rw [← HW.out]
  go_upto_region 2 with fail
  refine zy ?_
  repeat go_big_quiet_step (fail)
  refine wpQuiet_nil ?_
  intro _ hw'
  obtain ⟨n1, hw''⟩ := hw'
  subst hw''
  go_wp2_with (first | (at_mapUpdate; refine wpList_mapUpdate_own _ rfl _ _ _ 70 rfl 3 3 law3 Try.underlying70 _ (L.b (.lp m)) (kT k m).loops.length D rfl HOWN.out hlen7 _ _ _ rfl rfl HKEY.out _ [] (plainElem_int Try.underlying3 hwf) ?_))
  intro w1 hown1 hgrow1
  have hg1 : W.grownBy w1 (some (L.b (.lp m))) := ⟨hgrow1.os, hgrow1.tape, hgrow1.output, hgrow1.size, hgrow1.block⟩
  have K1 := zh (HKP.out w1 _ hg1 (HPUT.out w1 _ _ hown1))
  have hb1 : Below B W w1 := (zr B W).grown hg1 (by omega) (fun x hx => by injection hx with hx; omega)
  have B1h := zh hb1
  clear hb1 hown1 hgrow1 hg1
  go_wp2_with fail
  go_end0
  rw [ED.out]
  exact ⟨rfl, L, K1.out, Sam.refl L, BW.out.trans B1h.out⟩
end Go.Proofs.Ytncbgnpoffolcaa
