/-
  The document's kernel: the walks of ready, back, free, end. The document's kernel: the walks of free, end.
-/
import Derived.Test.YtncbgnpoffolcaaRkC
import Derived.Test.YtncbgnpoffolcaaNt
namespace Go.Proofs.Ytncbgnpoffolcaa
open Go.RowKit
namespace Rk
theorem grown_drew {w w' : World} {o : Obj} {row : Option Nat} (h : (w.drew.alloc o).grownBy w' row) : (w.alloc o).grownBy w' row := ⟨h.os, h.tape, h.output, h.size, h.block⟩
/-- A number more behind a row of ready tasks. -/
theorem RM.pushed {wx w5 : World} {B : Nat} {r : K} {L : Ly} {p gg cap : Nat} {n : Int} (h : RM wx B r L) (hp : p < 32)
 (hown : w5.ownsRow B 3 1 (.slice (some ⟨gg, 0, none⟩) ((r.l p).length + 1) cap) (r.l p ++ [n]).length (intV (r.l p ++ [n]))) (hgrow : (wx.alloc (.cells #[.int .i64 n] 3)).grownBy w5 (L.V (.l p)).ownBlock)
 (hor : (L.V (.l p)).ownBlock = some gg ∨ gg = (wx.alloc (.cells #[.int .i64 n] 3)).heap.size) :
 RM (w5.setCell ⟨L.b, 1 + p, none⟩ (.slice (some ⟨gg, 0, none⟩) ((r.l p).length + 1) cap)) B (r.setL p (· ++ [n])) (L.set (.l p) (.slice (some ⟨gg, 0, none⟩) ((r.l p).length + 1) cap)) ∧
  Kp wx L (w5.setCell ⟨L.b, 1 + p, none⟩ (.slice (some ⟨gg, 0, none⟩) ((r.l p).length + 1) cap)) (L.set (.l p) (.slice (some ⟨gg, 0, none⟩) ((r.l p).length + 1) cap)) :=
 h.setRow (f := (· ++ [n])) hp hown ((Br.of_below ((zr _ _).alloc (zl _) _)).grown hgrow) (fun b hb => by
  have e : gg = b := by simpa [Value.ownBlock] using hb
  subst e
  rcases hor with h1 | h1
  ·exact .inl h1
  ·exact .inr (by rw [h1, World.size_alloc]; exact Nat.le_succ _))
set_option maxRecDepth 100000 in
set_option maxHeartbeats 8000000 in
theorem ready_any {w : World} {B : Nat} {r : K} {L : Ly} {m : Nat} (a : Int) (h : RM w B r L) (hm : m < r.tasks.length) (hn : r.tasks.length ≤ 1000) (hp : 0 ≤ (r.ti m).prio ∧ (r.ti m).prio < 32) (hlen : (r.l (r.ti m).prio.toNat).length ≤ 1000000) :
 Calls Try.prog 51 #[.pointer (some ⟨L.b, 0, none⟩), .int .i64 m, .int .i64 a] w fun e w' => e = .returned (.tuple #[]) ∧ ∃ L', RM w' B (r.ready m a) L' ∧ Kp w L w' L' := by
 obtain ⟨p, hp'⟩ := Int.eq_ofNat_of_zero_le hp.1
 have hp32 : p < 32 := by omega
 have ip : (p : Int) < 32 := by omega
 have ip0 : (0 : Int) ≤ p := by omega
 have im : (m : Int) < r.tasks.length := by omega
 have im0 : (0 : Int) ≤ m := by omega
 obtain ⟨gt, ct, hta⟩ := h.ta (by omega)
 have HTA := zh hta
 have HK := zh h
 have c0 := h.cTa
 rw [hta] at c0
 have hxl : (r.l p).length ≤ 1000000 := by rw [hp'] at hlen; exact hlen
 have hmT : ∀ (k : K) (f : T → T), m < k.tasks.length → m < (k.setT m f).tasks.length := fun k f hk => by rw [len_setT]; exact hk
 have t4 : w.cell? ⟨gt, m * 13 + 4, none⟩ = some (.int .i64 (r.ti m).last) := HK.out.cTask HTA.out hm (j := 4) (by decide)
 have t5 : w.cell? ⟨gt, m * 13 + 5, none⟩ = some (.int .i64 (r.ti m).state) := HK.out.cTask HTA.out hm (j := 5) (by decide)
 have t6 : w.cell? ⟨gt, m * 13 + 6, none⟩ = some (.int .i64 (r.ti m).wake) := HK.out.cTask HTA.out hm (j := 6) (by decide)
 have t8 : w.cell? ⟨gt, m * 13 + 8, none⟩ = some (.int .i64 (r.ti m).on) := HK.out.cTask HTA.out hm (j := 8) (by decide)
 have f4 := h.rowFree hta (m * 13 + 4)
 have f5 := h.rowFree hta (m * 13 + 5)
 have f6 := h.rowFree hta (m * 13 + 6)
 have f8 := h.rowFree hta (m * 13 + 8)
 have q1 := h.task (f := fun t => { t with state := 0 }) (u := .int .i64 0) hta hm (j := 5) (by decide) rfl rfl rfl
 have q2 := q1.task (f := fun t => { t with on := 0 }) (u := .int .i64 0) hta (hmT _ _ hm) (j := 8) (by decide) rfl rfl rfl
 have q3 := q2.task (f := fun t => { t with wake := -1 }) (u := .int .i64 (-1)) hta (hmT _ _ (hmT _ _ hm)) (j := 6) (by decide) rfl rfl rfl
 have q4 := q3.task (f := fun t => { t with last := a }) (u := .int .i64 a) hta (hmT _ _ (hmT _ _ (hmT _ _ hm))) (j := 4) (by decide) rfl rfl rfl
 have ek : K.setT (K.setT (K.setT (K.setT r m fun t => { t with state := 0 }) m fun t => { t with on := 0 }) m fun t => { t with wake := -1 }) m (fun t => { t with last := a }) = r.setT m fun t => { t with state := 0, on := 0, wake := -1, last := a } := by
  unfold K.setT
  simp only [List.modify_modify_eq]
  rfl
 rw [ek] at q4
 have p4 : Kp w L _ L := (((Kp.task (w := w) (i := m) (j := 5) (u := .int .i64 0) hta).trans (Kp.task (i := m) (j := 8) (u := .int .i64 0) hta)).trans (Kp.task (i := m) (j := 6) (u := .int .i64 (-1)) hta)).trans (Kp.task (i := m) (j := 4) (u := .int .i64 a) hta)
 have ER : Hid (r.ready m a = (r.setT m fun t => { t with state := 0, on := 0, wake := -1, last := a }).setL p (· ++ [(m : Int)])) := by
  show K.setL _ (((r.setT m fun t => { t with state := 0, on := 0, wake := -1, last := a }).ti m).prio.toNat) _ = _
  rw [ti_setT hm, if_pos rfl]
  show K.setL _ ((r.ti m).prio.toNat) _ = _
  rw [hp']
  rfl
 have el : (r.setT m fun t => { t with state := 0, on := 0, wake := -1, last := a }).l p = r.l p := rfl
 have et : ((r.setT m fun t => { t with state := 0, on := 0, wake := -1, last := a }).ti m).prio = p := by rw [ti_setT hm, if_pos rfl]; exact hp'
 have hm4 : m < (r.setT m fun t => { t with state := 0, on := 0, wake := -1, last := a }).tasks.length := hmT _ _ hm
 have hlen4 : (r.setT m fun t => { t with state := 0, on := 0, wake := -1, last := a }).tasks.length = r.tasks.length := len_setT
 have K4 := zh q4
 have P4 := zh p4
 clear q1 q2 q3 q4 p4 ek h hp hlen hmT
 go_enter Try.func51, Try.ntmps51
 go_upto_region 5 with fail
 generalize hwx : (((w.setCell ⟨gt, m * 13 + 5, none⟩ (.int .i64 0)).setCell ⟨gt, m * 13 + 8, none⟩ (.int .i64 0)).setCell ⟨gt, m * 13 + 6, none⟩ (.int .i64 (-1))).setCell ⟨gt, m * 13 + 4, none⟩ (.int .i64 a) = wx at *
 clear hwx t4 t5 t6 t8 f4 f5 f6 f8 c0
 generalize hr4 : (r.setT m fun t => { t with state := 0, on := 0, wake := -1, last := a }) = r4 at *
 clear hr4
 have HR : Hid (wx.ownsRow B 3 1 (L.V (.l p)) (r.l p).length (intV (r.l p))) := by
  have q := K4.out.row (.l p)
  show wx.ownsRow B 3 1 (L.V (.l p)) (r.l p).length (intV (r.l p))
  rw [← el]
  exact q
 have xv : wx.cell? ⟨L.b, 1 + p, none⟩ = some (L.V (.l p)) := K4.out.cRow hp32
 have xf : wx.frozen? ⟨L.b, 1 + p, none⟩ = false := K4.out.free (1 + p)
 have x1 : wx.cell? ⟨gt, m * 13 + 1, none⟩ = some (.int .i64 (p : Int)) := by
  have q := K4.out.cTask (i := m) (j := 1) (c := ct) (by rw [hlen4]; exact HTA.out) hm4 (by decide)
  rw [q]
  show some (Value.int .i64 (r4.ti m).prio) = _
  rw [et]
 have hgtl : gt < wx.heap.size := (K4.out.rowLt (p := .ta) (g := gt) (by rw [HTA.out]; rfl)).2
 have hLbl : L.b < wx.heap.size := K4.out.lt
 have hBw : B ≤ wx.heap.size := zt K4.out.low (Nat.le_of_lt hLbl)
 have hne0 : some gt ≠ (L.V (.l p)).ownBlock := fun e => K4.out.apart .ta (.l p) gt (by simp) (by rw [HTA.out]; rfl) e.symm
 have hne1 : some L.b ≠ (L.V (.l p)).ownBlock := fun e => K4.out.ne (.l p) e.symm
 have EL := zh el
 clear el et hp' hn
 generalize hVV : L.V (.l p) = VV at *
 obtain ⟨AV, cV, eV, -, -⟩ := row_slice HR.out
 subst eV
 have hl0 : Addr.block (⟨gt, m * 13 + 1, none⟩) < wx.heap.size := hgtl
 have hl1 : Addr.block (⟨L.b, 1 + p, none⟩) < wx.heap.size := hLbl
 refine wp_region_need (S := fun w' => w'.cell? (⟨gt, m * 13 + 1, none⟩) = some (.int .i64 (p : Int)) ∧ w'.cell? (⟨L.b, 1 + p, none⟩) = some ((.slice AV (r.l p).length cV))) (need := fun i => i != 20) 21 (bs 21 0) (by kernel_rfl) (by kernel_rfl) (by kernel_rfl) ?_ (fun hHeld => ?_)
 ·(try dsimp only)
  exact ⟨x1, xv⟩
 refine tk 0 (bs 21 1) (v := ?_) ?_ ?_; rotate_left 2
 refine tk 1 (bs 21 3) (v := ?_) ?_ ?_; rotate_left 2
 refine tk 2 (bs 21 7) (v := ?_) ?_ ?_; rotate_left 2
 refine tk 3 (bs 21 15) (v := ?_) ?_ ?_; rotate_left 2
 refine tk 4 (bs 21 31) (v := ?_) ?_ ?_; rotate_left 2
 refine tk 5 (bs 21 63) (v := ?_) ?_ ?_; rotate_left 2
 refine tk 6 (bs 21 127) (v := ?_) ?_ ?_; rotate_left 2
 refine tk 7 (bs 21 255) (v := ?_) ?_ ?_; rotate_left 2
 refine tk 8 (bs 21 511) (v := ?_) ?_ ?_; rotate_left 2
 refine tk 9 (bs 21 1023) (v := ?_) ?_ ?_; rotate_left 2
 refine tk 10 (bs 21 2047) (v := ?_) ?_ ?_; rotate_left 2
 refine tk 11 (bs 21 4095) (v := ?_) ?_ ?_; rotate_left 2
 refine tk 12 (bs 21 8191) (v := ?_) ?_ ?_; rotate_left 2
 refine tk 13 (bs 21 16383) (v := ?_) ?_ ?_; rotate_left 2
 refine tk 14 (bs 21 32767) (v := ?_) ?_ ?_; rotate_left 2
 refine tk 17 (bs 21 163839) (v := ?_) ?_ ?_; rotate_left 2
 refine tk 18 (bs 21 425983) (v := ?_) ?_ ?_; rotate_left 2
 rotate_left
 iterate 17 (rotate_left; focus (intro w hSw; (try dsimp only at hSw); obtain ⟨hS0', hS1'⟩ := hSw; go_simp; with_reducible rfl))
 try simp only [Act.put, p1, p2, p3, p4, p5, p6]
 refine wpAnyN_step (i := 15) (listed' := (bs 21 458751)) (by kernel_rfl) rfl (by kernel_rfl) (fun K hK => ?_)
 refine step_bsI rfl _ (by rfl) ((m : Int)) (by rfl) ?_
 refine hK.out _ _ ?_ (fun hHeld => ?_)
 ·(try dsimp only)
  exact fun _ => ⟨(zw _ _ _ hl0).trans hHeld.1, (zw _ _ _ hl1).trans hHeld.2⟩
 clear hK K
 replace hHeld := hHeld rfl
 try simp only [Act.put, p1, p2, p3, p4, p5, p6]
 refine wpAnyN_step (i := 16) (listed' := (bs 21 524287)) (by kernel_rfl) rfl (by kernel_rfl) (fun K hK => ?_)
 refine step_appI rfl _ _ (by rfl) B (.slice AV (r.l p).length cV) (r.l p) (by rfl) (HR.out.alloc _) ((m : Int)) ⟨wx.heap.size, 0, none⟩ 1 (by rfl) (by exact (zm wx 3 #[.int .i64 ((m : Int))]).cell 0) hxl (by rw [World.size_alloc]; exact Nat.le_succ_of_le hBw) ?_
 intro gg cap w5 hown hgrow hor
 have hVlt := HR.out.lt
 have z0 := (hgrow.cell_far (⟨L.b, 1 + p, none⟩) (lt_al hl1 _) hne1).trans hHeld.2
 have zf := (hgrow.frozen_far (⟨L.b, 1 + p, none⟩) (lt_al hl1 _) hne1).trans ((zx (zo _ _ _ hl1)).trans xf)
 have HO := zh hown
 have HG := zh hgrow
 have HOR := zh hor
 clear hown hor
 refine hK.out _ _ ?_ (fun hHeld => ?_)
 ·(try dsimp only)
  exact fun _ => ⟨(hgrow.cell_far (⟨gt, m * 13 + 1, none⟩) (lt_al hl0 _) hne0).trans hHeld.1, (hgrow.cell_far (⟨L.b, 1 + p, none⟩) (lt_al hl1 _) hne1).trans hHeld.2⟩
 clear hK K
 replace hHeld := hHeld rfl
 try simp only [Act.put, p1, p2, p3, p4, p5, p6]
 refine tk 19 (bs 21 1048575) (v := ?_) ?_ ?_; rotate_left 2
 rotate_left
 iterate 1 (rotate_left; focus (intro w hSw; (try dsimp only at hSw); obtain ⟨hS0', hS1'⟩ := hSw; go_simp; with_reducible rfl))
 try simp only [Act.put, p1, p2, p3, p4, p5, p6]
 refine wpAnyN_step (i := 20) (listed' := (bs 21 2097151)) (by kernel_rfl) rfl (by kernel_rfl) (fun K hK => ?_)
 refine step_storeI rfl _ _ (by rfl) (by rfl) (by rfl) z0 zf ?_
 refine hK.out _ _ ?_ (fun hHeld => ?_)
 ·exact fun h => absurd h (by decide)
 clear hK K
 try simp only [Act.put, p1, p2, p3]
 refine wpAnyN_done (by kernel_rfl) ?_ _
 obtain ⟨a1, a2⟩ := K4.out.pushed (n := (m : Int)) hp32 (gg := gg) (cap := cap) (w5 := w5) (by rw [EL.out]; exact HO.out) (by rw [hVV]; exact grown_drew HG.out) (by rw [hVV]; exact HOR.out)
 rw [EL.out] at a1 a2
 have A1 := zh a1
 have A2 := zh a2
 clear a1 a2 hgrow
 go_wp2_with fail
 go_end0
 rw [ER.out]
 exact ⟨rfl, _, A1.out, P4.out.trans A2.out⟩
theorem say_ti {r : K} {m : Nat} {a : Int} (hm : m < r.tasks.length) : ((r.say m a).ti m).prio = (r.ti m).prio := by
 unfold K.say
 rw [ti_setT hm, if_pos rfl]
set_option maxRecDepth 100000 in
set_option maxHeartbeats 8000000 in
theorem back_any {w : World} {B : Nat} {r : K} {L : Ly} {m : Nat} (h : RM w B r L) (hm : m < r.tasks.length) (hn : r.tasks.length ≤ 1000) (hp : 0 ≤ (r.ti m).prio ∧ (r.ti m).prio < 32) (hlen : (r.l (r.ti m).prio.toNat).length ≤ 1000000) :
 Calls Try.prog 76 #[.pointer (some ⟨L.b, 0, none⟩), .int .i64 m] w fun e w' => e = .returned (.tuple #[]) ∧ ∃ L', RM w' B (r.back m) L' ∧ Kp w L w' L' := by
 obtain ⟨p, hp'⟩ := Int.eq_ofNat_of_zero_le hp.1
 have hp32 : p < 32 := by omega
 have ip : (p : Int) < 32 := by omega
 have ip0 : (0 : Int) ≤ p := by omega
 have im : (m : Int) < r.tasks.length := by omega
 have im0 : (0 : Int) ≤ m := by omega
 obtain ⟨gt, ct, hta⟩ := h.ta (by omega)
 have HTA := zh hta
 have c0 := h.cTa
 rw [hta] at c0
 have t4 : w.cell? ⟨gt, m * 13 + 4, none⟩ = some (.int .i64 (r.ti m).last) := h.cTask hta hm (j := 4) (by decide)
 have f4 := h.rowFree hta (m * 13 + 4)
 have q1 := h.task (f := fun t => { t with last := 0 }) (u := .int .i64 0) hta hm (j := 4) (by decide) rfl rfl rfl
 have p1 : Kp w L _ L := Kp.task (w := w) (i := m) (j := 4) (u := .int .i64 0) hta
 have hmS : m < (r.say m 0).tasks.length := by unfold K.say; rw [len_setT]; exact hm
 have hlS : (r.say m 0).tasks.length = r.tasks.length := len_setT
 have etS : ((r.say m 0).ti m).prio = p := (say_ti hm).trans hp'
 have elv := leave_any (r := r.say m 0) q1 hmS (by rw [hlS]; exact hn) (by rw [etS]; omega) (by rw [etS]; rw [hp'] at hlen; exact hlen)
 have ER : Hid (r.back m = ((r.say m 0).leave m).setL p (· ++ [(m : Int)])) := by
  show K.setL _ ((r.ti m).prio.toNat) _ = _
  rw [hp']
  rfl
 have hxl : (((r.say m 0).leave m).l p).length ≤ 1000000 := by
  have e : (r.say m 0).leave m = (r.say m 0).setL p (·.filter (· ≠ (m : Int))) := by
   show K.setL _ (((r.say m 0).ti m).prio.toNat) _ = _
   rw [etS]
   rfl
  rw [e, l_same (r := r.say m 0) (x := p) q1 (by omega)]
  refine zt (List.length_filter_le _ _) ?_
  rw [hp'] at hlen
  exact hlen
 have HL := zh elv
 have P1 := zh p1
 have hn1 := hn
 clear q1 p1 h hp hlen elv
 have et : (((r.say m 0).leave m).ti m).prio = p := etS
 have hm4 : m < ((r.say m 0).leave m).tasks.length := hmS
 have hlen4 : ((r.say m 0).leave m).tasks.length = r.tasks.length := hlS
 generalize hr4 : (r.say m 0).leave m = r4 at *
 clear hr4
 go_enter Try.func76, Try.ntmps76
 go_wp2_with fail
 refine HL.out.mono ?_
 rintro e wx ⟨rfl, L1, k1, p1⟩
 clear t4 f4 c0
 have eb := p1.b
 have ebT : L1.V .ta = .slice (some ⟨gt, 0, none⟩) r.tasks.length ct := (p1.fix .ta (by simp) (by simp)).trans HTA.out
 have c0 := k1.cTa
 rw [ebT, eb] at c0
 have K4 := zh k1
 have P4 := zh (P1.out.trans p1)
 clear k1 p1
 have HR : Hid (wx.ownsRow B 3 1 (L1.V (.l p)) (r4.l p).length (intV (r4.l p))) := K4.out.row (.l p)
 have xv : wx.cell? ⟨L.b, 1 + p, none⟩ = some (L1.V (.l p)) := by rw [← eb]; exact K4.out.cRow hp32
 have xf : wx.frozen? ⟨L.b, 1 + p, none⟩ = false := by rw [← eb]; exact K4.out.free (1 + p)
 have x1 : wx.cell? ⟨gt, m * 13 + 1, none⟩ = some (.int .i64 (p : Int)) := by
  have q := K4.out.cTask (i := m) (j := 1) (c := ct) (by rw [hlen4]; exact ebT) hm4 (by decide)
  rw [q]
  show some (Value.int .i64 (r4.ti m).prio) = _
  rw [et]
 have hgtl : gt < wx.heap.size := (K4.out.rowLt (p := .ta) (g := gt) (by rw [ebT]; rfl)).2
 have hLbl : L.b < wx.heap.size := by rw [← eb]; exact K4.out.lt
 have hBw : B ≤ wx.heap.size := zt K4.out.low (by rw [eb]; exact Nat.le_of_lt hLbl)
 have hne0 : some gt ≠ (L1.V (.l p)).ownBlock := fun e => K4.out.apart .ta (.l p) gt (by simp) (by rw [ebT]; rfl) e.symm
 have hne1 : some L.b ≠ (L1.V (.l p)).ownBlock := fun e => K4.out.ne (.l p) (by rw [eb]; exact e.symm)
 have EB := zh eb
 clear et etS hp' hn hmS hlS hlen4 eb ebT hta
 generalize hVV : L1.V (.l p) = VV at *
 have HVV := zh hVV
 clear hVV
 obtain ⟨AV, cV, eV, -, -⟩ := row_slice HR.out
 subst eV
 go_upto_region 3 with fail
 have hl0 : Addr.block (⟨gt, m * 13 + 1, none⟩) < wx.heap.size := hgtl
 have hl1 : Addr.block (⟨L.b, 1 + p, none⟩) < wx.heap.size := hLbl
 refine wp_region_need (S := fun w' => w'.cell? (⟨gt, m * 13 + 1, none⟩) = some (.int .i64 (p : Int)) ∧ w'.cell? (⟨L.b, 1 + p, none⟩) = some ((.slice AV (r4.l p).length cV))) (need := fun i => i != 20) 21 (bs 21 0) (by kernel_rfl) (by kernel_rfl) (by kernel_rfl) ?_ (fun hHeld => ?_)
 ·(try dsimp only)
  exact ⟨x1, xv⟩
 refine tk 0 (bs 21 1) (v := ?_) ?_ ?_; rotate_left 2
 refine tk 1 (bs 21 3) (v := ?_) ?_ ?_; rotate_left 2
 refine tk 2 (bs 21 7) (v := ?_) ?_ ?_; rotate_left 2
 refine tk 3 (bs 21 15) (v := ?_) ?_ ?_; rotate_left 2
 refine tk 4 (bs 21 31) (v := ?_) ?_ ?_; rotate_left 2
 refine tk 5 (bs 21 63) (v := ?_) ?_ ?_; rotate_left 2
 refine tk 6 (bs 21 127) (v := ?_) ?_ ?_; rotate_left 2
 refine tk 7 (bs 21 255) (v := ?_) ?_ ?_; rotate_left 2
 refine tk 8 (bs 21 511) (v := ?_) ?_ ?_; rotate_left 2
 refine tk 9 (bs 21 1023) (v := ?_) ?_ ?_; rotate_left 2
 refine tk 10 (bs 21 2047) (v := ?_) ?_ ?_; rotate_left 2
 refine tk 11 (bs 21 4095) (v := ?_) ?_ ?_; rotate_left 2
 refine tk 12 (bs 21 8191) (v := ?_) ?_ ?_; rotate_left 2
 refine tk 13 (bs 21 16383) (v := ?_) ?_ ?_; rotate_left 2
 refine tk 14 (bs 21 32767) (v := ?_) ?_ ?_; rotate_left 2
 refine tk 17 (bs 21 163839) (v := ?_) ?_ ?_; rotate_left 2
 refine tk 18 (bs 21 425983) (v := ?_) ?_ ?_; rotate_left 2
 rotate_left
 iterate 17 (rotate_left; focus (intro w hSw; (try dsimp only at hSw); obtain ⟨hS0', hS1'⟩ := hSw; go_simp; with_reducible rfl))
 try simp only [Act.put, p1, p2, p3, p4, p5, p6]
 refine wpAnyN_step (i := 15) (listed' := (bs 21 458751)) (by kernel_rfl) rfl (by kernel_rfl) (fun K hK => ?_)
 refine step_bsI rfl _ (by rfl) ((m : Int)) (by rfl) ?_
 refine hK.out _ _ ?_ (fun hHeld => ?_)
 ·(try dsimp only)
  exact fun _ => ⟨(zw _ _ _ hl0).trans hHeld.1, (zw _ _ _ hl1).trans hHeld.2⟩
 clear hK K
 replace hHeld := hHeld rfl
 try simp only [Act.put, p1, p2, p3, p4, p5, p6]
 refine wpAnyN_step (i := 16) (listed' := (bs 21 524287)) (by kernel_rfl) rfl (by kernel_rfl) (fun K hK => ?_)
 refine step_appI rfl _ _ (by rfl) B (.slice AV (r4.l p).length cV) (r4.l p) (by rfl) (HR.out.alloc _) ((m : Int)) ⟨wx.heap.size, 0, none⟩ 1 (by rfl) (by exact (zm wx 3 #[.int .i64 ((m : Int))]).cell 0) hxl (by rw [World.size_alloc]; exact Nat.le_succ_of_le hBw) ?_
 intro gg cap w5 hown hgrow hor
 have hVlt := HR.out.lt
 have z0 := (hgrow.cell_far (⟨L.b, 1 + p, none⟩) (lt_al hl1 _) hne1).trans hHeld.2
 have zf := (hgrow.frozen_far (⟨L.b, 1 + p, none⟩) (lt_al hl1 _) hne1).trans ((zx (zo _ _ _ hl1)).trans xf)
 have HO := zh hown
 have HG := zh hgrow
 have HOR := zh hor
 clear hown hor
 refine hK.out _ _ ?_ (fun hHeld => ?_)
 ·(try dsimp only)
  exact fun _ => ⟨(hgrow.cell_far (⟨gt, m * 13 + 1, none⟩) (lt_al hl0 _) hne0).trans hHeld.1, (hgrow.cell_far (⟨L.b, 1 + p, none⟩) (lt_al hl1 _) hne1).trans hHeld.2⟩
 clear hK K
 replace hHeld := hHeld rfl
 try simp only [Act.put, p1, p2, p3, p4, p5, p6]
 refine tk 19 (bs 21 1048575) (v := ?_) ?_ ?_; rotate_left 2
 rotate_left
 iterate 1 (rotate_left; focus (intro w hSw; (try dsimp only at hSw); obtain ⟨hS0', hS1'⟩ := hSw; go_simp; with_reducible rfl))
 try simp only [Act.put, p1, p2, p3, p4, p5, p6]
 refine wpAnyN_step (i := 20) (listed' := (bs 21 2097151)) (by kernel_rfl) rfl (by kernel_rfl) (fun K hK => ?_)
 refine step_storeI rfl _ _ (by rfl) (by rfl) (by rfl) z0 zf ?_
 refine hK.out _ _ ?_ (fun hHeld => ?_)
 ·exact fun h => absurd h (by decide)
 clear hK K
 try simp only [Act.put, p1, p2, p3]
 refine wpAnyN_done (by kernel_rfl) ?_ _
 obtain ⟨a1, a2⟩ := K4.out.pushed (n := (m : Int)) hp32 (gg := gg) (cap := cap) (w5 := w5) HO.out (by rw [HVV.out]; exact grown_drew HG.out) (by rw [HVV.out]; exact HOR.out)
 rw [EB.out] at a1 a2
 have A1 := zh a1
 have A2 := zh a2
 clear a1 a2 hgrow
 go_wp2_with fail
 go_end0
 rw [ER.out]
 exact ⟨rfl, _, A1.out, P4.out.trans A2.out⟩
end Rk
end Go.Proofs.Ytncbgnpoffolcaa
namespace Go.Proofs.Ytncbgnpoffolcaa
open Go.RowKit
namespace Rk
/-- The numbers that the walks need. -/
structure RF (r : K) (M : Nat) : Prop where
 pos : 0 < r.tasks.length
 tasks : r.tasks.length ≤ 1000
 prio : ∀ i, i < r.tasks.length → 0 ≤ (r.ti i).prio ∧ (r.ti i).prio < 32
 len : ∀ x, (r.l x).length ≤ M
 owner : r.owner.length ≤ 8
theorem l_any (r : K) (x y : Nat) (f : List Int → List Int) : (r.setL x f).l y = if y = x ∧ x < r.lst.length then f (r.l x) else r.l y := by
 unfold K.setL K.l
 by_cases e : y = x
 ·subst e
  by_cases h : y < r.lst.length
  ·simp [h]
  ·simp [h]
 ·simp [e, Ne.symm e]
section
variable {r : K} {M M' : Nat}
theorem RF.more (h : RF r M) (hM : M ≤ M') : RF r M' := ⟨h.pos, h.tasks, h.prio, fun x => zt (h.len x) hM, h.owner⟩
theorem RF.setT {i : Nat} {f : T → T} (h : RF r M) (hi : i < r.tasks.length) (hp : 0 ≤ (f (r.ti i)).prio ∧ (f (r.ti i)).prio < 32) : RF (r.setT i f) M :=
 ⟨by rw [len_setT]; exact h.pos, by rw [len_setT]; exact h.tasks, fun j hj => by
  rw [len_setT] at hj
  rw [ti_setT hi]
  by_cases e : j = i
  ·rw [if_pos e]; exact hp
  ·rw [if_neg e]; exact h.prio j hj, h.len, h.owner⟩
theorem RF.setL {x : Nat} {f : List Int → List Int} (h : RF r M) (hM : M ≤ M') (hf : (f (r.l x)).length ≤ M') : RF (r.setL x f) M' :=
 ⟨h.pos, h.tasks, h.prio, fun y => by
  rw [l_any]
  split
  ·exact hf
  ·exact zt (h.len y) hM, h.owner⟩
theorem RF.leave {n : Int} (h : RF r M) : RF (r.leave n) M := h.setL (zl _) (zt (List.length_filter_le _ _) (h.len _))
theorem RF.push {x : Nat} {n : Int} (h : RF r M) : RF (r.setL x (· ++ [n])) (M + 1) := h.setL (Nat.le_succ _) (by rw [List.length_append]; have := h.len x; simp; omega)
theorem RF.ready {m : Nat} {a : Int} (h : RF r M) (hm : m < r.tasks.length) : RF (r.ready m a) (M + 1) := RF.push (h.setT hm (h.prio m hm))
theorem RF.ownerSet {i : Nat} {b : Int} (h : RF r M) : RF { r with owner := r.owner.set i b } M := ⟨h.pos, h.tasks, h.prio, h.len, by show (r.owner.set i b).length ≤ 8; rw [List.length_set]; exact h.owner⟩
theorem bestAt_range {on id : Int} : ∀ (f i : Nat) (b : Int), i + f ≤ r.tasks.length → (b < 0 ∨ b < r.tasks.length) → (r.bestAt on id f i b < 0 ∨ r.bestAt on id f i b < r.tasks.length)
 | 0, _, _, _, h => h
 | f + 1, i, b, hi, h => by
   refine bestAt_range (on := on) (id := id) f (i + 1) _ (by omega) ?_
   split
   ·split
    ·exact .inr (by omega)
    ·exact h
   ·exact h
theorem best_range (on id : Int) : r.best on id < 0 ∨ r.best on id < r.tasks.length := bestAt_range _ _ _ (by omega) (.inl (by decide))
theorem RF.free {i : Nat} (h : RF r M) : RF (r.free i) (M + 1) := by
 unfold K.free
 simp only []
 split
 ·rename_i hb
  obtain ⟨m, hm⟩ := Int.eq_ofNat_of_zero_le hb
  have hr := best_range (r := r) 2 i
  rw [hm] at hr ⊢
  exact RF.ready h.ownerSet (by show m < r.tasks.length; omega)
 ·exact h.ownerSet.more (Nat.le_succ _)
theorem free_len (r : K) (i : Nat) : (r.free i).owner.length = r.owner.length ∧ (r.free i).tasks.length = r.tasks.length := by
 unfold K.free
 simp only []
 split
 ·exact ⟨by show (r.owner.set _ _).length = _; rw [List.length_set], by show (K.setT _ _ _).tasks.length = _; rw [len_setT]⟩
 ·exact ⟨by show (r.owner.set _ _).length = _; rw [List.length_set], rfl⟩
end
section
variable {w : World} {B : Nat} {r : K} {L : Ly}
theorem intV_set (l : List Int) (i : Nat) (b : Int) : intV (l.set i b) = (intV l).set i (.int .i64 b) := by unfold intV; rw [List.map_set]
theorem RM.owner (h : RM w B r L) {g n c i : Nat} {b : Int} (hv : L.V .ow = .slice (some ⟨g, 0, none⟩) n c) : RM (w.setCell ⟨g, i, none⟩ (.int .i64 b)) B { r with owner := r.owner.set i b } L :=
 h.put .ow hv ⟨rfl, fun _ => rfl, rfl, rfl⟩ rfl (fun p => by cases p <;> first | rfl | exact List.length_set) (intV_set _ _ _) (fun p hp => by cases p <;> first | rfl | exact absurd rfl hp)
theorem RM.ow (h : RM w B r L) (hn : 0 < r.owner.length) : ∃ g c, L.V .ow = .slice (some ⟨g, 0, none⟩) r.owner.length c := h.form (p := .ow) hn
theorem RM.cRowInt (h : RM w B r L) {p : Part} {l : List Int} {g n c j : Nat} (hv : L.V p = .slice (some ⟨g, 0, none⟩) n c) (hp : p.ty = 3 ∧ p.sz = 1 ∧ p.len r = l.length ∧ p.cells r L = intV l) (hj : j < l.length) : w.cell? ⟨g, j, none⟩ = some (.int .i64 l[j]) := by
 have q := h.row p
 obtain ⟨h1, h2, h3, h4⟩ := hp
 rw [h1, h2, h3, h4] at q
 obtain ⟨g', c', e1, _, hc⟩ := row_int q hj
 rw [hv] at e1
 injection e1 with e1 _ _
 injection e1 with e1
 injection e1 with e1
 rw [e1]
 exact hc
end
set_option maxRecDepth 100000 in
set_option maxHeartbeats 4000000 in
theorem free_any {w : World} {B M : Nat} {r : K} {L : Ly} {i : Nat} (h : RM w B r L) (hf : RF r M) (hM : M ≤ 999000) (hi : i < r.owner.length) :
 Calls Try.prog 75 #[.pointer (some ⟨L.b, 0, none⟩), .int .i64 i] w fun e w' => e = .returned (.tuple #[]) ∧ ∃ L', RM w' B (r.free i) L' ∧ Kp w L w' L' := by
 have HB := zh (best_any 2 i h hf.tasks hf.pos)
 have HK := zh h
 have HF := zh hf
 have hi8 := hf.owner
 clear h hf
 go_enter Try.func75, Try.ntmps75
 go_wp2_with fail
 refine HB.out.mono ?_
 rintro e w1 ⟨rfl, hb1⟩
 have k1 := HK.out.below hb1
 have K1 := zh k1
 have P1 := zh (Kp.of_below (L := L) hb1)
 obtain ⟨go, co, hv⟩ := k1.ow (by omega)
 have HV := zh hv
 have c34 := k1.cOw
 rw [hv] at c34
 have ci := k1.cRowInt (p := .ow) (l := r.owner) hv ⟨rfl, rfl, rfl, rfl⟩ hi
 have fi := k1.rowFree hv i
 have ii : (i : Int) < r.owner.length := by omega
 have ii0 : (0 : Int) ≤ i := by omega
 have hr := best_range (r := r) 2 i
 have EF : Hid (r.free i = if 0 ≤ r.best 2 i then K.ready { r with owner := r.owner.set i (r.best 2 i) } (r.best 2 i) 0 else { r with owner := r.owner.set i (r.best 2 i) }) := rfl
 generalize r.owner[i] = ow at *
 generalize hbb : r.best 2 i = b at *
 clear hbb k1 hb1 hv
 by_cases hb : 0 ≤ b
 ·obtain ⟨m, rfl⟩ := Int.eq_ofNat_of_zero_le hb
  have hm : m < r.tasks.length := by omega
  have k2 := K1.out.owner (i := i) (b := (m : Int)) HV.out
  have HR := zh (ready_any (m := m) 0 k2 hm HF.out.tasks (HF.out.prio m hm) (zt (HF.out.len _) (by omega)))
  clear k2
  go_wp2_with fail
  refine HR.out.mono ?_
  rintro e w2 ⟨rfl, L2, k2, p2⟩
  have K2 := zh k2
  have P2 := zh p2
  clear k2 p2
  go_wp2_with fail
  go_end0
  rw [EF.out, if_pos hb]
  exact ⟨rfl, L2, K2.out, P1.out.trans ((Kp.put (p := .ow) (by rw [HV.out]; rfl)).trans P2.out)⟩
 ·have hbn : b < 0 := by omega
  go_wp2_with fail
  go_end0
  rw [EF.out, if_neg (Int.not_le.2 hbn)]
  exact ⟨rfl, L, K1.out.owner HV.out, P1.out.trans (Kp.put (p := .ow) (by rw [HV.out]; rfl))⟩
theorem gives_succ {n : Int} {f i : Nat} {r : K} : K.gives n (f + 1) i r = K.gives n f (i + 1) (if r.owner.getD i (-1) = n then r.free i else r) := rfl
set_option maxRecDepth 100000 in
set_option maxHeartbeats 4000000 in
theorem end_any {w : World} {B M : Nat} {r : K} {L : Ly} {m : Nat} (h : RM w B r L) (hf : RF r M) (hM : M ≤ 990000) (hm : m < r.tasks.length) :
 Calls Try.prog 48 #[.pointer (some ⟨L.b, 0, none⟩), .int .i64 m] w fun e w' => e = .returned (.tuple #[]) ∧ ∃ L', RM w' B (r.fin m) L' ∧ Kp w L w' L' := by
 have HL := zh (leave_any h hm hf.tasks (hf.prio m hm) (zt (hf.len _) (by omega)))
 obtain ⟨gt, ct, hta⟩ := h.ta hf.pos
 have HTA := zh hta
 have HF := zh hf
 have im : (m : Int) < r.tasks.length := by omega
 have im0 : (0 : Int) ≤ m := by omega
 have ho8 := hf.owner
 clear h hf hta
 go_enter Try.func48, Try.ntmps48
 go_wp2_with fail
 refine HL.out.mono ?_
 rintro e w1 ⟨rfl, L1, k1, p1⟩
 have ebT : L1.V .ta = .slice (some ⟨gt, 0, none⟩) r.tasks.length ct := (p1.fix .ta (by simp) (by simp)).trans HTA.out
 have eb := p1.b
 have c0 := k1.cTa
 rw [ebT, eb] at c0
 have t5 : w1.cell? ⟨gt, m * 13 + 5, none⟩ = some (.int .i64 (r.ti m).state) := k1.cTask ebT hm (j := 5) (by decide)
 have f5 := k1.rowFree ebT (m * 13 + 5)
 have q1 := k1.task (f := fun t => { t with state := 2 }) (u := .int .i64 2) ebT hm (j := 5) (by decide) rfl rfl rfl
 have K2 := zh q1
 have P2 := zh (p1.trans (Kp.task (i := m) (j := 5) (u := .int .i64 2) ebT))
 have E : Hid (r.fin m = K.gives m r.owner.length 0 ((r.leave m).setT m fun t => { t with state := 2 })) := rfl
 have R2 : RF ((r.leave m).setT m fun t => { t with state := 2 }) M := (HF.out.leave).setT hm (HF.out.prio m hm)
 have hl2 : ((r.leave m).setT m fun t => { t with state := 2 }).owner.length = r.owner.length := rfl
 have HR2 := zh R2
 generalize ((r.leave m).setT m fun t => { t with state := 2 }) = r2 at *
 clear k1 p1 q1 R2
 go_wp2_with fail
 generalize hw2 : w1.setCell ⟨gt, m * 13 + 5, none⟩ (.int .i64 2) = w2 at *
 clear hw2 t5 f5 c0 HL
 go_loopg [4] r.owner.length (fun kk i wr => ∃ (j : Nat) (r' : K) (L' : Ly), j ≤ r.owner.length ∧ i = .int .i64 j ∧ r.fin m = K.gives m (r.owner.length - j) j r' ∧ r'.owner.length = r.owner.length ∧ RF r' (M + j) ∧ RM wr B r' L' ∧ Kp w L wr L' ∧ r.owner.length - j ≤ kk)
 case atStart => exact ⟨0, r2, L1, Nat.zero_le _, rfl, E.out, hl2, HR2.out, K2.out, P2.out, by omega⟩
 case round =>
  obtain ⟨j, r', L', hj, rfl, he, hlo, hrf, hk, hp, hkk⟩ := hrel
  have eb2 := hp.b
  have HE := zh he
  have HRF := zh hrf
  have HK := zh hk
  have HP := zh hp
  have c34 := hk.cOw
  obtain ⟨A4, q4, e4, -, -⟩ := hk.slice .ow
  replace e4 : L'.V .ow = .slice A4 r'.owner.length q4 := e4
  rw [e4, eb2, hlo] at c34
  clear he hrf hp E K2 P2 HR2
  by_cases hlt : j < r.owner.length
  ·have hlt' : (j : Int) < r.owner.length := by omega
   have hj0 : (0 : Int) ≤ j := by omega
   obtain ⟨go, co, hv⟩ := hk.ow (by omega)
   rw [e4] at hv
   injection hv with hv _ hv2
   subst hv
   have cj := hk.cRowInt (p := .ow) (l := r'.owner) e4 ⟨rfl, rfl, rfl, rfl⟩ (by omega : j < r'.owner.length)
   have HS : Hid (K.gives (m : Int) (r.owner.length - j) j r' = K.gives m (r.owner.length - (j + 1)) (j + 1) (if r'.owner.getD j (-1) = m then r'.free j else r')) := by
    show _ = _
    rw [show r.owner.length - j = r.owner.length - (j + 1) + 1 by omega]
    exact gives_succ
   have eg : r'.owner.getD j (-1) = r'.owner[j]'(by omega) := by rw [zd, List.getElem?_eq_getElem (by omega)]; rfl
   rw [eg] at HS
   have HFA := zh (free_any (i := j) HK.out HRF.out (by omega) (by omega))
   rw [eb2] at HFA
   clear eg
   generalize r'.owner[j]'(by omega) = ow at *
   by_cases hv : ow = (m : Int)
   ·subst hv
    rw [if_pos rfl] at HS
    clear hk
    go_wp2_with fail
    refine HFA.out.mono ?_
    rintro e w3 ⟨rfl, L3, k3, p3⟩
    have K3 := zh k3
    have P3 := zh (HP.out.trans p3)
    clear k3 p3
    go_wp2_with fail
    go_roundg (r.owner.length - (j + 1))
    case measure => omega
    case rel => exact ⟨j + 1, _, L3, by omega, by go_num, HE.out.trans HS.out, (free_len _ _).1.trans hlo, HRF.out.free, K3.out, P3.out, zl _⟩
   ·have hv2 : (ow == (m : Int)) = false := by simp [hv]
    rw [if_neg hv] at HS
    clear hk
    go_wp2_with fail
    go_roundg (r.owner.length - (j + 1))
    case measure => omega
    case rel => exact ⟨j + 1, _, L', by omega, by go_num, HE.out.trans HS.out, hlo, HRF.out.more (by omega), HK.out, HP.out, zl _⟩
  ·have hge : ¬ (j : Int) < r.owner.length := by omega
   have hjl : j = r.owner.length := by omega
   have EE : Hid (r.fin m = r') := by
    show _ = _
    rw [HE.out, hjl, Nat.sub_self]
    rfl
   clear hk
   go_wp2_with fail
   go_end0
   rw [EE.out]
   exact ⟨rfl, L', HK.out, HP.out⟩
end Rk
end Go.Proofs.Ytncbgnpoffolcaa
