/-
  The document's kernel: the walk of do: put, show, poke.
-/
import Derived.Test.YtncbgnpoffolcaaRkP
namespace Go.Proofs.Ytncbgnpoffolcaa
open Go.RowKit
namespace Rk
set_option maxRecDepth 100000 in
set_option maxHeartbeats 16000000 in
theorem do_0 {w : World} {B M : Nat} {r : K} {L : Ly} {m : Nat} {a : Nat} {ob : Int} (h : DO w B M r L m ⟨0, (a : Int), ob⟩) (_ha : a ≤ 255) (hol1 : r.out.length ≤ 1000000) :
 Calls Try.prog 50 #[.pointer (some ⟨L.b, 0, none⟩), .int .i64 m] w (DoPost w B (r.do_ m) L) := by
 refine (doHead h).2 ?_
 intro hM hm hpl hol hct gt ct im im0 cO ad hwr HK HF HTA hpl3 hgo hog KK hKK W2 F2 P2 W2F r1 EO hT1 hm1 HF1 hti hown hsem hsiz hcnt htic hou K2 HTA1 c0 x0 x1 x2
 clear h
 have xo := K2.out.cOut
 have xf := K2.out.free 36
 obtain ⟨AV, cV, eV, -, -⟩ := K2.out.slice .out
 replace eV : L.V .out = .slice AV r1.out.length cV := eV
 have EV := zh eV
 have HR : Hid (W2.ownsRow B 5 1 (.slice AV r1.out.length cV) r1.out.length (byteV r1.out)) := by
  show W2.ownsRow B 5 1 _ _ _
  rw [← eV]
  exact K2.out.row .out
 rw [eV] at xo
 have hLbl := K2.out.lt
 have hgol := F2.out.lt
 have hgtl : gt < W2.heap.size := (K2.out.rowLt (p := .ta) (g := gt) (by rw [HTA.out]; rfl)).2
 have hBw : B ≤ W2.heap.size := zt K2.out.low (Nat.le_of_lt hLbl)
 have hneL : some L.b ≠ (Value.slice AV r1.out.length cV).ownBlock := fun e => K2.out.ne .out (by rw [eV]; exact e.symm)
 have hneO : some w.heap.size ≠ (Value.slice AV r1.out.length cV).ownBlock := fun e => F2.out.V .out (by rw [eV]; exact e.symm)
 have hneT : some gt ≠ (Value.slice AV r1.out.length cV).ownBlock := fun e => K2.out.apart .ta .out gt (by decide) (by rw [HTA.out]; rfl) (by rw [eV]; exact e.symm)
 clear eV
 replace hol1 : r1.out.length ≤ 1000000 := by rw [hou.out]; exact hol1
 obtain ⟨bb, hb⟩ : ∃ b, b = UInt8.ofNat a := ⟨_, rfl⟩
 have hw8 : IntKind.u8.wrap (a : Int) = (bb.toNat : Int) := by rw [hb, UInt8.toNat_ofNat', IntKind.wrap_u8]; omega
 have EA : Hid (r1.act m ⟨0, (a : Int), ob⟩ = { r1 with out := r1.out ++ [bb] }) := by
  show { r1 with out := r1.out ++ [UInt8.ofNat ((a : Int).toNat)] } = _
  rw [hb]
  rfl
 clear hb
 go_upto_region 6 with fail
 have hl0 : Addr.block (⟨w.heap.size, 1, none⟩) < W2.heap.size := hgol
 have hne0 := hneO
 have hl1 : Addr.block (⟨L.b, 36, none⟩) < W2.heap.size := hLbl
 have hne1 := hneL
 refine wp_region_need (S := fun w' => w'.cell? (⟨w.heap.size, 1, none⟩) = some (.int .i64 (a : Int)) ∧ w'.cell? (⟨L.b, 36, none⟩) = some (.slice AV r1.out.length cV)) (need := fun i => i != 12) 13 (bs 13 0) (by kernel_rfl) (by kernel_rfl) (by kernel_rfl) ?_ (fun hHeld => ?_)
 ·(try dsimp only)
  exact ⟨x1, xo⟩
 refine tk 0 (bs 13 1) (v := ?_) ?_ ?_; rotate_left 2
 refine tk 1 (bs 13 3) (v := ?_) ?_ ?_; rotate_left 2
 refine tk 2 (bs 13 7) (v := ?_) ?_ ?_; rotate_left 2
 refine tk 3 (bs 13 15) (v := ?_) ?_ ?_; rotate_left 2
 refine tk 4 (bs 13 31) (v := ?_) ?_ ?_; rotate_left 2
 refine tk 5 (bs 13 63) (v := ?_) ?_ ?_; rotate_left 2
 refine tk 6 (bs 13 127) (v := ?_) ?_ ?_; rotate_left 2
 refine tk 7 (bs 13 255) (v := ?_) ?_ ?_; rotate_left 2
 rotate_left
 iterate 8 (rotate_left; focus (intro w hSw; (try dsimp only at hSw); obtain ⟨hS0', hS1'⟩ := hSw; go_simp; with_reducible rfl))
 try simp only [Act.put, p1, p2, p3, p4, p5, p6]
 refine wpAnyN_step (i := 8) (listed' := (bs 13 511)) (by kernel_rfl) rfl (by kernel_rfl) (fun K hK => ?_)
 refine step_bsB rfl _ (by rfl) ((bb.toNat : Int)) (by rfl) ?_
 refine hK.out _ _ ?_ (fun hHeld => ?_)
 ·(try dsimp only)
  exact fun _ => ⟨(zw _ _ _ hl0).trans (hHeld.1), (zw _ _ _ hl1).trans (hHeld.2)⟩
 clear hK K
 replace hHeld := hHeld rfl
 try simp only [Act.put, p1, p2, p3, p4, p5, p6]
 refine wpAnyN_step (i := 9) (listed' := (bs 13 1023)) (by kernel_rfl) rfl (by kernel_rfl) (fun K hK => ?_)
 refine step_appB rfl _ _ (by rfl) B (.slice AV r1.out.length cV) r1.out (by rfl) (HR.out.alloc _) bb ⟨W2.heap.size, 0, none⟩ 1 (by rfl) (by exact (zm W2 5 #[.int .u8 ((bb.toNat : Int))]).cell 0) hol1 (by rw [World.size_alloc]; exact Nat.le_succ_of_le hBw) ?_
 intro gg cap w5 hown hgrow hor
 have z0 := (hgrow.cell_far (⟨L.b, 36, none⟩) (lt_al hl1 _) hne1).trans (hHeld.2)
 have zf := (hgrow.frozen_far (⟨L.b, 36, none⟩) (lt_al hl1 _) hne1).trans ((zx (zo _ _ _ hl1)).trans xf)
 have HO := zh hown
 have HG := zh hgrow
 have HOR := zh hor
 clear hown hor
 refine hK.out _ _ ?_ (fun hHeld => ?_)
 ·(try dsimp only)
  exact fun _ => ⟨(hgrow.cell_far (⟨w.heap.size, 1, none⟩) (lt_al hl0 _) hne0).trans (hHeld.1), (hgrow.cell_far (⟨L.b, 36, none⟩) (lt_al hl1 _) hne1).trans (hHeld.2)⟩
 clear hK K
 replace hHeld := hHeld rfl
 try simp only [Act.put, p1, p2, p3, p4, p5, p6]
 refine tk 10 (bs 13 2047) (v := ?_) ?_ ?_; rotate_left 2
 refine tk 11 (bs 13 4095) (v := ?_) ?_ ?_; rotate_left 2
 rotate_left
 iterate 2 (rotate_left; focus (intro w hSw; (try dsimp only at hSw); obtain ⟨hS0', hS1'⟩ := hSw; go_simp; with_reducible rfl))
 try simp only [Act.put, p1, p2, p3, p4, p5, p6]
 refine wpAnyN_step (i := 12) (listed' := (bs 13 8191)) (by kernel_rfl) rfl (by kernel_rfl) (fun K hK => ?_)
 refine step_storeB rfl _ _ (by rfl) (by rfl) (by rfl) z0 zf ?_
 refine hK.out _ _ ?_ (fun hHeld => ?_)
 ·exact fun h => absurd h (by decide)
 clear hK K
 try simp only [Act.put, p1, p2, p3]
 refine wpAnyN_done (by kernel_rfl) ?_ _
 obtain ⟨a1, a2⟩ := K2.out.outPush (b := bb) (gg := gg) (cap := cap) (w5 := w5) HO.out (by rw [EV.out]; exact grown_drew HG.out) (by rw [EV.out]; exact HOR.out)
 have A1 := zh a1
 have A2 := zh (P2.out.trans a2)
 clear a1 a2 hgrow
 go_wp2_with fail
 go_end0
 rw [EO.out, EA.out]
 exact ⟨rfl, _, A1.out, A2.out⟩
set_option maxRecDepth 100000 in
set_option maxHeartbeats 16000000 in
theorem do_9 {w : World} {B M : Nat} {r : K} {L : Ly} {m : Nat} {oa ob : Int} (h : DO w B M r L m ⟨9, oa, ob⟩) (hol1 : r.out.length ≤ 1000000) :
 Calls Try.prog 50 #[.pointer (some ⟨L.b, 0, none⟩), .int .i64 m] w (DoPost w B (r.do_ m) L) := by
 refine (doHead h).2 ?_
 intro hM hm hpl hol hct gt ct im im0 cO ad hwr HK HF HTA hpl3 hgo hog KK hKK W2 F2 P2 W2F r1 EO hT1 hm1 HF1 hti hown hsem hsiz hcnt htic hou K2 HTA1 c0 x0 x1 x2
 clear h
 have xo := K2.out.cOut
 have xf := K2.out.free 36
 obtain ⟨AV, cV, eV, -, -⟩ := K2.out.slice .out
 replace eV : L.V .out = .slice AV r1.out.length cV := eV
 have EV := zh eV
 have HR : Hid (W2.ownsRow B 5 1 (.slice AV r1.out.length cV) r1.out.length (byteV r1.out)) := by
  show W2.ownsRow B 5 1 _ _ _
  rw [← eV]
  exact K2.out.row .out
 rw [eV] at xo
 have hLbl := K2.out.lt
 have hgol := F2.out.lt
 have hgtl : gt < W2.heap.size := (K2.out.rowLt (p := .ta) (g := gt) (by rw [HTA.out]; rfl)).2
 have hBw : B ≤ W2.heap.size := zt K2.out.low (Nat.le_of_lt hLbl)
 have hneL : some L.b ≠ (Value.slice AV r1.out.length cV).ownBlock := fun e => K2.out.ne .out (by rw [eV]; exact e.symm)
 have hneO : some w.heap.size ≠ (Value.slice AV r1.out.length cV).ownBlock := fun e => F2.out.V .out (by rw [eV]; exact e.symm)
 have hneT : some gt ≠ (Value.slice AV r1.out.length cV).ownBlock := fun e => K2.out.apart .ta .out gt (by decide) (by rw [HTA.out]; rfl) (by rw [eV]; exact e.symm)
 clear eV
 have t4 : W2.cell? ⟨gt, m * 13 + 4, none⟩ = some (.int .i64 (r1.ti m).last) := K2.out.cTask HTA1.out hm1 (j := 4) (by decide)
 have f4 := K2.out.rowFree HTA1.out (m * 13 + 4)
 replace hol1 : r1.out.length ≤ 1000000 := by rw [hou.out]; exact hol1
 obtain ⟨bb, hb⟩ : ∃ b, b = UInt8.ofNat (97 + (r1.ti m).last.tmod 26).toNat := ⟨_, rfl⟩
 have EA : Hid (r1.act m ⟨9, oa, ob⟩ = { r1 with out := r1.out ++ [bb] }) := by
  show { r1 with out := r1.out ++ [UInt8.ofNat (97 + (r1.ti m).last.tmod 26).toNat] } = _
  rw [hb]
 generalize (r1.ti m).last = an at *
 have htm : -26 < an.tmod 26 ∧ an.tmod 26 < 26 := ⟨Int.lt_tmod_of_pos an (by decide), Int.tmod_lt_of_pos an (by decide)⟩
 have hw26 : IntKind.i64.wrap (an.tmod 26) = an.tmod 26 := by rw [IntKind.wrap_i64]; omega
 have hw64 : IntKind.i64.wrap (97 + an.tmod 26) = 97 + an.tmod 26 := by rw [IntKind.wrap_i64]; omega
 have hw8 : IntKind.u8.wrap (97 + an.tmod 26) = (bb.toNat : Int) := by rw [hb, UInt8.toNat_ofNat', IntKind.wrap_u8]; omega
 clear hb
 go_upto_region 79 with fail
 have hl0 : Addr.block (⟨gt, m * 13 + 4, none⟩) < W2.heap.size := hgtl
 have hne0 := hneT
 have hl1 : Addr.block (⟨L.b, 36, none⟩) < W2.heap.size := hLbl
 have hne1 := hneL
 refine wp_region_need (S := fun w' => w'.cell? (⟨gt, m * 13 + 4, none⟩) = some (.int .i64 an) ∧ w'.cell? (⟨L.b, 36, none⟩) = some (.slice AV r1.out.length cV)) (need := fun i => i != 16) 17 (bs 17 0) (by kernel_rfl) (by kernel_rfl) (by kernel_rfl) ?_ (fun hHeld => ?_)
 ·(try dsimp only)
  exact ⟨t4, xo⟩
 refine tk 0 (bs 17 1) (v := ?_) ?_ ?_; rotate_left 2
 refine tk 1 (bs 17 3) (v := ?_) ?_ ?_; rotate_left 2
 refine tk 2 (bs 17 7) (v := ?_) ?_ ?_; rotate_left 2
 refine tk 3 (bs 17 15) (v := ?_) ?_ ?_; rotate_left 2
 refine tk 4 (bs 17 31) (v := ?_) ?_ ?_; rotate_left 2
 refine tk 5 (bs 17 63) (v := ?_) ?_ ?_; rotate_left 2
 refine tk 6 (bs 17 127) (v := ?_) ?_ ?_; rotate_left 2
 refine tk 7 (bs 17 255) (v := ?_) ?_ ?_; rotate_left 2
 refine tk 8 (bs 17 511) (v := ?_) ?_ ?_; rotate_left 2
 refine tk 9 (bs 17 1023) (v := ?_) ?_ ?_; rotate_left 2
 refine tk 10 (bs 17 2047) (v := ?_) ?_ ?_; rotate_left 2
 refine tk 11 (bs 17 4095) (v := ?_) ?_ ?_; rotate_left 2
 rotate_left
 iterate 12 (rotate_left; focus (intro w hSw; (try dsimp only at hSw); obtain ⟨hS0', hS1'⟩ := hSw; go_simp; with_reducible rfl))
 try simp only [Act.put, p1, p2, p3, p4, p5, p6]
 refine wpAnyN_step (i := 12) (listed' := (bs 17 8191)) (by kernel_rfl) rfl (by kernel_rfl) (fun K hK => ?_)
 refine step_bsB rfl _ (by rfl) ((bb.toNat : Int)) (by rfl) ?_
 refine hK.out _ _ ?_ (fun hHeld => ?_)
 ·(try dsimp only)
  exact fun _ => ⟨(zw _ _ _ hl0).trans (hHeld.1), (zw _ _ _ hl1).trans (hHeld.2)⟩
 clear hK K
 replace hHeld := hHeld rfl
 try simp only [Act.put, p1, p2, p3, p4, p5, p6]
 refine wpAnyN_step (i := 13) (listed' := (bs 17 16383)) (by kernel_rfl) rfl (by kernel_rfl) (fun K hK => ?_)
 refine step_appB rfl _ _ (by rfl) B (.slice AV r1.out.length cV) r1.out (by rfl) (HR.out.alloc _) bb ⟨W2.heap.size, 0, none⟩ 1 (by rfl) (by exact (zm W2 5 #[.int .u8 ((bb.toNat : Int))]).cell 0) hol1 (by rw [World.size_alloc]; exact Nat.le_succ_of_le hBw) ?_
 intro gg cap w5 hown hgrow hor
 have z0 := (hgrow.cell_far (⟨L.b, 36, none⟩) (lt_al hl1 _) hne1).trans (hHeld.2)
 have zf := (hgrow.frozen_far (⟨L.b, 36, none⟩) (lt_al hl1 _) hne1).trans ((zx (zo _ _ _ hl1)).trans xf)
 have HO := zh hown
 have HG := zh hgrow
 have HOR := zh hor
 clear hown hor
 refine hK.out _ _ ?_ (fun hHeld => ?_)
 ·(try dsimp only)
  exact fun _ => ⟨(hgrow.cell_far (⟨gt, m * 13 + 4, none⟩) (lt_al hl0 _) hne0).trans (hHeld.1), (hgrow.cell_far (⟨L.b, 36, none⟩) (lt_al hl1 _) hne1).trans (hHeld.2)⟩
 clear hK K
 replace hHeld := hHeld rfl
 try simp only [Act.put, p1, p2, p3, p4, p5, p6]
 refine tk 14 (bs 17 32767) (v := ?_) ?_ ?_; rotate_left 2
 refine tk 15 (bs 17 65535) (v := ?_) ?_ ?_; rotate_left 2
 rotate_left
 iterate 2 (rotate_left; focus (intro w hSw; (try dsimp only at hSw); obtain ⟨hS0', hS1'⟩ := hSw; go_simp; with_reducible rfl))
 try simp only [Act.put, p1, p2, p3, p4, p5, p6]
 refine wpAnyN_step (i := 16) (listed' := (bs 17 131071)) (by kernel_rfl) rfl (by kernel_rfl) (fun K hK => ?_)
 refine step_storeB rfl _ _ (by rfl) (by rfl) (by rfl) z0 zf ?_
 refine hK.out _ _ ?_ (fun hHeld => ?_)
 ·exact fun h => absurd h (by decide)
 clear hK K
 try simp only [Act.put, p1, p2, p3]
 refine wpAnyN_done (by kernel_rfl) ?_ _
 obtain ⟨a1, a2⟩ := K2.out.outPush (b := bb) (gg := gg) (cap := cap) (w5 := w5) HO.out (by rw [EV.out]; exact grown_drew HG.out) (by rw [EV.out]; exact HOR.out)
 have A1 := zh a1
 have A2 := zh (P2.out.trans a2)
 clear a1 a2 hgrow
 go_wp2_with fail
 go_end0
 rw [EO.out, EA.out]
 exact ⟨rfl, _, A1.out, A2.out⟩
set_option maxRecDepth 100000 in
set_option maxHeartbeats 16000000 in
theorem do_12 {w : World} {B M : Nat} {r : K} {L : Ly} {m : Nat} {oa ob : Int} (h : DO w B M r L m ⟨12, oa, ob⟩) (hol1 : r.out.length ≤ 1000000) :
 Calls Try.prog 50 #[.pointer (some ⟨L.b, 0, none⟩), .int .i64 m] w (DoPost w B (r.do_ m) L) := by
 refine (doHead h).2 ?_
 intro hM hm hpl hol hct gt ct im im0 cO ad hwr HK HF HTA hpl3 hgo hog KK hKK W2 F2 P2 W2F r1 EO hT1 hm1 HF1 hti hown hsem hsiz hcnt htic hou K2 HTA1 c0 x0 x1 x2
 clear h
 have xo := K2.out.cOut
 have xf := K2.out.free 36
 obtain ⟨AV, cV, eV, -, -⟩ := K2.out.slice .out
 replace eV : L.V .out = .slice AV r1.out.length cV := eV
 have EV := zh eV
 have HR : Hid (W2.ownsRow B 5 1 (.slice AV r1.out.length cV) r1.out.length (byteV r1.out)) := by
  show W2.ownsRow B 5 1 _ _ _
  rw [← eV]
  exact K2.out.row .out
 rw [eV] at xo
 have hLbl := K2.out.lt
 have hgol := F2.out.lt
 have hgtl : gt < W2.heap.size := (K2.out.rowLt (p := .ta) (g := gt) (by rw [HTA.out]; rfl)).2
 have hBw : B ≤ W2.heap.size := zt K2.out.low (Nat.le_of_lt hLbl)
 have hneL : some L.b ≠ (Value.slice AV r1.out.length cV).ownBlock := fun e => K2.out.ne .out (by rw [eV]; exact e.symm)
 have hneO : some w.heap.size ≠ (Value.slice AV r1.out.length cV).ownBlock := fun e => F2.out.V .out (by rw [eV]; exact e.symm)
 have hneT : some gt ≠ (Value.slice AV r1.out.length cV).ownBlock := fun e => K2.out.apart .ta .out gt (by decide) (by rw [HTA.out]; rfl) (by rw [eV]; exact e.symm)
 clear eV
 replace hol1 : r1.out.length ≤ 1000000 := by rw [hou.out]; exact hol1
 have hn0 : (W2.alloc (.cells #[.int .u8 33] 5)).cell? ⟨W2.heap.size, 0, none⟩ = some (.int .u8 33) := (zm W2 5 #[.int .u8 33]).cell 0
 go_wp2_with (at_builtin; refine wpList_appB rfl _ _ rfl B (.slice AV r1.out.length cV) r1.out rfl (HR.out.alloc _) (33 : UInt8) ⟨W2.heap.size, 0, none⟩ 1 rfl hn0 hol1 (by rw [World.size_alloc]; exact Nat.le_succ_of_le hBw) ?_)
 intro gg cap w5 hown hgrow hor
 have z0 := (hgrow.cell_far (⟨L.b, 36, none⟩) (lt_al hLbl _) hneL).trans ((zw _ _ _ hLbl).trans xo)
 have zf := (hgrow.frozen_far (⟨L.b, 36, none⟩) (lt_al hLbl _) hneL).trans ((zx (zo _ _ _ hLbl)).trans xf)
 obtain ⟨a1, a2⟩ := K2.out.outPush (b := 33) (gg := gg) (cap := cap) (w5 := w5) (by rw [List.length_append]; exact hown) (by rw [EV.out]; exact hgrow) (by rw [EV.out, World.size_alloc]; exact hor)
 have EA : Hid (r1.act m ⟨12, oa, ob⟩ = K.fin { r1 with out := r1.out ++ [33] } m) := rfl
 have HE := zh (end_any (M := M) (m := m) a1 ⟨HF1.out.pos, HF1.out.tasks, HF1.out.prio, HF1.out.len, HF1.out.owner⟩ (by omega) hm1)
 have A2 := zh (P2.out.trans a2)
 clear a1 a2 hgrow hown hor c0 x0 x1 x2 xo hn0
 go_wp2_with fail
 refine HE.out.mono ?_
 rintro e w6 ⟨rfl, L6, k6, p6⟩
 have K6 := zh k6
 have P6 := zh (A2.out.trans p6)
 clear k6 p6
 go_wp2_with fail
 go_end0
 rw [EO.out, EA.out]
 exact ⟨rfl, L6, K6.out, P6.out⟩
end Rk
end Go.Proofs.Ytncbgnpoffolcaa
