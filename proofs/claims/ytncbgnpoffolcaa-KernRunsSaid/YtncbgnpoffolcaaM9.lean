/-
  The calls: the walk of send.
-/
import Derived.Test.YtncbgnpoffolcaaNt
import Derived.Test.YtncbgnpoffolcaaM8
/-! The calls: the walk of send. -/
namespace Go.Proofs.Ytncbgnpoffolcaa
open Go.RowKit
theorem holder_que {i : Nat} (h : i < 8) : holder (48 + i) = .q i ∧ holdAt (48 + i) = 1 := ⟨by unfold holder; rw [if_neg (by omega), if_neg (by omega), if_neg (by omega), if_pos (by omega)]; congr 1; omega, by unfold holdAt; rw [if_neg (by omega), if_pos (by omega)]⟩
theorem taskCells_value {k : Kn.K} {L : Lay} {i : Nat} {p : Int} (hi : i < k.tasks.length) : taskCells (k.setT i fun t => { t with value := p }) L i = (taskCells k L i).setIfInBounds 9 (.int .i64 p) := by
 unfold taskCells
 rw [kT_set hi]
 rfl
theorem KM.que {w : World} {B : Nat} {k : Kn.K} {L : Lay} {a : Nat} (h : KM w B k L) (ha : a < k.size.length) : Whole w (L.b (.q a)) 91 #[.int .i64 (k.size.getD a 0), L.hd (.l (48 + a)) (k.l (48 + a)).length, L.hd (.l (56 + a)) (k.l (56 + a)).length, L.hd (.l (64 + a)) (k.l (64 + a)).length] := h.cont (.q a) ha
set_option maxRecDepth 100000 in
set_option maxHeartbeats 16000000 in
theorem send_any {w : World} {B : Nat} {k : Kn.K} {L : Lay} {m a : Nat} {kd ob : Int} (h : KM w B k L) (hk : Kn.Ok k) (hm : m < k.tasks.length) (hB : B ≤ w.heap.size) (_hs : (kT k m).state = 0) (ha : a ≤ 15) :
 Calls Try.prog 66 #[callV L m ⟨kd, a, ob⟩] w (CallPost w B (k.send m ⟨kd, a, ob⟩) L) := by
 obtain ⟨W, hW⟩ : ∃ W, W = w.alloc (.cells #[.pointer (some ⟨L.b .ker, 0, none⟩), .int .i64 m, .pointer (some ⟨L.b (.t m), 0, none⟩), .int .i64 kd, .int .i64 (a : Int), .int .i64 ob] 112) := ⟨_, rfl⟩
 have hbb : Below w.heap.size w W := by rw [hW]; exact (zr _ _).alloc (zl _) _
 have hK := h.below hbb
 have wc : Whole W w.heap.size 112 #[.pointer (some ⟨L.b .ker, 0, none⟩), .int .i64 m, .pointer (some ⟨L.b (.t m), 0, none⟩), .int .i64 kd, .int .i64 (a : Int), .int .i64 ob] := by rw [hW]; exact zm w 112 _
 have hoW : Out W k L w.heap.size := ⟨wc.lt, fun c hc e => by have := h.lt hc; omega⟩
 have hBW : Below B w W := hbb.mono hB
 have hzW := hBW.size
 have c0 : W.cell? ⟨w.heap.size, 0, none⟩ = some (.pointer (some ⟨L.b .ker, 0, none⟩)) := wc.cell 0
 have c1 : W.cell? ⟨w.heap.size, 1, none⟩ = some (.int .i64 m) := wc.cell 1
 have c2 : W.cell? ⟨w.heap.size, 2, none⟩ = some (.pointer (some ⟨L.b (.t m), 0, none⟩)) := wc.cell 2
 have c3 : W.cell? ⟨w.heap.size, 3, none⟩ = some (.int .i64 kd) := wc.cell 3
 have c4 : W.cell? ⟨w.heap.size, 4, none⟩ = some (.int .i64 (a : Int)) := wc.cell 4
 have c5 : W.cell? ⟨w.heap.size, 5, none⟩ = some (.int .i64 ob) := wc.cell 5
 have s0 := hK.queHead
 obtain ⟨A, cp, hA⟩ := hd_slice L .qa k.size.length hK.nil.2.2.2.1
 rw [hA] at s0
 have hfew := hK.few
 have HA := zh hA
 have HW := zh hW
 have WC := zh wc
 have OW := zh hoW
 have BW := zh hBW
 have KW := zh hK
 have OK := zh hk
 clear h hW wc hoW hBW hbb hK hk
 clear hA
 by_cases hlt : a < k.size.length
 ·have ia : (a : Int) < k.size.length := by omega
  have ha8 : a < 8 := by omega
  have hd : decide (k.size.length ≤ a) = false := decide_eq_false (by omega)
  obtain ⟨e1, s1⟩ := KW.out.quePtr hlt
  rw [HA.out] at e1
  injection e1 with e1 _ e3
  subst e1
  subst e3
  have EK : Hid (k.send m ⟨kd, a, ob⟩ = k.send1 m ⟨kd, a, ob⟩ (k.best (k.l (64 + a)))) := by
   show _ = _
   unfold Kn.K.send
   rw [if_neg (by show ¬ k.size.length ≤ ((a : Int)).toNat; omega)]
   rfl
  have hq := KW.out.que hlt
  obtain ⟨A, c, hAc, hrd⟩ := KW.out.readList (x := 64 + a) (by omega)
  have v3 : W.cell? ⟨L.b (.q a), 3, none⟩ = some (L.hd (.l (64 + a)) (k.l (64 + a)).length) := hq.cell 3
  rw [hAc] at v3
  have hvl := OK.out.fine.val (64 + a) (by omega)
  have hlen5 : (k.l (64 + a)).length ≤ 1000000 := by have := OK.out.fine.len (64 + a); omega
  have htl : k.tasks.length ≤ 1000000 := by have := OK.out.fine.tasks; omega
  have HBE := zh (fun n => best_any (w := W.drewN n) (c := c) (KW.out.below ((zr _ _).drewN' n)) (xs := k.l (64 + a)) hvl hrd hlen5 htl)
  have hbv := OK.out.inv.best (x := 64 + a) (by unfold Kn.TL; omega) (by omega)
  obtain ⟨b, hb⟩ : ∃ b, k.best (k.l (64 + a)) = b := ⟨_, rfl⟩
  rw [hb] at HBE hbv EK
  unfold Lay.ptr at HBE
  clear hb hAc hq hrd hvl
  unfold callV
  go_enter Try.func66, Try.ntmps66
  go_upto_region 1 with fail
  rw [← HW.out]
  refine zy ?_
  repeat go_big_quiet_step (fail)
  refine wpQuiet_nil ?_
  intro _ hw'
  obtain ⟨n1, hw''⟩ := hw'
  subst hw''
  go_upto_region 3 with fail
  refine zy ?_
  repeat go_big_quiet_step (fail)
  refine wpQuiet_nil ?_
  intro _ hw'
  obtain ⟨n2, hw''⟩ := hw'
  subst hw''
  go_upto_region 4 with fail
  go_region_with (go_at_call 81; refine (HBE.out _).mono ?_; rintro e w2 ⟨rfl, b2⟩)
  all_goals
   have k2 := (KW.out.below ((zr _ _).drewN' _)).below b2
   have wc2 : Whole w2 w.heap.size 112 #[.pointer (some ⟨L.b .ker, 0, none⟩), .int .i64 m, .pointer (some ⟨L.b (.t m), 0, none⟩), .int .i64 kd, .int .i64 (a : Int), .int .i64 ob] := WC.out.same (b2.block _ WC.out.lt)
   have hz2 := b2.size
   have hz2' : W.heap.size ≤ w2.heap.size := hz2
   have hB2 : B ≤ w2.heap.size := by omega
   have BB2 : Hid (Below B w w2) := (BW.out.drewN' _).trans (b2.mono (by show B ≤ W.heap.size; omega))
   have OW2 : Hid (Out w2 k L w.heap.size) := ⟨wc2.lt, OW.out.2⟩
   have wq := k2.que hlt
   have hlen8 := OK.out.good.que (48 + a) (by omega) (by omega)
   obtain ⟨A8, c8, hAc8⟩ := hd_slice L (.l (48 + a)) (k.l (48 + a)).length (fun q => by rw [k2.nil.2.2.2.2.2 _ q]; rfl)
   have u0 : w2.cell? ⟨L.b (.q a), 0, none⟩ = some (.int .i64 (k.size.getD a 0)) := wq.cell 0
   have u1 : w2.cell? ⟨L.b (.q a), 1, none⟩ = some (L.hd (.l (48 + a)) (k.l (48 + a)).length) := wq.cell 1
   have uf1 := wq.frozen 1
   clear c0 c1 c2 c3 c4 c5 v3 s0 s1
   have d0 : w2.cell? ⟨w.heap.size, 0, none⟩ = some (.pointer (some ⟨L.b .ker, 0, none⟩)) := wc2.cell 0
   have d1 : w2.cell? ⟨w.heap.size, 1, none⟩ = some (.int .i64 m) := wc2.cell 1
   have d2 : w2.cell? ⟨w.heap.size, 2, none⟩ = some (.pointer (some ⟨L.b (.t m), 0, none⟩)) := wc2.cell 2
   have d3 : w2.cell? ⟨w.heap.size, 3, none⟩ = some (.int .i64 kd) := wc2.cell 3
   have d4 : w2.cell? ⟨w.heap.size, 4, none⟩ = some (.int .i64 (a : Int)) := wc2.cell 4
   have d5 : w2.cell? ⟨w.heap.size, 5, none⟩ = some (.int .i64 ob) := wc2.cell 5
   have K2 := zh k2
   have WC2 := zh wc2
   have WQ := zh wq
   clear k2 b2 wc2 wq
   rcases hbv with rfl | ⟨j, rfl, hj, hsj, _⟩
   ·by_cases hroom : ((k.l (48 + a)).length : Int) < k.size.getD a 0
    ·have ED : Hid (k.send m ⟨kd, a, ob⟩ = (k.setL (48 + a) (· ++ [ob])).say m 0) := by show _ = _; rw [EK.out]; unfold Kn.K.send1; rw [if_neg (by omega), if_pos (show ((k.l (48 + ((a : Int)).toNat)).length : Int) < k.size.getD ((a : Int)).toNat 0 from hroom)]; rfl
     have hd3 : decide (((k.l (48 + a)).length : Int) < k.size.getD a 0) = true := zu hroom
     rw [hAc8] at u1
     have Q9 := zh hAc8
     have SZ8 : (k.l (48 + a)).length ≤ 1000000 := by omega
     clear hAc8
     obtain ⟨ln, hln⟩ : ∃ ln, ln = (k.l (48 + a)).length := ⟨_, rfl⟩
     rw [← hln] at u1 hd3 SZ8
     generalize k.size.getD a 0 = S at *
     go_upto_region 9 with fail
     refine zy ?_
     repeat go_big_quiet_step (fail)
     refine wpQuiet_nil ?_
     intro _ hw'
     obtain ⟨n3, hw''⟩ := hw'
     subst hw''
     obtain ⟨W0, hW0⟩ : ∃ W0, W0 = w2.drewN n3 := ⟨_, rfl⟩
     rw [← hW0]
     have K0 : Hid (KM W0 B k L) := by show KM _ _ _ _; rw [hW0]; exact K2.out.below ((zr _ _).drewN' n3)
     have BB0 : Hid (Below B w W0) := by show Below _ _ _; rw [hW0]; exact BB2.out.drewN' n3
     have WC0 : Hid (Whole W0 w.heap.size 112 #[.pointer (some ⟨L.b .ker, 0, none⟩), .int .i64 m, .pointer (some ⟨L.b (.t m), 0, none⟩), .int .i64 kd, .int .i64 (a : Int), .int .i64 ob]) := by show Whole _ _ _ _; rw [hW0]; exact WC2.out
     have OW0 : Hid (Out W0 k L w.heap.size) := by show Out _ _ _ _; rw [hW0]; exact OW2.out
     have hz0 : W0.heap.size = w2.heap.size := by rw [hW0]; rfl
     have hB0 : B ≤ W0.heap.size := by omega
     have wq0 := K0.out.que hlt
     have p1 : W0.cell? ⟨L.b (.q a), 1, none⟩ = some (.slice A8 ln c8) := by have := wq0.cell 1; rw [this]; show some (L.hd (.l (48 + a)) (k.l (48 + a)).length) = _; rw [Q9.out, hln]
     have pf1 := wq0.frozen 1
     obtain ⟨q1, q2⟩ := holder_que ha8
     have hltQ := K0.out.lt (c := .q a) hlt
     have hlowQ := K0.out.low (.q a) hlt
     have hgQ := OW0.out.2 (.q a) hlt
     have hgQ2 : w.heap.size ≠ L.b (.q a) := fun e => hgQ e.symm
     have hbd : Below W0.heap.size W0 ((W0.alloc (.cells #[.int .i64 ob] 3)).drew) := ((zr W0.heap.size W0).alloc (zl _) _).drew
     obtain ⟨gl, hLH, hap⟩ := K0.out.push ob (show 48 + a < 72 by omega) (by rw [q1]; exact hlt) hbd hB0
     rw [Q9.out] at hLH
     have HAP := zh hap
     have HLA := zh hLH
     have hlen9 : (k.l (48 + a)).length ≤ 1000000 := by omega
     have hnew : ((W0.alloc (.cells #[.int .i64 ob] 3)).drew).cell? ⟨W0.heap.size, 0, none⟩ = some (.int .i64 ob) := (zm W0 3 #[.int .i64 ob]).cell 0
     have p1a : ((W0.alloc (.cells #[.int .i64 ob] 3)).drew).cell? ⟨L.b (.q a), 1, none⟩ = some (.slice A8 ln c8) := (zw W0 _ ⟨L.b (.q a), 1, none⟩ hltQ).trans p1
     have hlt0 : w.heap.size < W0.heap.size := OW0.out.1
     clear u0 u1 uf1 d0 d1 d2 d3 d4 d5 hW0 hap hLH wq0 hz0
     have d0 : W0.cell? ⟨w.heap.size, 0, none⟩ = some (.pointer (some ⟨L.b .ker, 0, none⟩)) := WC0.out.cell 0
     have d1 : W0.cell? ⟨w.heap.size, 1, none⟩ = some (.int .i64 m) := WC0.out.cell 1
     have d2 : W0.cell? ⟨w.heap.size, 2, none⟩ = some (.pointer (some ⟨L.b (.t m), 0, none⟩)) := WC0.out.cell 2
     have d3 : W0.cell? ⟨w.heap.size, 3, none⟩ = some (.int .i64 kd) := WC0.out.cell 3
     have d4 : W0.cell? ⟨w.heap.size, 4, none⟩ = some (.int .i64 (a : Int)) := WC0.out.cell 4
     have d5 : W0.cell? ⟨w.heap.size, 5, none⟩ = some (.int .i64 ob) := WC0.out.cell 5
     rw [hln] at p1 p1a
     clear SZ8
     subst hln
     go_upto_region 10 with fail
     refine wp_region_held_drew (S := fun w' => w'.cell? ⟨w.heap.size, 5, none⟩ = some (.int .i64 ob)) (by kernel_rfl) ?_ (fun hHeld => ?_)
     ·(try dsimp only)
      go_keep
     refine tkH 0 (v := ?_) ?_ ?_; rotate_left 2
     refine tkH 1 (v := ?_) ?_ ?_; rotate_left 2
     refine tkH 2 (v := ?_) ?_ ?_; rotate_left 2
     refine tkH 3 (v := ?_) ?_ ?_; rotate_left 2
     refine tkH 5 (v := ?_) ?_ ?_; rotate_left 2
     refine tkH 6 (v := ?_) ?_ ?_; rotate_left 2
     refine tkH 7 (v := ?_) ?_ ?_; rotate_left 2
     rotate_left
     iterate 7 (rotate_left; focus (intro w hSw; (try dsimp only at hSw); go_simp; with_reducible rfl))
     try simp only [Act.put, p4]
     refine wpAnyH_ready (rs := [4, 8]) (by kernel_rfl) (by simp) ?_
     refine AllReadyH.cons rfl (fun K hK => ?_) ?_
     ·go_simp
      refine hK.out _ _ ?_ (fun hHeld => ?_)
      ·(try dsimp only)
       go_keep
      clear hK K
      try simp only [Act.put, p4, p5, p6]
      refine wpAnyH_ready (rs := [8]) (by kernel_rfl) (by simp) ?_
      refine AllReadyH.cons rfl (fun K hK => ?_) ?_
      ·go_simp
       refine hK.out _ _ ?_ (fun hHeld => ?_)
       ·(try dsimp only)
        go_keep
       clear hK K
       try simp only [Act.put, p4, p5, p6]
       refine wpAnyH_ready (rs := [9]) (by kernel_rfl) (by simp) ?_
       refine AllReadyH.cons rfl (fun K hK => ?_) ?_
       ·(refine step_append_list rfl _ _ rfl (by rfl) HLA.out hlen9 ob ⟨W0.heap.size, 0, none⟩ 1 (by rfl) (by exact hnew) ?_; intro v' w5 hpost; obtain ⟨⟨A5, c5', e5⟩, hk5, hb5, hkm5, ho5⟩ := HAP.out v' w5 hpost; subst e5; have z2 : w5.cell? ⟨L.b (.q a), 1, none⟩ = some (.slice A8 (k.l (48 + a)).length c8) := (zq (a := ⟨L.b (.q a), 1, none⟩) (hk5 (.q a) (by simp) hlt)).trans p1; have z3 : w5.frozen? ⟨L.b (.q a), 1, none⟩ = false := (zx (a := ⟨L.b (.q a), 1, none⟩) (hk5 (.q a) (by simp) hlt)).trans pf1; have wc5 := WC0.out.same (ho5 _ OW0.out); have y5 : w5.cell? ⟨w.heap.size, 5, none⟩ = some (.int .i64 ob) := wc5.cell 5)
        refine hK.out _ _ ?_ (fun hHeld => ?_)
        ·(try dsimp only)
         go_keep
        clear hK K
        try simp only [Act.put, p4]
        refine tkH 10 (v := ?_) ?_ ?_; rotate_left 2
        refine tkH 11 (v := ?_) ?_ ?_; rotate_left 2
        rotate_left
        iterate 2 (rotate_left; focus (intro w hSw; (try dsimp only at hSw); go_simp; with_reducible rfl))
        try simp only [Act.put]
        refine wpAnyH_ready (rs := [12]) (by kernel_rfl) (by simp) ?_
        refine AllReadyH.cons rfl (fun K hK => ?_) ?_
        ·go_simp
         refine hK.out _ _ ?_ (fun hHeld => ?_)
         ·(try dsimp only)
          go_keep
         clear hK K
         try simp only [Act.put, p4, p5, p6]
         refine wpAnyH_done (by kernel_rfl) ?_ _
         obtain ⟨L', k6, s6, n6⟩ := hkm5
         rw [q1, q2] at k6
         have hz5 := hb5.size
         obtain ⟨W6, hW6⟩ : ∃ W6, W6 = w5.setCell ⟨L.b (.q a), 1, none⟩ (.slice A5 ((k.l (48 + a)).length + 1) c5') := ⟨_, rfl⟩
         have wc6 : Whole W6 w.heap.size 112 #[.pointer (some ⟨L.b .ker, 0, none⟩), .int .i64 m, .pointer (some ⟨L.b (.t m), 0, none⟩), .int .i64 kd, .int .i64 (a : Int), .int .i64 ob] := by rw [hW6]; exact wc5.far hgQ2 _
         rw [← hW6] at k6 ⊢
         have hz6 : W6.heap.size = w5.heap.size := by rw [hW6, World.size_setCell]
         have HS := zh (say_any (o := ⟨kd, a, ob⟩) (m := m) 0 k6 hm (by omega))
         have eK6 : L'.b .ker = L.b .ker := s6 .ker rfl
         have eT6 : L'.b (.t m) = L.b (.t m) := s6 (.t m) rfl
         unfold callV at HS
         rw [eK6, eT6] at HS
         clear y5 z2 z3 d0 d1 d2 d3 d4 d5
         have d0 : W6.cell? ⟨w.heap.size, 0, none⟩ = some (.pointer (some ⟨L.b .ker, 0, none⟩)) := wc6.cell 0
         have d1 : W6.cell? ⟨w.heap.size, 1, none⟩ = some (.int .i64 m) := wc6.cell 1
         have d2 : W6.cell? ⟨w.heap.size, 2, none⟩ = some (.pointer (some ⟨L.b (.t m), 0, none⟩)) := wc6.cell 2
         have d3 : W6.cell? ⟨w.heap.size, 3, none⟩ = some (.int .i64 kd) := wc6.cell 3
         have d4 : W6.cell? ⟨w.heap.size, 4, none⟩ = some (.int .i64 (a : Int)) := wc6.cell 4
         have d5 : W6.cell? ⟨w.heap.size, 5, none⟩ = some (.int .i64 ob) := wc6.cell 5
         have B6 : Hid (Below B W0 W6) := by show Below _ _ _; rw [hW6]; exact hb5.setCell (p := ⟨L.b (.q a), 1, none⟩) hlowQ _
         have S6 := zh s6
         clear k6 s6 n6 ho5 hb5 hk5 wc5 wc6 hW6
         go_wp2_with (go_at_call 83; refine HS.out.mono ?_; rintro e w7 ⟨rfl, k7, b7⟩)
         go_wp2_with fail
         go_end0
         rw [ED.out]
         exact ⟨rfl, L', k7, S6.out, (BB0.out.trans B6.out).trans b7⟩
        exact AllReadyH.nil
       exact AllReadyH.nil
      exact AllReadyH.nil
     refine AllReadyH.cons rfl (fun K hK => ?_) ?_
     ·go_simp
      refine hK.out _ _ ?_ (fun hHeld => ?_)
      ·(try dsimp only)
       go_keep
      clear hK K
      try simp only [Act.put, p4, p5, p6]
      refine wpAnyH_ready (rs := [4]) (by kernel_rfl) (by simp) ?_
      refine AllReadyH.cons rfl (fun K hK => ?_) ?_
      ·go_simp
       refine hK.out _ _ ?_ (fun hHeld => ?_)
       ·(try dsimp only)
        go_keep
       clear hK K
       try simp only [Act.put, p4, p5, p6]
       refine wpAnyH_ready (rs := [9]) (by kernel_rfl) (by simp) ?_
       refine AllReadyH.cons rfl (fun K hK => ?_) ?_
       ·(refine step_append_list rfl _ _ rfl (by rfl) HLA.out hlen9 ob ⟨W0.heap.size, 0, none⟩ 1 (by rfl) (by exact hnew) ?_; intro v' w5 hpost; obtain ⟨⟨A5, c5', e5⟩, hk5, hb5, hkm5, ho5⟩ := HAP.out v' w5 hpost; subst e5; have z2 : w5.cell? ⟨L.b (.q a), 1, none⟩ = some (.slice A8 (k.l (48 + a)).length c8) := (zq (a := ⟨L.b (.q a), 1, none⟩) (hk5 (.q a) (by simp) hlt)).trans p1; have z3 : w5.frozen? ⟨L.b (.q a), 1, none⟩ = false := (zx (a := ⟨L.b (.q a), 1, none⟩) (hk5 (.q a) (by simp) hlt)).trans pf1; have wc5 := WC0.out.same (ho5 _ OW0.out); have y5 : w5.cell? ⟨w.heap.size, 5, none⟩ = some (.int .i64 ob) := wc5.cell 5)
        refine hK.out _ _ ?_ (fun hHeld => ?_)
        ·(try dsimp only)
         go_keep
        clear hK K
        try simp only [Act.put, p4]
        refine tkH 10 (v := ?_) ?_ ?_; rotate_left 2
        refine tkH 11 (v := ?_) ?_ ?_; rotate_left 2
        rotate_left
        iterate 2 (rotate_left; focus (intro w hSw; (try dsimp only at hSw); go_simp; with_reducible rfl))
        try simp only [Act.put]
        refine wpAnyH_ready (rs := [12]) (by kernel_rfl) (by simp) ?_
        refine AllReadyH.cons rfl (fun K hK => ?_) ?_
        ·go_simp
         refine hK.out _ _ ?_ (fun hHeld => ?_)
         ·(try dsimp only)
          go_keep
         clear hK K
         try simp only [Act.put, p4, p5, p6]
         refine wpAnyH_done (by kernel_rfl) ?_ _
         obtain ⟨L', k6, s6, n6⟩ := hkm5
         rw [q1, q2] at k6
         have hz5 := hb5.size
         obtain ⟨W6, hW6⟩ : ∃ W6, W6 = w5.setCell ⟨L.b (.q a), 1, none⟩ (.slice A5 ((k.l (48 + a)).length + 1) c5') := ⟨_, rfl⟩
         have wc6 : Whole W6 w.heap.size 112 #[.pointer (some ⟨L.b .ker, 0, none⟩), .int .i64 m, .pointer (some ⟨L.b (.t m), 0, none⟩), .int .i64 kd, .int .i64 (a : Int), .int .i64 ob] := by rw [hW6]; exact wc5.far hgQ2 _
         rw [← hW6] at k6 ⊢
         have hz6 : W6.heap.size = w5.heap.size := by rw [hW6, World.size_setCell]
         have HS := zh (say_any (o := ⟨kd, a, ob⟩) (m := m) 0 k6 hm (by omega))
         have eK6 : L'.b .ker = L.b .ker := s6 .ker rfl
         have eT6 : L'.b (.t m) = L.b (.t m) := s6 (.t m) rfl
         unfold callV at HS
         rw [eK6, eT6] at HS
         clear y5 z2 z3 d0 d1 d2 d3 d4 d5
         have d0 : W6.cell? ⟨w.heap.size, 0, none⟩ = some (.pointer (some ⟨L.b .ker, 0, none⟩)) := wc6.cell 0
         have d1 : W6.cell? ⟨w.heap.size, 1, none⟩ = some (.int .i64 m) := wc6.cell 1
         have d2 : W6.cell? ⟨w.heap.size, 2, none⟩ = some (.pointer (some ⟨L.b (.t m), 0, none⟩)) := wc6.cell 2
         have d3 : W6.cell? ⟨w.heap.size, 3, none⟩ = some (.int .i64 kd) := wc6.cell 3
         have d4 : W6.cell? ⟨w.heap.size, 4, none⟩ = some (.int .i64 (a : Int)) := wc6.cell 4
         have d5 : W6.cell? ⟨w.heap.size, 5, none⟩ = some (.int .i64 ob) := wc6.cell 5
         have B6 : Hid (Below B W0 W6) := by show Below _ _ _; rw [hW6]; exact hb5.setCell (p := ⟨L.b (.q a), 1, none⟩) hlowQ _
         have S6 := zh s6
         clear k6 s6 n6 ho5 hb5 hk5 wc5 wc6 hW6
         go_wp2_with (go_at_call 83; refine HS.out.mono ?_; rintro e w7 ⟨rfl, k7, b7⟩)
         go_wp2_with fail
         go_end0
         rw [ED.out]
         exact ⟨rfl, L', k7, S6.out, (BB0.out.trans B6.out).trans b7⟩
        exact AllReadyH.nil
       exact AllReadyH.nil
      exact AllReadyH.nil
     exact AllReadyH.nil
    ·have ED : Hid (k.send m ⟨kd, a, ob⟩ = (k.setT m fun t => { t with value := ob }).wait m (some (56 + a)) 0) := by show _ = _; rw [EK.out]; unfold Kn.K.send1; rw [if_neg (by omega), if_neg (show ¬ ((k.l (48 + ((a : Int)).toNat)).length : Int) < k.size.getD ((a : Int)).toNat 0 from hroom)]; rfl
     have hd3 : decide (((k.l (48 + a)).length : Int) < k.size.getD a 0) = false := decide_eq_false hroom
     rw [hAc8] at u1
     clear hAc8
     obtain ⟨ln, hln⟩ : ∃ ln, ln = (k.l (48 + a)).length := ⟨_, rfl⟩
     rw [← hln] at u1 hd3
     have SZ8 : ln ≤ 1000000 := by omega
     clear hln
     generalize k.size.getD a 0 = S at *
     go_upto_region 9 with fail
     refine zy ?_
     repeat go_big_quiet_step (fail)
     refine wpQuiet_nil ?_
     intro _ hw'
     obtain ⟨n3, hw''⟩ := hw'
     subst hw''
     obtain ⟨W0, hW0⟩ : ∃ W0, W0 = (w2.drewN n3).setCell ⟨L.b (.t m), 9, none⟩ (.int .i64 ob) := ⟨_, rfl⟩
     have hoT := OW2.out.2 (.t m) hm
     have hoT2 : w.heap.size ≠ L.b (.t m) := fun e => hoT e.symm
     have hlowT := K2.out.low (.t m) hm
     have wt := K2.out.task hm
     have t9 : w2.cell? ⟨L.b (.t m), 9, none⟩ = some (.int .i64 (kT k m).value) := wt.cell 9
     have tf9 := wt.frozen 9
     have hK0 := (K2.out.below ((zr w2.heap.size w2).drewN' n3)).putTask (j := 9) (v := .int .i64 ob) (f := fun t => { t with value := ob }) hm rfl rfl (taskCells_value hm)
     rw [← hW0] at hK0
     have BB0 : Hid (Below B w W0) := by show Below _ _ _; rw [hW0]; exact (BB2.out.drewN' n3).setCell (p := ⟨L.b (.t m), 9, none⟩) hlowT _
     have wc0 : Whole W0 w.heap.size 112 #[.pointer (some ⟨L.b .ker, 0, none⟩), .int .i64 m, .pointer (some ⟨L.b (.t m), 0, none⟩), .int .i64 kd, .int .i64 (a : Int), .int .i64 ob] := by rw [hW0]; exact Whole.far (w := w2.drewN n3) WC2.out hoT2 _
     have hz0 : W0.heap.size = w2.heap.size := by rw [hW0, World.size_setCell]; rfl
     have HWF := zh (fun n => wait_full (w := W0.drewN n) (m := m) (i := a) 0 (hK0.below ((zr _ _).drewN' n)) (OK.out.value (v := ob) hm).1.fine (by decide) (by rw [setT_len]; exact hm) (by show B ≤ W0.heap.size; omega) hlt)
     unfold Lay.ptr at HWF
     clear wt hK0
     go_upto_region 6 with fail
     rw [← hW0]
     clear d0 d1 d2 d3 d4 d5 u0 u1 uf1 hW0 t9 tf9
     have d0 : W0.cell? ⟨w.heap.size, 0, none⟩ = some (.pointer (some ⟨L.b .ker, 0, none⟩)) := wc0.cell 0
     have d1 : W0.cell? ⟨w.heap.size, 1, none⟩ = some (.int .i64 m) := wc0.cell 1
     have d2 : W0.cell? ⟨w.heap.size, 2, none⟩ = some (.pointer (some ⟨L.b (.t m), 0, none⟩)) := wc0.cell 2
     have d3 : W0.cell? ⟨w.heap.size, 3, none⟩ = some (.int .i64 kd) := wc0.cell 3
     have d4 : W0.cell? ⟨w.heap.size, 4, none⟩ = some (.int .i64 (a : Int)) := wc0.cell 4
     have d5 : W0.cell? ⟨w.heap.size, 5, none⟩ = some (.int .i64 ob) := wc0.cell 5
     go_region_with (go_at_call 84; refine (HWF.out _).mono ?_; rintro e w4 ⟨rfl, L4, k4, s4, b4⟩)
     all_goals
      go_wp2_with fail
      go_end0
      rw [ED.out]
      exact ⟨rfl, L4, k4, s4, (BB0.out.drewN' _).trans b4⟩
   ·have ED : Hid (k.send m ⟨kd, a, ob⟩ = (k.wake j ob).say m 0) := by show _ = _; rw [EK.out]; unfold Kn.K.send1; rw [if_pos (by omega)]
    have HWK := zh (wake_near (m := j) ob K2.out OK.out.fine (by decide) hj hB2 (fun x hx => OK.out.fine.on j x hj hx))
    have hWT := (OK.out.wake (i := j) (a := ob) hj hsj).2.tasks
    have ij0 : (0 : Int) ≤ j := by omega
    unfold Lay.ptr at HWK
    go_upto_region 11 with (go_at_call 55; refine HWK.out.mono ?_; rintro e w3 ⟨rfl, L3, k3, s3, b3, _, f3⟩)
    have wc3 : Whole w3 w.heap.size 112 #[.pointer (some ⟨L.b .ker, 0, none⟩), .int .i64 m, .pointer (some ⟨L.b (.t m), 0, none⟩), .int .i64 kd, .int .i64 (a : Int), .int .i64 ob] := WC2.out.same (f3 _ OW2.out)
    have hz3 := b3.size
    have hB3 : B ≤ w3.heap.size := by omega
    have HS := zh (say_any (o := ⟨kd, a, ob⟩) (m := m) 0 k3 (by rw [hWT]; exact hm) hB3)
    have eK3 : L3.b .ker = L.b .ker := s3 .ker rfl
    have eT3 : L3.b (.t m) = L.b (.t m) := s3 (.t m) rfl
    unfold callV at HS
    rw [eK3, eT3] at HS
    clear d0 d1 d2 d3 d4 d5
    have d0 : w3.cell? ⟨w.heap.size, 0, none⟩ = some (.pointer (some ⟨L.b .ker, 0, none⟩)) := wc3.cell 0
    have d1 : w3.cell? ⟨w.heap.size, 1, none⟩ = some (.int .i64 m) := wc3.cell 1
    have d2 : w3.cell? ⟨w.heap.size, 2, none⟩ = some (.pointer (some ⟨L.b (.t m), 0, none⟩)) := wc3.cell 2
    have d3 : w3.cell? ⟨w.heap.size, 3, none⟩ = some (.int .i64 kd) := wc3.cell 3
    have d4 : w3.cell? ⟨w.heap.size, 4, none⟩ = some (.int .i64 (a : Int)) := wc3.cell 4
    have d5 : w3.cell? ⟨w.heap.size, 5, none⟩ = some (.int .i64 ob) := wc3.cell 5
    have S3 := zh s3
    have B3 := zh b3
    clear k3 s3 b3 f3 wc3
    go_wp2_with (go_at_call 83; refine HS.out.mono ?_; rintro e w4 ⟨rfl, k4, b4⟩)
    go_wp2_with fail
    go_end0
    rw [ED.out]
    exact ⟨rfl, L3, k4, S3.out, (BB2.out.trans B3.out).trans b4⟩
 ·have ED : Hid (k.send m ⟨kd, a, ob⟩ = k.say m 2) := by show _ = _; unfold Kn.K.send; rw [if_pos (by show k.size.length ≤ ((a : Int)).toNat; omega)]
  have ia : (k.size.length : Int) ≤ a := by omega
  clear hlt
  unfold callV
  go_enter Try.func66, Try.ntmps66
  go_upto_region 1 with fail
  rw [← HW.out]
  refine zy ?_
  repeat go_big_quiet_step (fail)
  refine wpQuiet_nil ?_
  intro _ hw'
  obtain ⟨n1, hw''⟩ := hw'
  subst hw''
  have HS := zh (CallPost.say (W := W.drewN n1) (w := w) (a := 2) (o := ⟨kd, a, ob⟩) (KW.out.below (Below.drewN' (zr _ _) _)) hm (by show B ≤ W.heap.size; omega) (BW.out.drewN' n1))
  unfold callV at HS
  go_wp2_with (go_at_call 83; refine HS.out.mono ?_; intro e w1 hp; obtain ⟨rfl, hp⟩ := hp)
  go_wp2_with fail
  go_end0
  rw [ED.out]
  exact ⟨rfl, hp⟩
end Go.Proofs.Ytncbgnpoffolcaa
