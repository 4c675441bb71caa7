/-
  The calls: the walks of lock and unlock. The calls: the walk of give.
-/
import Derived.Test.YtncbgnpoffolcaaM6
/-! The calls: the walks of lock and unlock. -/
namespace Go.Proofs.Ytncbgnpoffolcaa
open Go.RowKit
set_option maxRecDepth 100000 in
set_option maxHeartbeats 16000000 in
theorem lock_any {w : World} {B : Nat} {k : Kn.K} {L : Lay} {m a : Nat} {kd ob : Int} (h : KM w B k L) (hk : Kn.Ok k) (hm : m < k.tasks.length) (hB : B ≤ w.heap.size) (_hs : (kT k m).state = 0) (ha : a ≤ 15) :
 Calls Try.prog 64 #[callV L m ⟨kd, a, ob⟩] w (CallPost w B (k.lock m ⟨kd, a, ob⟩) L) := by
 obtain ⟨W, hW⟩ : ∃ W, W = w.alloc (.cells #[.pointer (some ⟨L.b .ker, 0, none⟩), .int .i64 m, .pointer (some ⟨L.b (.t m), 0, none⟩), .int .i64 kd, .int .i64 (a : Int), .int .i64 ob] 112) := ⟨_, rfl⟩
 have hbb : Below w.heap.size w W := by rw [hW]; exact (zr _ _).alloc (zl _) _
 have hK := h.below hbb
 have wc : Whole W w.heap.size 112 #[.pointer (some ⟨L.b .ker, 0, none⟩), .int .i64 m, .pointer (some ⟨L.b (.t m), 0, none⟩), .int .i64 kd, .int .i64 (a : Int), .int .i64 ob] := by rw [hW]; exact zm w 112 _
 have hoW : Out W k L w.heap.size := ⟨wc.lt, fun c hc e => by have := h.lt hc; omega⟩
 have hBW : Below B w W := hbb.mono hB
 have hzW := hBW.size
 have c0 : W.cell? ⟨w.heap.size, 0, none⟩ = some (.pointer (some ⟨L.b .ker, 0, none⟩)) := wc.cell 0
 have c1 : W.cell? ⟨w.heap.size, 1, none⟩ = some (.int .i64 m) := wc.cell 1
 have c2 : W.cell? ⟨w.heap.size, 2, none⟩ = some (.pointer (some ⟨L.b (.t m), 0, none⟩)) := wc.cell 2
 have c3 : W.cell? ⟨w.heap.size, 3, none⟩ = some (.int .i64 kd) := wc.cell 3
 have c4 : W.cell? ⟨w.heap.size, 4, none⟩ = some (.int .i64 (a : Int)) := wc.cell 4
 have c5 : W.cell? ⟨w.heap.size, 5, none⟩ = some (.int .i64 ob) := wc.cell 5
 have s0 := hK.mutexHead
 obtain ⟨A, cp, hA⟩ := hd_slice L .ma k.owner.length hK.nil.2.2.1
 rw [hA] at s0
 have hfew := hK.few
 have HA := zh hA
 have HW := zh hW
 have WC := zh wc
 have OW := zh hoW
 have BW := zh hBW
 have KW := zh hK
 have OK := zh hk
 clear h hW wc hoW hBW hbb hK hk
 clear hA
 by_cases hlt : a < k.owner.length
 ·have ia : (a : Int) < k.owner.length := by omega
  have hd : decide (k.owner.length ≤ a) = false := decide_eq_false (by omega)
  obtain ⟨e1, s1⟩ := KW.out.mutexPtr hlt
  rw [HA.out] at e1
  injection e1 with e1 _ e3
  subst e1
  subst e3
  have ws : Whole W (L.b (.m a)) 85 #[.int .i64 (k.owner.getD a 0), L.hd (.l (40 + a)) (k.l (40 + a)).length] := KW.out.cont (.m a) hlt
  have v0 : W.cell? ⟨L.b (.m a), 0, none⟩ = some (.int .i64 (k.owner.getD a 0)) := ws.cell 0
  have vf0 := ws.frozen 0
  have hlowS := KW.out.low (.m a) hlt
  have hoS := OW.out.2 (.m a) hlt
  have hoS2 : w.heap.size ≠ L.b (.m a) := fun e => hoS e.symm
  clear ws
  have EK : Hid (k.lock m ⟨kd, a, ob⟩ = if k.owner.getD a 0 = -1 then ({ k with owner := k.owner.set a m } : Kn.K).say m 0 else if k.owner.getD a 0 = m then k.say m 3 else k.wait m (some (40 + a)) 0) := by
   show _ = _
   unfold Kn.K.lock
   rw [if_neg (by show ¬ k.owner.length ≤ ((a : Int)).toNat; omega)]
   rfl
  by_cases h1 : k.owner.getD a 0 = -1
  ·have ED : Hid (k.lock m ⟨kd, a, ob⟩ = ({ k with owner := k.owner.set a m } : Kn.K).say m 0) := by show _ = _; rw [EK.out, if_pos h1]
   have hK2 := KW.out.setOwner (b := (m : Int)) hlt
   rw [h1] at v0
   obtain ⟨W3, hW3⟩ : ∃ W3, W3 = W.setCell ⟨L.b (.m a), 0, none⟩ (.int .i64 m) := ⟨_, rfl⟩
   have wc3 : Whole W3 w.heap.size 112 #[.pointer (some ⟨L.b .ker, 0, none⟩), .int .i64 m, .pointer (some ⟨L.b (.t m), 0, none⟩), .int .i64 kd, .int .i64 (a : Int), .int .i64 ob] := by rw [hW3]; exact WC.out.far hoS2 _
   have hB3 : Below B w W3 := by rw [hW3]; exact BW.out.setCell (p := ⟨L.b (.m a), 0, none⟩) hlowS _
   rw [← hW3] at hK2
   have K3 := zh hK2
   have B3 := zh hB3
   have hz3 : W3.heap.size = W.heap.size := by rw [hW3, World.size_setCell]
   have d0 : W3.cell? ⟨w.heap.size, 0, none⟩ = some (.pointer (some ⟨L.b .ker, 0, none⟩)) := wc3.cell 0
   have d1 : W3.cell? ⟨w.heap.size, 1, none⟩ = some (.int .i64 m) := wc3.cell 1
   have d2 : W3.cell? ⟨w.heap.size, 2, none⟩ = some (.pointer (some ⟨L.b (.t m), 0, none⟩)) := wc3.cell 2
   have d3 : W3.cell? ⟨w.heap.size, 3, none⟩ = some (.int .i64 kd) := wc3.cell 3
   have d4 : W3.cell? ⟨w.heap.size, 4, none⟩ = some (.int .i64 (a : Int)) := wc3.cell 4
   have d5 : W3.cell? ⟨w.heap.size, 5, none⟩ = some (.int .i64 ob) := wc3.cell 5
   clear hK2 hB3 wc3 h1 EK
   unfold callV
   go_enter Try.func64, Try.ntmps64
   go_upto_region 1 with fail
   rw [← HW.out]
   refine zy ?_
   repeat go_big_quiet_step (fail)
   refine wpQuiet_nil ?_
   intro _ hw'
   obtain ⟨n1, hw''⟩ := hw'
   subst hw''
   go_upto_region 3 with fail
   refine zy ?_
   repeat go_big_quiet_step (fail)
   refine wpQuiet_nil ?_
   intro _ hw'
   obtain ⟨n2, hw''⟩ := hw'
   subst hw''
   go_upto_region 8 with fail
   have hW3n : Hid ((W.drewN (n1 + n2)).setCell ⟨L.b (.m a), 0, none⟩ (.int .i64 m) = W3.drewN (n1 + n2)) := by show _ = _; rw [hW3]; rfl
   rw [hW3n.out]
   have HS := zh (CallPost.say (W := W3.drewN (n1 + n2)) (w := w) (k := { k with owner := k.owner.set a m }) (a := 0) (o := ⟨kd, a, ob⟩) (K3.out.below ((zr _ _).drewN' (n1 + n2))) hm (by show B ≤ W3.heap.size; omega) (B3.out.drewN' (n1 + n2)))
   unfold callV at HS
   clear v0 vf0 c0 c1 c2 c3 c4 c5 hW3 hW3n
   go_wp2_with (go_at_call 83; refine HS.out.mono ?_; intro e w1 hp; obtain ⟨rfl, hp⟩ := hp)
   go_wp2_with fail
   go_end0
   rw [ED.out]
   exact ⟨rfl, hp⟩
  ·by_cases h2 : k.owner.getD a 0 = m
   ·have ED : Hid (k.lock m ⟨kd, a, ob⟩ = k.say m 3) := by show _ = _; rw [EK.out, if_neg h1, if_pos h2]
    have hm1 : ((m : Int) == -1) = false := by simp
    have hm2 : ¬ (m : Int) = -1 := by omega
    rw [h2] at v0
    clear h1 h2 EK
    unfold callV
    go_enter Try.func64, Try.ntmps64
    go_upto_region 1 with fail
    rw [← HW.out]
    refine zy ?_
    repeat go_big_quiet_step (fail)
    refine wpQuiet_nil ?_
    intro _ hw'
    obtain ⟨n1, hw''⟩ := hw'
    subst hw''
    go_upto_region 3 with fail
    refine zy ?_
    repeat go_big_quiet_step (fail)
    refine wpQuiet_nil ?_
    intro _ hw'
    obtain ⟨n2, hw''⟩ := hw'
    subst hw''
    have KW2 : Hid (KM (W.drewN (n1 + n2)) B k L) := KW.out.below ((zr _ _).drewN' (n1 + n2))
    have BW2 : Hid (Below B w (W.drewN (n1 + n2))) := BW.out.drewN' (n1 + n2)
    have hBW2 : B ≤ (W.drewN (n1 + n2)).heap.size := by show B ≤ W.heap.size; omega
    have HS := zh (CallPost.say (W := W.drewN (n1 + n2)) (w := w) (a := 3) (o := ⟨kd, a, ob⟩) KW2.out hm hBW2 BW2.out)
    unfold callV at HS
    go_wp2_with (go_at_call 83; refine HS.out.mono ?_; intro e w1 hp; obtain ⟨rfl, hp⟩ := hp)
    go_wp2_with fail
    go_end0
    rw [ED.out]
    exact ⟨rfl, hp⟩
   ·have ED : Hid (k.lock m ⟨kd, a, ob⟩ = k.wait m (some (40 + a)) 0) := by show _ = _; rw [EK.out, if_neg h1, if_neg h2]
    have h1b : (k.owner.getD a 0 == -1) = false := by simpa using h1
    have h2b : (k.owner.getD a 0 == (m : Int)) = false := by simpa using h2
    generalize k.owner.getD a 0 = S at *
    unfold callV
    go_enter Try.func64, Try.ntmps64
    go_upto_region 1 with fail
    rw [← HW.out]
    refine zy ?_
    repeat go_big_quiet_step (fail)
    refine wpQuiet_nil ?_
    intro _ hw'
    obtain ⟨n1, hw''⟩ := hw'
    subst hw''
    go_upto_region 3 with fail
    refine zy ?_
    repeat go_big_quiet_step (fail)
    refine wpQuiet_nil ?_
    intro _ hw'
    obtain ⟨n2, hw''⟩ := hw'
    subst hw''
    have KW2 : Hid (KM (W.drewN (n1 + n2)) B k L) := KW.out.below ((zr _ _).drewN' (n1 + n2))
    have BW2 : Hid (Below B w (W.drewN (n1 + n2))) := BW.out.drewN' (n1 + n2)
    have hBW2 : B ≤ (W.drewN (n1 + n2)).heap.size := by show B ≤ W.heap.size; omega
    have HS := zh (wait_mutex (m := m) (i := a) 0 KW2.out OK.out.fine (by decide) hm hBW2 hlt)
    unfold Lay.ptr at HS
    go_wp2_with (go_at_call 84; refine HS.out.mono ?_; rintro e w1 ⟨rfl, L1, k1, s1, b1⟩)
    go_wp2_with fail
    go_end0
    rw [ED.out]
    exact ⟨rfl, L1, k1, s1, BW2.out.trans b1⟩
 ·have ED : Hid (k.lock m ⟨kd, a, ob⟩ = k.say m 2) := by show _ = _; unfold Kn.K.lock; rw [if_pos (by show k.owner.length ≤ ((a : Int)).toNat; omega)]
  have ia : (k.owner.length : Int) ≤ a := by omega
  clear hlt
  unfold callV
  go_enter Try.func64, Try.ntmps64
  go_upto_region 1 with fail
  rw [← HW.out]
  refine zy ?_
  repeat go_big_quiet_step (fail)
  refine wpQuiet_nil ?_
  intro _ hw'
  obtain ⟨n1, hw''⟩ := hw'
  subst hw''
  have HS := zh (CallPost.say (W := W.drewN n1) (w := w) (a := 2) (o := ⟨kd, a, ob⟩) (KW.out.below (Below.drewN' (zr _ _) _)) hm (by show B ≤ W.heap.size; omega) (BW.out.drewN' n1))
  unfold callV at HS
  go_wp2_with (go_at_call 83; refine HS.out.mono ?_; intro e w1 hp; obtain ⟨rfl, hp⟩ := hp)
  go_wp2_with fail
  go_end0
  rw [ED.out]
  exact ⟨rfl, hp⟩
set_option maxRecDepth 100000 in
set_option maxHeartbeats 16000000 in
theorem unlock_any {w : World} {B : Nat} {k : Kn.K} {L : Lay} {m a : Nat} {kd ob : Int} (h : KM w B k L) (hk : Kn.Ok k) (hm : m < k.tasks.length) (hB : B ≤ w.heap.size) (ha : a ≤ 15) :
 Calls Try.prog 65 #[callV L m ⟨kd, a, ob⟩] w (CallPost w B (k.unlock m ⟨kd, a, ob⟩) L) := by
 obtain ⟨W, hW⟩ : ∃ W, W = w.alloc (.cells #[.pointer (some ⟨L.b .ker, 0, none⟩), .int .i64 m, .pointer (some ⟨L.b (.t m), 0, none⟩), .int .i64 kd, .int .i64 (a : Int), .int .i64 ob] 112) := ⟨_, rfl⟩
 have hbb : Below w.heap.size w W := by rw [hW]; exact (zr _ _).alloc (zl _) _
 have hK := h.below hbb
 have wc : Whole W w.heap.size 112 #[.pointer (some ⟨L.b .ker, 0, none⟩), .int .i64 m, .pointer (some ⟨L.b (.t m), 0, none⟩), .int .i64 kd, .int .i64 (a : Int), .int .i64 ob] := by rw [hW]; exact zm w 112 _
 have hoW : Out W k L w.heap.size := ⟨wc.lt, fun c hc e => by have := h.lt hc; omega⟩
 have hBW : Below B w W := hbb.mono hB
 have hzW := hBW.size
 have c0 : W.cell? ⟨w.heap.size, 0, none⟩ = some (.pointer (some ⟨L.b .ker, 0, none⟩)) := wc.cell 0
 have c1 : W.cell? ⟨w.heap.size, 1, none⟩ = some (.int .i64 m) := wc.cell 1
 have c2 : W.cell? ⟨w.heap.size, 2, none⟩ = some (.pointer (some ⟨L.b (.t m), 0, none⟩)) := wc.cell 2
 have c3 : W.cell? ⟨w.heap.size, 3, none⟩ = some (.int .i64 kd) := wc.cell 3
 have c4 : W.cell? ⟨w.heap.size, 4, none⟩ = some (.int .i64 (a : Int)) := wc.cell 4
 have c5 : W.cell? ⟨w.heap.size, 5, none⟩ = some (.int .i64 ob) := wc.cell 5
 have s0 := hK.mutexHead
 obtain ⟨A, cp, hA⟩ := hd_slice L .ma k.owner.length hK.nil.2.2.1
 rw [hA] at s0
 have hfew := hK.few
 have HA := zh hA
 have HW := zh hW
 have WC := zh wc
 have OW := zh hoW
 have BW := zh hBW
 have KW := zh hK
 have OK := zh hk
 clear h hW wc hoW hBW hbb hK hk
 clear hA
 by_cases hlt : a < k.owner.length
 ·have ia : (a : Int) < k.owner.length := by omega
  have hd : decide (k.owner.length ≤ a) = false := decide_eq_false (by omega)
  obtain ⟨e1, s1⟩ := KW.out.mutexPtr hlt
  rw [HA.out] at e1
  injection e1 with e1 _ e3
  subst e1
  subst e3
  have ws : Whole W (L.b (.m a)) 85 #[.int .i64 (k.owner.getD a 0), L.hd (.l (40 + a)) (k.l (40 + a)).length] := KW.out.cont (.m a) hlt
  have v0 : W.cell? ⟨L.b (.m a), 0, none⟩ = some (.int .i64 (k.owner.getD a 0)) := ws.cell 0
  have vf0 := ws.frozen 0
  have hlowS := KW.out.low (.m a) hlt
  have hoS := OW.out.2 (.m a) hlt
  have hoS2 : w.heap.size ≠ L.b (.m a) := fun e => hoS e.symm
  clear ws
  have EK : Hid (k.unlock m ⟨kd, a, ob⟩ = if k.owner.getD a 0 ≠ m then k.say m 3 else (k.say m 0).release a) := by
   show _ = _
   unfold Kn.K.unlock
   rw [if_neg (by show ¬ k.owner.length ≤ ((a : Int)).toNat; omega)]
   rfl
  by_cases h2 : k.owner.getD a 0 = m
  ·have ED : Hid (k.unlock m ⟨kd, a, ob⟩ = (k.say m 0).release a) := by show _ = _; rw [EK.out, if_neg (fun q => q h2)]
   rw [h2] at v0
   have hFS := zh (OK.out.fine.say (m := m) (a := 0) hm)
   have hoT := OW.out.2 (.t m) hm
   have hoT2 : w.heap.size ≠ L.b (.t m) := fun e => hoT e.symm
   clear h2 EK
   unfold callV
   go_enter Try.func65, Try.ntmps65
   go_upto_region 3 with fail
   rw [← HW.out]
   refine zy ?_
   repeat go_big_quiet_step (fail)
   refine wpQuiet_nil ?_
   intro _ hw'
   obtain ⟨n1, hw''⟩ := hw'
   subst hw''
   go_upto_region 5 with fail
   refine zy ?_
   repeat go_big_quiet_step (fail)
   refine wpQuiet_nil ?_
   intro _ hw'
   obtain ⟨n2, hw''⟩ := hw'
   subst hw''
   have KW2 : Hid (KM (W.drewN (n1 + n2)) B k L) := KW.out.below ((zr _ _).drewN' (n1 + n2))
   have BW2 : Hid (Below B w (W.drewN (n1 + n2))) := BW.out.drewN' (n1 + n2)
   have hBW2 : B ≤ (W.drewN (n1 + n2)).heap.size := by show B ≤ W.heap.size; omega
   have HS := zh (say_near (o := ⟨kd, a, ob⟩) (m := m) 0 KW2.out hm hBW2)
   unfold callV at HS
   go_wp2_with (go_at_call 83; refine HS.out.mono ?_; rintro e w1 ⟨rfl, k1, b1, f1⟩)
   have wc1 : Whole w1 w.heap.size 112 #[.pointer (some ⟨L.b .ker, 0, none⟩), .int .i64 m, .pointer (some ⟨L.b (.t m), 0, none⟩), .int .i64 kd, .int .i64 (a : Int), .int .i64 ob] := WC.out.same (f1 _ OW.out.1 hoT2)
   have hz1 := b1.size
   have hz1' : W.heap.size ≤ w1.heap.size := hz1
   have hB1 : B ≤ w1.heap.size := by omega
   have s0' := k1.mutexHead
   obtain ⟨e1', s1'⟩ := k1.mutexPtr (i := a) hlt
   have e1'' : L.hd .ma (k.say m 0).owner.length = .slice (some ⟨L.b .ma, 0, none⟩) k.owner.length (L.cap .ma) := e1'
   rw [e1''] at s0'
   have HR := zh (fun n => release_any (w := w1.drewN n) (i := a) (k1.below ((zr _ _).drewN' n)) hFS.out (by decide) hlt hB1)
   unfold Lay.ptr at HR
   clear c0 c1 c2 c3 c4 c5 s0 s1 v0 vf0
   have d0 : w1.cell? ⟨w.heap.size, 0, none⟩ = some (.pointer (some ⟨L.b .ker, 0, none⟩)) := wc1.cell 0
   have d1 : w1.cell? ⟨w.heap.size, 1, none⟩ = some (.int .i64 m) := wc1.cell 1
   have d2 : w1.cell? ⟨w.heap.size, 2, none⟩ = some (.pointer (some ⟨L.b (.t m), 0, none⟩)) := wc1.cell 2
   have d3 : w1.cell? ⟨w.heap.size, 3, none⟩ = some (.int .i64 kd) := wc1.cell 3
   have d4 : w1.cell? ⟨w.heap.size, 4, none⟩ = some (.int .i64 (a : Int)) := wc1.cell 4
   have d5 : w1.cell? ⟨w.heap.size, 5, none⟩ = some (.int .i64 ob) := wc1.cell 5
   have B1 := zh b1
   clear k1 b1 f1 wc1 e1' e1''
   go_upto_region 2 with fail
   go_region_with (go_at_call 57; refine (HR.out _).mono ?_; rintro e w2 ⟨rfl, L2, k2, s2, b2⟩)
   all_goals
    go_wp2_with fail
    go_end0
    rw [ED.out]
    exact ⟨rfl, L2, k2, s2, (BW2.out.trans (B1.out.drewN' _)).trans b2⟩
  ·have ED : Hid (k.unlock m ⟨kd, a, ob⟩ = k.say m 3) := by show _ = _; rw [EK.out, if_pos h2]
   have h2b : (k.owner.getD a 0 == (m : Int)) = false := by simpa using h2
   generalize k.owner.getD a 0 = S at *
   unfold callV
   go_enter Try.func65, Try.ntmps65
   go_upto_region 3 with fail
   rw [← HW.out]
   refine zy ?_
   repeat go_big_quiet_step (fail)
   refine wpQuiet_nil ?_
   intro _ hw'
   obtain ⟨n1, hw''⟩ := hw'
   subst hw''
   go_upto_region 5 with fail
   refine zy ?_
   repeat go_big_quiet_step (fail)
   refine wpQuiet_nil ?_
   intro _ hw'
   obtain ⟨n2, hw''⟩ := hw'
   subst hw''
   have KW2 : Hid (KM (W.drewN (n1 + n2)) B k L) := KW.out.below ((zr _ _).drewN' (n1 + n2))
   have BW2 : Hid (Below B w (W.drewN (n1 + n2))) := BW.out.drewN' (n1 + n2)
   have hBW2 : B ≤ (W.drewN (n1 + n2)).heap.size := by show B ≤ W.heap.size; omega
   have HS := zh (CallPost.say (W := W.drewN (n1 + n2)) (w := w) (a := 3) (o := ⟨kd, a, ob⟩) KW2.out hm hBW2 BW2.out)
   unfold callV at HS
   go_wp2_with (go_at_call 83; refine HS.out.mono ?_; intro e w1 hp; obtain ⟨rfl, hp⟩ := hp)
   go_wp2_with fail
   go_end0
   rw [ED.out]
   exact ⟨rfl, hp⟩
 ·have ED : Hid (k.unlock m ⟨kd, a, ob⟩ = k.say m 2) := by show _ = _; unfold Kn.K.unlock; rw [if_pos (by show k.owner.length ≤ ((a : Int)).toNat; omega)]
  have ia : (k.owner.length : Int) ≤ a := by omega
  clear hlt
  unfold callV
  go_enter Try.func65, Try.ntmps65
  go_upto_region 3 with fail
  rw [← HW.out]
  refine zy ?_
  repeat go_big_quiet_step (fail)
  refine wpQuiet_nil ?_
  intro _ hw'
  obtain ⟨n1, hw''⟩ := hw'
  subst hw''
  have HS := zh (CallPost.say (W := W.drewN n1) (w := w) (a := 2) (o := ⟨kd, a, ob⟩) (KW.out.below (Below.drewN' (zr _ _) _)) hm (by show B ≤ W.heap.size; omega) (BW.out.drewN' n1))
  unfold callV at HS
  go_wp2_with (go_at_call 83; refine HS.out.mono ?_; intro e w1 hp; obtain ⟨rfl, hp⟩ := hp)
  go_wp2_with fail
  go_end0
  rw [ED.out]
  exact ⟨rfl, hp⟩
end Go.Proofs.Ytncbgnpoffolcaa
/-! The calls: the walk of give. -/
namespace Go.Proofs.Ytncbgnpoffolcaa
open Go.RowKit
/-- The list that waits, read. -/
theorem KM.readList {w : World} {B : Nat} {k : Kn.K} {L : Lay} {x : Nat} (h : KM w B k L) (hx : x < 72) : ∃ A c, L.hd (.l x) (k.l x).length = .slice A (k.l x).length c ∧ Reads w w.heap.size 1 A (k.l x).length (intV (k.l x)) := by
 rcases h.head hx with ⟨_, e1, e2⟩ | ⟨b, off, cap, _, e1, e2⟩
 ·rw [e1, e2]
  exact ⟨none, 0, rfl, Reads.none_⟩
 ·exact ⟨_, _, e1, e2.reads⟩
set_option maxRecDepth 100000 in
set_option maxHeartbeats 16000000 in
theorem give_any {w : World} {B : Nat} {k : Kn.K} {L : Lay} {m a : Nat} {kd ob : Int} (h : KM w B k L) (hk : Kn.Ok k) (hm : m < k.tasks.length) (hB : B ≤ w.heap.size) (ha : a ≤ 15) :
 Calls Try.prog 63 #[callV L m ⟨kd, a, ob⟩] w (CallPost w B (k.give m ⟨kd, a, ob⟩) L) := by
 obtain ⟨W, hW⟩ : ∃ W, W = w.alloc (.cells #[.pointer (some ⟨L.b .ker, 0, none⟩), .int .i64 m, .pointer (some ⟨L.b (.t m), 0, none⟩), .int .i64 kd, .int .i64 (a : Int), .int .i64 ob] 112) := ⟨_, rfl⟩
 have hbb : Below w.heap.size w W := by rw [hW]; exact (zr _ _).alloc (zl _) _
 have hK := h.below hbb
 have wc : Whole W w.heap.size 112 #[.pointer (some ⟨L.b .ker, 0, none⟩), .int .i64 m, .pointer (some ⟨L.b (.t m), 0, none⟩), .int .i64 kd, .int .i64 (a : Int), .int .i64 ob] := by rw [hW]; exact zm w 112 _
 have hoW : Out W k L w.heap.size := ⟨wc.lt, fun c hc e => by have := h.lt hc; omega⟩
 have hBW : Below B w W := hbb.mono hB
 have hzW := hBW.size
 have c0 : W.cell? ⟨w.heap.size, 0, none⟩ = some (.pointer (some ⟨L.b .ker, 0, none⟩)) := wc.cell 0
 have c1 : W.cell? ⟨w.heap.size, 1, none⟩ = some (.int .i64 m) := wc.cell 1
 have c2 : W.cell? ⟨w.heap.size, 2, none⟩ = some (.pointer (some ⟨L.b (.t m), 0, none⟩)) := wc.cell 2
 have c3 : W.cell? ⟨w.heap.size, 3, none⟩ = some (.int .i64 kd) := wc.cell 3
 have c4 : W.cell? ⟨w.heap.size, 4, none⟩ = some (.int .i64 (a : Int)) := wc.cell 4
 have c5 : W.cell? ⟨w.heap.size, 5, none⟩ = some (.int .i64 ob) := wc.cell 5
 have s0 := hK.semHead
 obtain ⟨A, cp, hA⟩ := hd_slice L .sa k.sems.length hK.nil.2.1
 rw [hA] at s0
 have hfew := hK.few
 have HA := zh hA
 have HW := zh hW
 have WC := zh wc
 have OW := zh hoW
 have BW := zh hBW
 have KW := zh hK
 have OK := zh hk
 clear h hW wc hoW hBW hbb hK hk
 clear hA
 by_cases hlt : a < k.sems.length
 ·have ia : (a : Int) < k.sems.length := by omega
  have ha8 : a < 8 := by omega
  have hd : decide (k.sems.length ≤ a) = false := decide_eq_false (by omega)
  obtain ⟨e1, s1⟩ := KW.out.semPtr hlt
  rw [HA.out] at e1
  injection e1 with e1 _ e3
  subst e1
  subst e3
  have hFS := zh (OK.out.fine.say (m := m) (a := 0) hm)
  have hmS : m < (k.say m 0).tasks.length := by show m < (k.setT m _).tasks.length; rw [setT_len]; exact hm
  have hoT := OW.out.2 (.t m) hm
  have hoT2 : w.heap.size ≠ L.b (.t m) := fun e => hoT e.symm
  have hsv := OK.out.good.sems _ (List.getElem_mem hlt)
  have hsv2 : k.sems.getD a 0 = k.sems[a] := Kn.getD_at hlt 0
  rw [← hsv2] at hsv
  have EK : Hid (k.give m ⟨kd, a, ob⟩ = (k.say m 0).give1 m a ((k.say m 0).best (k.l (32 + a)))) := by
   show _ = _
   unfold Kn.K.give
   rw [if_neg (by show ¬ k.sems.length ≤ ((a : Int)).toNat; omega)]
   rfl
  clear hsv2
  unfold callV
  go_enter Try.func63, Try.ntmps63
  go_upto_region 1 with fail
  rw [← HW.out]
  refine zy ?_
  repeat go_big_quiet_step (fail)
  refine wpQuiet_nil ?_
  intro _ hw'
  obtain ⟨n1, hw''⟩ := hw'
  subst hw''
  go_upto_region 3 with fail
  refine zy ?_
  repeat go_big_quiet_step (fail)
  refine wpQuiet_nil ?_
  intro _ hw'
  obtain ⟨n2, hw''⟩ := hw'
  subst hw''
  have KW2 : Hid (KM (W.drewN (n1 + n2)) B k L) := KW.out.below ((zr _ _).drewN' (n1 + n2))
  have BW2 : Hid (Below B w (W.drewN (n1 + n2))) := BW.out.drewN' (n1 + n2)
  have hBW2 : B ≤ (W.drewN (n1 + n2)).heap.size := by show B ≤ W.heap.size; omega
  have HS := zh (say_near (o := ⟨kd, a, ob⟩) (m := m) 0 KW2.out hm hBW2)
  unfold callV at HS
  go_wp2_with (go_at_call 83; refine HS.out.mono ?_; rintro e w1 ⟨rfl, k1, b1, f1⟩)
  have wc1 : Whole w1 w.heap.size 112 #[.pointer (some ⟨L.b .ker, 0, none⟩), .int .i64 m, .pointer (some ⟨L.b (.t m), 0, none⟩), .int .i64 kd, .int .i64 (a : Int), .int .i64 ob] := WC.out.same (f1 _ OW.out.1 hoT2)
  have hz1 := b1.size
  have hz1' : W.heap.size ≤ w1.heap.size := hz1
  have hB1 : B ≤ w1.heap.size := by omega
  have ws : Whole w1 (L.b (.s a)) 82 #[.int .i64 (k.sems.getD a 0), L.hd (.l (32 + a)) (k.l (32 + a)).length] := k1.cont (.s a) hlt
  obtain ⟨A, c, hAc, hrd⟩ := k1.readList (x := 32 + a) (by omega)
  have hAc' : L.hd (.l (32 + a)) (k.l (32 + a)).length = .slice A (k.l (32 + a)).length c := hAc
  have hrd' : Reads w1 w1.heap.size 1 A (k.l (32 + a)).length (intV (k.l (32 + a))) := hrd
  have v1 : w1.cell? ⟨L.b (.s a), 1, none⟩ = some (L.hd (.l (32 + a)) (k.l (32 + a)).length) := ws.cell 1
  rw [hAc'] at v1
  have hvl := hFS.out.val (32 + a) (by omega)
  have hlen5 : (k.l (32 + a)).length ≤ 1000000 := by have := OK.out.fine.len (32 + a); omega
  have htl : (k.say m 0).tasks.length ≤ 1000000 := by have := hFS.out.tasks; omega
  have HBE := zh (fun n => best_any (w := w1.drewN n) (c := c) (k1.below ((zr _ _).drewN' n)) (xs := k.l (32 + a)) hvl hrd' hlen5 htl)
  have hbv := best_valid (k := k.say m 0) (xs := k.l (32 + a)) hvl
  obtain ⟨b, hb⟩ : ∃ b, (k.say m 0).best (k.l (32 + a)) = b := ⟨_, rfl⟩
  rw [hb] at HBE hbv EK
  unfold Lay.ptr at HBE
  clear c0 c1 c2 c3 c4 c5 s0 s1 hb hAc hAc'
  have d0 : w1.cell? ⟨w.heap.size, 0, none⟩ = some (.pointer (some ⟨L.b .ker, 0, none⟩)) := wc1.cell 0
  have d1 : w1.cell? ⟨w.heap.size, 1, none⟩ = some (.int .i64 m) := wc1.cell 1
  have d2 : w1.cell? ⟨w.heap.size, 2, none⟩ = some (.pointer (some ⟨L.b (.t m), 0, none⟩)) := wc1.cell 2
  have d3 : w1.cell? ⟨w.heap.size, 3, none⟩ = some (.int .i64 kd) := wc1.cell 3
  have d4 : w1.cell? ⟨w.heap.size, 4, none⟩ = some (.int .i64 (a : Int)) := wc1.cell 4
  have d5 : w1.cell? ⟨w.heap.size, 5, none⟩ = some (.int .i64 ob) := wc1.cell 5
  have B1 := zh b1
  have K1 := zh k1
  have WC1 := zh wc1
  have hlt1 : w.heap.size < w1.heap.size := wc1.lt
  clear k1 b1 f1 wc1 ws hrd hrd' hvl
  go_upto_region 5 with fail
  go_region_with (go_at_call 81; refine (HBE.out _).mono ?_; rintro e w2 ⟨rfl, b2⟩)
  all_goals
   have k2 := (K1.out.below ((zr _ _).drewN' _)).below b2
   have wc2 : Whole w2 w.heap.size 112 #[.pointer (some ⟨L.b .ker, 0, none⟩), .int .i64 m, .pointer (some ⟨L.b (.t m), 0, none⟩), .int .i64 kd, .int .i64 (a : Int), .int .i64 ob] := WC1.out.same (b2.block _ hlt1)
   have hz2 := b2.size
   have hz2' : w1.heap.size ≤ w2.heap.size := hz2
   have hB2 : B ≤ w2.heap.size := by omega
   have BB2 : Hid (Below B w w2) := ((BW2.out.trans B1.out).drewN' _).trans (b2.mono hB1)
   have ws2 : Whole w2 (L.b (.s a)) 82 #[.int .i64 (k.sems.getD a 0), L.hd (.l (32 + a)) (k.l (32 + a)).length] := k2.cont (.s a) hlt
   have v2 : w2.cell? ⟨L.b (.s a), 0, none⟩ = some (.int .i64 (k.sems.getD a 0)) := ws2.cell 0
   have vf2 := ws2.frozen 0
   clear d0 d1 d2 d3 d4 d5 v1
   have d0 : w2.cell? ⟨w.heap.size, 0, none⟩ = some (.pointer (some ⟨L.b .ker, 0, none⟩)) := wc2.cell 0
   have d1 : w2.cell? ⟨w.heap.size, 1, none⟩ = some (.int .i64 m) := wc2.cell 1
   have d2 : w2.cell? ⟨w.heap.size, 2, none⟩ = some (.pointer (some ⟨L.b (.t m), 0, none⟩)) := wc2.cell 2
   have d3 : w2.cell? ⟨w.heap.size, 3, none⟩ = some (.int .i64 kd) := wc2.cell 3
   have d4 : w2.cell? ⟨w.heap.size, 4, none⟩ = some (.int .i64 (a : Int)) := wc2.cell 4
   have d5 : w2.cell? ⟨w.heap.size, 5, none⟩ = some (.int .i64 ob) := wc2.cell 5
   have K2 := zh k2
   clear k2 b2 wc2 ws2
   rcases hbv with rfl | ⟨hb0, hb2⟩
   ·by_cases h100 : 100 ≤ k.sems.getD a 0
    ·have ED : Hid (k.give m ⟨kd, a, ob⟩ = (k.say m 0).say m 4) := by show _ = _; rw [EK.out]; unfold Kn.K.give1; rw [if_neg (by omega), if_pos (show 100 ≤ (k.say m 0).sems.getD a 0 from h100)]
     have HS := zh (CallPost.say (m := m) (a := 4) (o := ⟨kd, a, ob⟩) K2.out hmS hB2 BB2.out)
     unfold callV at HS
     have hd3 : decide (100 ≤ k.sems.getD a 0) = true := zu h100
     generalize k.sems.getD a 0 = S at *
     go_wp2_with (go_at_call 83; refine HS.out.mono ?_; intro e w1 hp; obtain ⟨rfl, hp⟩ := hp)
     go_wp2_with fail
     go_end0
     rw [ED.out]
     exact ⟨rfl, hp⟩
    ·have ED : Hid (k.give m ⟨kd, a, ob⟩ = { k.say m 0 with sems := (k.say m 0).sems.modify a (· + 1) }) := by show _ = _; rw [EK.out]; unfold Kn.K.give1; rw [if_neg (by omega), if_neg (show ¬ 100 ≤ (k.say m 0).sems.getD a 0 from h100)]
     have hK3 := K2.out.putSem (v := k.sems.getD a 0 + 1) (f := (· + 1)) hlt (by rw [Kn.getD_at hlt]; rfl)
     have hwS : IntKind.i64.wrap (k.sems.getD a 0 + 1) = k.sems.getD a 0 + 1 := by rw [IntKind.wrap_i64]; omega
     have hlowS := K2.out.low (.s a) hlt
     have K3 := zh hK3
     have hd3 : decide (100 ≤ k.sems.getD a 0) = false := decide_eq_false h100
     clear hK3
     generalize k.sems.getD a 0 = S at *
     go_wp2_with fail
     go_end0
     rw [ED.out]
     exact ⟨rfl, L, K3.out, Sam.refl L, BB2.out.setCell (p := ⟨L.b (.s a), 0, none⟩) hlowS _⟩
   ·obtain ⟨j, rfl⟩ := Int.eq_ofNat_of_zero_le hb0
    have hj : j < (k.say m 0).tasks.length := by omega
    have ED : Hid (k.give m ⟨kd, a, ob⟩ = (k.say m 0).wake j 0) := by show _ = _; rw [EK.out]; unfold Kn.K.give1; rw [if_pos hb0]
    have HWK := zh (wake_any (m := j) 0 K2.out hFS.out (by decide) hj hB2 (fun x hx => hFS.out.on j x hj hx))
    unfold Lay.ptr at HWK
    go_wp2_with (go_at_call 55; refine HWK.out.mono ?_; rintro e w3 ⟨rfl, L3, k3, s3, b3⟩)
    go_wp2_with fail
    go_end0
    rw [ED.out]
    exact ⟨rfl, L3, k3, s3, BB2.out.trans b3⟩
 ·have ED : Hid (k.give m ⟨kd, a, ob⟩ = k.say m 2) := by show _ = _; unfold Kn.K.give; rw [if_pos (by show k.sems.length ≤ ((a : Int)).toNat; omega)]
  have ia : (k.sems.length : Int) ≤ a := by omega
  clear hlt
  unfold callV
  go_enter Try.func63, Try.ntmps63
  go_upto_region 1 with fail
  rw [← HW.out]
  refine zy ?_
  repeat go_big_quiet_step (fail)
  refine wpQuiet_nil ?_
  intro _ hw'
  obtain ⟨n1, hw''⟩ := hw'
  subst hw''
  have HS := zh (CallPost.say (W := W.drewN n1) (w := w) (a := 2) (o := ⟨kd, a, ob⟩) (KW.out.below (Below.drewN' (zr _ _) _)) hm (by show B ≤ W.heap.size; omega) (BW.out.drewN' n1))
  unfold callV at HS
  go_wp2_with (go_at_call 83; refine HS.out.mono ?_; intro e w1 hp; obtain ⟨rfl, hp⟩ := hp)
  go_wp2_with fail
  go_end0
  rw [ED.out]
  exact ⟨rfl, hp⟩
end Go.Proofs.Ytncbgnpoffolcaa
