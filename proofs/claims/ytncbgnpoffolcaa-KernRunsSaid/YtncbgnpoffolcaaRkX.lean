/-
  The document's kernel: a run: the walk of Run.
-/
import Derived.Test.YtncbgnpoffolcaaRkW
import Derived.BigQuiet
namespace Go.Proofs.Ytncbgnpoffolcaa
open Go.RowKit
namespace Rk
set_option maxRecDepth 100000 in
set_option maxHeartbeats 16000000 in
theorem run_any {w : World} {B f f0 ticks ops : Nat} {r0 r : K} {k : Kn.K} {L : Ly} (h : RM w B r L) (hu : Up ticks ops f0 r0 k r f) (ht : ticks ≤ 100000) (ho : ops ≤ 100000) :
 Calls Try.prog 35 #[.pointer (some ⟨L.b, 0, none⟩), .int .i64 ticks, .int .i64 ops] w (DoPost w B (K.run ticks ops f0 r0) L) := by
 have HK := zh h
 have HU := zh hu
 clear h hu
 go_enter Try.func35, Try.ntmps35
 go_wp2_with fail
 go_loopg [6] f (fun kk _v wr => ∃ (kj : Kn.K) (rj : K) (Lj : Ly) (fj : Nat), Up ticks ops f0 r0 kj rj fj ∧ RM wr B rj Lj ∧ Kp w L wr Lj ∧ fj ≤ kk)
 case atStart => exact ⟨k, r, L, f, HU.out, HK.out, Kp.refl _ _, zl _⟩
 case round =>
  obtain ⟨kj, rj, Lj, fj, hu, hk, hp, hkk⟩ := hrel
  obtain ⟨wz, rfl⟩ : ∃ wz : World, wz = wr := ⟨_, rfl⟩
  obtain ⟨fj, rfl⟩ : ∃ f', fj = f' + 1 := ⟨fj - 1, by have := hu.fuel; omega⟩
  have hrf := hu.rel.rf hu.ok hu.pos
  have hn1 := hrf.pos
  have hn32 : rj.tasks.length ≤ 32 := by rw [hu.rel.len]; exact hu.ok.inv.tasks
  have HRN := zh (running_any hk (fun x => zt (hrf.len x) (by decide)))
  have eb := hp.b
  rw [eb] at HRN
  have hrr : rj.running = -1 ∨ ∃ i : Nat, rj.running = i ∧ i < kj.tasks.length ∧ (kj.ti i).state = 0 := by
   rw [hu.ran]
   exact hu.ok.inv.running
  obtain ⟨gt, ct, hta⟩ := hk.ta hn1
  have HTA := zh hta
  have eops : rj.ops ≤ 100000 := by have := hu.rel.ops; have := hu.op; omega
  have etk : rj.ticks ≤ 100000 := by have := hu.rel.ticks; have := hu.tk; omega
  have ecn := hu.cnt
  have esn := hu.sn
  have eln := hu.rel.len
  have HUJ := zh hu
  have HRF := zh hrf
  have HKJ := zh hk
  have HPJ := zh hp
  have EB := zh eb
  have c0 := hk.cTa
  rw [hta, eb] at c0
  have c38 := hk.cOps
  have f38 := hk.free 38
  have c37 := hk.cTicks
  have f37 := hk.free 37
  have c42 := hk.cSince
  have f42 := hk.free 42
  have c41 := hk.cMost
  have f41 := hk.free 41
  have c40 := hk.cRan
  have f40 := hk.free 40
  rw [eb] at c38 f38 c37 f37 c42 f42 c41 f41 c40 f40
  clear hu hk hp hrf hta eb
  rcases hrr with hr1 | ⟨i, hr1, hi, hs⟩
  ·have hR := zh hr1
   rw [hr1] at HRN
   clear hr1
   have HD0 : Hid (∀ q, q < rj.tasks.length → wz.cell? ⟨gt, q * 13 + 5, none⟩ = some (.int .i64 (rj.ti q).state) ∧ wz.cell? ⟨gt, q * 13 + 6, none⟩ = some (.int .i64 (rj.ti q).wake)) := fun q hq => ⟨HKJ.out.cTask HTA.out hq (j := 5) (by decide), HKJ.out.cTask HTA.out hq (j := 6) (by decide)⟩
   go_wp2_with fail
   refine HRN.out.mono ?_
   rintro e w1 ⟨rfl, rfl⟩
   go_wp2_with fail
   obtain ⟨w1, rfl⟩ : ∃ w1 : World, w1 = wz := ⟨_, rfl⟩
   go_loopg [8, 7] rj.tasks.length (fun k8 iv sv wr => ∃ (j : Nat) (b : Bool), j ≤ rj.tasks.length ∧ iv = .int .i64 j ∧ sv = .bool b ∧ b = (rj.tasks.take j).any tmd ∧ wr = w1 ∧ rj.tasks.length - j ≤ k8)
   case atStart => exact ⟨0, false, Nat.zero_le _, rfl, rfl, rfl, rfl, by omega⟩
   case round =>
    obtain ⟨j, b, hj, rfl, rfl, hb, rfl, hk8⟩ := hrel
    have HBb := zh hb
    clear hb
    by_cases hlt : j < rj.tasks.length
    ·have hlt' : (j : Int) < rj.tasks.length := by omega
     have hj0 : (0 : Int) ≤ j := by omega
     obtain ⟨t5, t6⟩ := HD0.out j hlt
     have HN : Hid ((rj.tasks.take (j + 1)).any tmd = (b || tmd (rj.ti j))) := by
      show _ = _
      rw [any_next hlt, HBb.out]
     cases b with
     | true =>
       go_wp2_with fail
       go_roundg (rj.tasks.length - (j + 1))
       case measure => omega
       case rel => exact ⟨j + 1, true, by omega, by go_num, rfl, by rw [HN.out]; rfl, rfl, zl _⟩
     | false =>
       by_cases q5 : (rj.ti j).state = 1
       ·rw [q5] at t5
        by_cases q6 : 0 ≤ (rj.ti j).wake
        ·have hd6 : decide ((0 : Int) ≤ (rj.ti j).wake) = true := zu q6
         have HT : Hid (tmd (rj.ti j) = true) := zu ⟨q5, q6⟩
         clear q5
         generalize (rj.ti j).wake = wk at *
         go_wp2_with fail
         go_roundg (rj.tasks.length - (j + 1))
         case measure => omega
         case rel => exact ⟨j + 1, true, by omega, by go_num, rfl, by rw [HN.out, HT.out]; rfl, rfl, zl _⟩
        ·have hd6 : decide ((0 : Int) ≤ (rj.ti j).wake) = false := decide_eq_false q6
         have HT : Hid (tmd (rj.ti j) = false) := decide_eq_false (fun q => q6 q.2)
         clear q5
         generalize (rj.ti j).wake = wk at *
         go_wp2_with fail
         go_roundg (rj.tasks.length - (j + 1))
         case measure => omega
         case rel => exact ⟨j + 1, false, by omega, by go_num, rfl, by rw [HN.out, HT.out]; rfl, rfl, zl _⟩
       ·have e5 : ((rj.ti j).state == 1) = false := beq_eq_false_iff_ne.2 q5
        have HT : Hid (tmd (rj.ti j) = false) := decide_eq_false (fun q => q5 q.1)
        go_wp2_with fail
        go_roundg (rj.tasks.length - (j + 1))
        case measure => omega
        case rel => exact ⟨j + 1, false, by omega, by go_num, rfl, by rw [HN.out, HT.out]; rfl, rfl, zl _⟩
    ·have hge : ¬ (j : Int) < rj.tasks.length := by omega
     have HTM : Hid (rj.timed = b) := by
      show _ = _
      rw [HBb.out, List.take_of_length_le (by omega)]
      rfl
     clear HBb HD0
     by_cases hc : b = false ∨ ticks ≤ rj.ticks
     ·have EF := zh (HUJ.out.stop_idle hR.out (by rw [HTM.out]; exact hc))
      cases b with
      | false =>
        go_wp2_with fail
        go_end0
        rw [EF.out]
        exact ⟨rfl, Lj, HKJ.out, HPJ.out⟩
      | true =>
        have hc2 : ticks ≤ rj.ticks := by
         rcases hc with h | h
         ·cases h
         ·exact h
        have hdt : decide ((ticks : Int) ≤ (rj.ticks : Int)) = true := zu (by omega)
        have hdt2 : (ticks : Int) ≤ (rj.ticks : Int) := by omega
        clear hc
        go_wp2_with fail
        go_end0
        rw [EF.out]
        exact ⟨rfl, Lj, HKJ.out, HPJ.out⟩
     ·have hb1 : b = true := by
       cases b
       ·exact absurd (.inl rfl) hc
       ·rfl
      subst hb1
      have hc2 : ¬ ticks ≤ rj.ticks := fun q => hc (.inr q)
      have hdt : decide ((ticks : Int) ≤ (rj.ticks : Int)) = false := decide_eq_false (by omega)
      have hdt2 : ¬ (ticks : Int) ≤ (rj.ticks : Int) := by omega
      have u1 := HUJ.out.tick hR.out (by rw [HTM.out]; exact hc)
      obtain ⟨kw, v1, v2, v3⟩ := HUJ.out.woke
      have U1 := zh u1
      have V1 := zh v1
      have V2 := zh v2
      have hwt : IntKind.i64.wrap ((rj.ticks : Int) + 1) = (rj.ticks : Int) + 1 := by rw [IntKind.wrap_i64]; omega
      have ka := (HKJ.out.setTicks (rj.ticks + 1)).setSince 0
      have pa := HPJ.out.trans ((Kp.num (w := wr) (j := 37) (u := .int .i64 ((rj.ticks + 1 : Nat) : Int))).trans (Kp.num (j := 42) (u := .int .i64 ((0 : Nat) : Int))))
      rw [EB.out] at ka pa
      have KA : Hid (RM ((wr.setCell ⟨L.b, 37, none⟩ (.int .i64 ((rj.ticks : Int) + 1))).setCell ⟨L.b, 42, none⟩ (.int .i64 0)) B { rj with ticks := rj.ticks + 1, sinceOps := 0 } Lj) := ka
      have PA : Hid (Kp w L ((wr.setCell ⟨L.b, 37, none⟩ (.int .i64 ((rj.ticks : Int) + 1))).setCell ⟨L.b, 42, none⟩ (.int .i64 0)) Lj) := pa
      have RA : Hid (RF { rj with ticks := rj.ticks + 1, sinceOps := 0 } 32) := ⟨HRF.out.pos, HRF.out.tasks, HRF.out.prio, HRF.out.len, HRF.out.owner⟩
      have hran : Hid (({ rj with ticks := rj.ticks + 1, sinceOps := 0 } : K).ticks = rj.ticks + 1) := rfl
      have hlA : Hid (({ rj with ticks := rj.ticks + 1, sinceOps := 0 } : K).tasks.length = rj.tasks.length) := rfl
      generalize hrA : ({ rj with ticks := rj.ticks + 1, sinceOps := 0 } : K) = rA at *
      have hrA2 := zh hrA
      clear u1 v1 v2 ka pa hc c38 f38 c41 f41 c40 f40 HKJ HPJ HRF HTM HRN hrA
      go_wp2_with fail
      generalize ((wr.setCell ⟨L.b, 37, none⟩ (.int .i64 ((rj.ticks : Int) + 1))).setCell ⟨L.b, 42, none⟩ (.int .i64 0)) = wA at *
      clear c37 f37 c42 f42 c0
      go_loopg [9] rj.tasks.length (fun k9 iv wr => ∃ (j : Nat) (r' : K) (L' : Ly), j ≤ rj.tasks.length ∧ iv = .int .i64 j ∧ K.wakeAt rj.tasks.length 0 rA = K.wakeAt (rj.tasks.length - j) j r' ∧ RF r' (32 + j) ∧ r'.tasks.length = rj.tasks.length ∧ r'.ticks = rj.ticks + 1 ∧ RM wr B r' L' ∧ Kp w L wr L' ∧ rj.tasks.length - j ≤ k9)
      case atStart => exact ⟨0, rA, Lj, Nat.zero_le _, rfl, rfl, RA.out, hlA.out, hran.out, KA.out, PA.out, by omega⟩
      case round =>
       obtain ⟨j, r', L', hj, rfl, he, hrf, hlr, htr, hk, hp, hk9⟩ := hrel
       obtain ⟨wv, rfl⟩ : ∃ wv : World, wv = wr := ⟨_, rfl⟩
       have HE := zh he
       have HRF := zh hrf
       have HKv := zh hk
       have HPv := zh hp
       have HTR := zh htr
       have eb := hp.b
       have hta : L'.V .ta = .slice (some ⟨gt, 0, none⟩) rj.tasks.length ct := ((hp.fix .ta (by simp) (by simp)).trans ((PA.out.fix .ta (by simp) (by simp)).symm.trans HTA.out))
       have c0 := hk.cTa
       rw [hta, eb] at c0
       have c37 := hk.cTicks
       rw [eb, htr] at c37
       clear he hrf hk hp htr
       by_cases hlt : j < rj.tasks.length
       ·have hlt' : (j : Int) < rj.tasks.length := by omega
        have hj0 : (0 : Int) ≤ j := by omega
        have hjr : j < r'.tasks.length := by omega
        have hta' : L'.V .ta = .slice (some ⟨gt, 0, none⟩) r'.tasks.length ct := by rw [hlr]; exact hta
        have t5 : wv.cell? ⟨gt, j * 13 + 5, none⟩ = some (.int .i64 (r'.ti j).state) := HKv.out.cTask hta' hjr (j := 5) (by decide)
        have t6 : wv.cell? ⟨gt, j * 13 + 6, none⟩ = some (.int .i64 (r'.ti j).wake) := HKv.out.cTask hta' hjr (j := 6) (by decide)
        have t7 : wv.cell? ⟨gt, j * 13 + 7, none⟩ = some (.int .i64 (r'.ti j).answer) := HKv.out.cTask hta' hjr (j := 7) (by decide)
        have HS : Hid (K.wakeAt (rj.tasks.length - j) j r' = K.wakeAt (rj.tasks.length - (j + 1)) (j + 1) (if (r'.ti j).state = 1 ∧ (r'.ti j).wake = ((rj.ticks + 1 : Nat) : Int) then r'.ready j (r'.ti j).answer else r')) := by
         show _ = _
         rw [show rj.tasks.length - j = rj.tasks.length - (j + 1) + 1 by omega, wakeAt_step, HTR.out]
        have HNO : Hid (∀ n : Nat, ¬ ((r'.ti j).state = 1 ∧ (r'.ti j).wake = ((rj.ticks + 1 : Nat) : Int)) → ∃ (j2 : Nat) (r2 : K) (L2 : Ly), j2 ≤ rj.tasks.length ∧ j2 = j + 1 ∧ K.wakeAt rj.tasks.length 0 rA = K.wakeAt (rj.tasks.length - j2) j2 r2 ∧ RF r2 (32 + j2) ∧ r2.tasks.length = rj.tasks.length ∧ r2.ticks = rj.ticks + 1 ∧ RM (wv.drewN n) B r2 L2 ∧ Kp w L (wv.drewN n) L2) := fun n hno =>
         ⟨j + 1, r', L', by omega, rfl, by rw [HE.out, HS.out, if_neg hno], HRF.out.more (by omega), hlr, HTR.out, HKv.out.below ((zr _ _).drewN' _), HPv.out.drewN _⟩
        have HRD := zh (fun n => ready_any (m := j) (r'.ti j).answer (HKv.out.below ((zr _ _).drewN' n)) hjr HRF.out.tasks (HRF.out.prio j hjr) (zt (HRF.out.len _) (by omega)))
        rw [eb] at HRD
        have HTL : Hid ((r'.ready j (r'.ti j).answer).tasks.length = rj.tasks.length) := by
         show (K.setT _ _ _).tasks.length = _
         rw [len_setT]
         exact hlr
        have HTT : Hid ((r'.ready j (r'.ti j).answer).ticks = rj.ticks + 1) := HTR.out
        by_cases q5 : (r'.ti j).state = 1
        ·by_cases q6 : (r'.ti j).wake = ((rj.ticks + 1 : Nat) : Int)
         ·have HSS := HS
          rw [if_pos ⟨q5, q6⟩] at HSS
          rw [q5] at t5
          rw [q6] at t6
          have e6 : (((rj.ticks + 1 : Nat) : Int) == ((rj.ticks + 1 : Nat) : Int)) = true := by simp
          clear q5 q6 HNO HS
          generalize (r'.ti j).answer = an at *
          go_wp2_with fail
          refine zy ?_
          repeat go_big_quiet_step (fail)
          refine wpQuiet_nil ?_
          intro _ hw'
          obtain ⟨nq, hw2⟩ := hw'
          subst hw2
          go_wp2_with fail
          refine (HRD.out nq).mono ?_
          rintro e w3 ⟨rfl, L3, k3, p3⟩
          have K3 := zh k3
          have P3 := zh ((HPv.out.drewN nq).trans p3)
          clear k3 p3
          go_wp2_with fail
          go_roundg (rj.tasks.length - (j + 1))
          case measure => omega
          case rel => exact ⟨j + 1, _, L3, by omega, by go_num, HE.out.trans HSS.out, HRF.out.ready hjr, HTL.out, HTT.out, K3.out, P3.out, zl _⟩
         ·have HNN := zh (fun n => HNO.out n (fun q => q6 q.2))
          have e6 : ((r'.ti j).wake == ((rj.ticks + 1 : Nat) : Int)) = false := beq_eq_false_iff_ne.2 q6
          rw [q5] at t5
          clear q5 HNO HS HRD
          generalize (r'.ti j).wake = wk at *
          go_wp2_with fail
          refine zy ?_
          repeat go_big_quiet_step (fail)
          refine wpQuiet_nil ?_
          intro _ hw'
          obtain ⟨nq, hw2⟩ := hw'
          subst hw2
          go_wp2_with fail
          obtain ⟨j2, r2, L2, a1, a2, a3, a4, a5, a6, a7, a8⟩ := HNN.out nq
          subst a2
          go_roundg (rj.tasks.length - (j + 1))
          case measure => omega
          case rel => exact ⟨j + 1, r2, L2, a1, by go_num, a3, a4, a5, a6, a7, a8, zl _⟩
        ·have HNN := zh (fun n => HNO.out n (fun q => q5 q.1))
         have e5 : ((r'.ti j).state == 1) = false := beq_eq_false_iff_ne.2 q5
         clear HNO HS HRD
         go_wp2_with fail
         refine zy ?_
         repeat go_big_quiet_step (fail)
         refine wpQuiet_nil ?_
         intro _ hw'
         obtain ⟨nq, hw2⟩ := hw'
         subst hw2
         go_wp2_with fail
         obtain ⟨j2, r2, L2, a1, a2, a3, a4, a5, a6, a7, a8⟩ := HNN.out nq
         subst a2
         go_roundg (rj.tasks.length - (j + 1))
         case measure => omega
         case rel => exact ⟨j + 1, r2, L2, a1, by go_num, a3, a4, a5, a6, a7, a8, zl _⟩
       ·have hge : ¬ (j : Int) < rj.tasks.length := by omega
        have EW : Hid (K.wakeAt rj.tasks.length 0 rA = r') := by
         show _ = _
         rw [HE.out, show rj.tasks.length - j = 0 by omega]
         rfl
        rw [EW.out] at V1
        have c40 := HKv.out.cRan
        have f40 := HKv.out.free 40
        rw [eb] at c40 f40
        have kd := HKv.out.setRan (-1)
        have pd := HPv.out.trans (Kp.num (w := wv) (j := 40) (u := .int .i64 (-1)))
        rw [eb] at kd pd
        have HPR := zh (priorities_any (M := 32) kd (V1.out.rf V2.out (by rw [v3]; exact HUJ.out.pos)) (by decide) (by rw [V1.out.len, v3, ← eln]; exact hn32) (V1.out.rp V2.out))
        rw [eb] at HPR
        have PD := zh pd
        have ET : Hid (({ r' with ran := -1 } : K).priorities = rj.tick) := by
         show _ = _
         rw [← EW.out, ← hrA2.out]
         rfl
        clear kd pd c37 HE EW
        go_wp2_with fail
        refine HPR.out.mono ?_
        rintro e w4 ⟨rfl, L4, k4, p4⟩
        rw [ET.out] at k4
        have K4 := zh k4
        have P4 := zh (PD.out.trans p4)
        clear k4 p4
        go_wp2_with fail
        go_roundg fj
        case measure => omega
        case rel => exact ⟨_, _, L4, fj, U1.out, K4.out, P4.out, zl _⟩
  ·have hR := zh hr1
   have hS := zh hs
   rw [hr1] at HRN
   have ii : (i : Int) < rj.tasks.length := by omega
   have ii0 : (0 : Int) ≤ i := by omega
   have ii1 : i < rj.tasks.length := by omega
   clear hr1 hs
   by_cases h1 : ops ≤ rj.ops
   ·have hd : (ops : Int) ≤ (rj.ops : Int) := by omega
    have hdd : decide ((ops : Int) ≤ (rj.ops : Int)) = true := zu hd
    have EF := zh (HUJ.out.stop_ops hR.out h1)
    go_wp2_with fail
    refine HRN.out.mono ?_
    rintro e w1 ⟨rfl, rfl⟩
    go_wp2_with fail
    go_end0
    rw [EF.out]
    exact ⟨rfl, Lj, HKJ.out, HPJ.out⟩
   ·have hd : ¬ (ops : Int) ≤ (rj.ops : Int) := by omega
    have hdd : decide ((ops : Int) ≤ (rj.ops : Int)) = false := decide_eq_false hd
    have t3 : wz.cell? ⟨gt, i * 13 + 3, none⟩ = some (.int .i64 ((rj.ti i).place : Int)) := HKJ.out.cTask HTA.out ii1 (j := 3) (by decide)
    have t2 : wz.cell? ⟨gt, i * 13 + 2, none⟩ = some (Lj.O i) := HKJ.out.cTask HTA.out ii1 (j := 2) (by decide)
    obtain ⟨A2, n2, eO, -⟩ := HKJ.out.ops i ii1
    rw [eO] at t2
    clear eO
    go_wp2_with fail
    refine HRN.out.mono ?_
    rintro e w1 ⟨rfl, rfl⟩
    go_wp2_with fail
    by_cases h2 : (rj.ti i).ops.length ≤ (rj.ti i).place
    ·have hd2 : decide (((rj.ti i).ops.length : Int) ≤ ((rj.ti i).place : Int)) = true := zu (by omega)
     obtain ⟨u1, u2, u3, u4⟩ := HUJ.out.fin hR.out hi hS.out h1 h2
     have U1 := zh u1
     have U2 := zh u2
     have U3 := zh u3
     clear u1 u2 u3
     refine zy ?_
     repeat go_big_quiet_step (fail)
     refine wpQuiet_nil ?_
     intro _ hw'
     obtain ⟨nq, hw2⟩ := hw'
     subst hw2
     have HE := zh (end_any (M := 32) (m := i) ((HKJ.out.below ((zr _ _).drewN' nq)).setRan (i : Int)) ⟨HRF.out.pos, HRF.out.tasks, HRF.out.prio, HRF.out.len, HRF.out.owner⟩ (by decide) ii1)
     have PE := zh ((HPJ.out.drewN nq).trans (Kp.num (j := 40) (u := .int .i64 (i : Int))))
     rw [EB.out] at HE PE
     clear c38 f38 c37 f37 c42 f42 c41 f41 t3 t2
     go_wp2_with fail
     refine HE.out.mono ?_
     rintro e w3 ⟨rfl, L3, k3, p3⟩
     have HPR := zh (priorities_any (M := 32) k3 (U2.out.rf U3.out (by rw [u4]; exact HUJ.out.pos)) (by decide) (by rw [U2.out.len, u4, ← eln]; exact hn32) (U2.out.rp U3.out))
     have P3 := zh (PE.out.trans p3)
     have e3 : L3.b = L.b := by rw [P3.out.b]
     rw [e3] at HPR
     clear k3 p3
     go_wp2_with fail
     refine HPR.out.mono ?_
     rintro e w4 ⟨rfl, L4, k4, p4⟩
     have K4 := zh k4
     have P4 := zh (P3.out.trans p4)
     clear k4 p4
     go_wp2_with fail
     go_roundg fj
     case measure => omega
     case rel => exact ⟨_, _, L4, fj, U1.out, K4.out, P4.out, zl _⟩
    ·have hd2 : decide (((rj.ti i).ops.length : Int) ≤ ((rj.ti i).place : Int)) = false := decide_eq_false (by omega)
     obtain ⟨u1, u2, u3, u4, u5, u6, u7⟩ := HUJ.out.act hR.out hi hS.out h1 h2
     have U1 := zh u1
     have U5 := zh u5
     have U6 := zh u6
     refine zy ?_
     repeat go_big_quiet_step (fail)
     refine wpQuiet_nil ?_
     intro _ hw'
     obtain ⟨nq, hw2⟩ := hw'
     subst hw2
     have hw1 : IntKind.i64.wrap ((rj.ops : Int) + 1) = (rj.ops : Int) + 1 := by rw [IntKind.wrap_i64]; omega
     have hw2 : IntKind.i64.wrap ((rj.sinceOps : Int) + 1) = (rj.sinceOps : Int) + 1 := by rw [IntKind.wrap_i64]; omega
     have ka := ((HKJ.out.below ((zr _ _).drewN' nq)).setOps (rj.ops + 1)).setSince (rj.sinceOps + 1)
     have pa := (HPJ.out.drewN nq).trans ((Kp.num (j := 38) (u := .int .i64 ((rj.ops + 1 : Nat) : Int))).trans (Kp.num (j := 42) (u := .int .i64 ((rj.sinceOps + 1 : Nat) : Int))))
     rw [EB.out] at ka pa
     have KA := zh ka
     have PA := zh pa
     have HD := zh (fun (L' : Ly) (w' : World) (hM : RM w' B (rj.step i) L') => do_any hM u2 u3 (m := i) hi u4 (by show rj.count ≤ 1000000; omega) (by show rj.ticks ≤ 1000000; omega) (by have h9 := u2.out; have h8 := u3.good.out; rw [h9]; have h7 := HUJ.out.rel.ops; have : ({ kj with ops := kj.ops + 1 } : Kn.K).ops = kj.ops + 1 := rfl; omega))
     clear u1 u2 u3 u5 u6 ka pa c37 f37 t3 t2
     go_upto_region 9 with fail
     generalize hwb : ((wz.drewN nq).setCell ⟨L.b, 38, none⟩ (.int .i64 ((rj.ops : Int) + 1))).setCell ⟨L.b, 42, none⟩ (.int .i64 ((rj.sinceOps : Int) + 1)) = wb at *
     have KB : Hid (RM wb B { rj with ops := rj.ops + 1, sinceOps := rj.sinceOps + 1 } Lj) := by
      show RM _ _ _ _
      rw [← hwb]
      exact KA.out
     have PB : Hid (Kp w L wb Lj) := by
      show Kp _ _ _ _
      rw [← hwb]
      exact PA.out
     clear hwb KA PA c38 f38 c42 f42 c41 f41 c40 f40 c0
     have c42 : wb.cell? ⟨L.b, 42, none⟩ = some (.int .i64 ((rj.sinceOps + 1 : Nat) : Int)) := by rw [← EB.out]; exact KB.out.cSince
     have c41 : wb.cell? ⟨L.b, 41, none⟩ = some (.int .i64 (rj.most : Int)) := by rw [← EB.out]; exact KB.out.cMost
     by_cases h3 : rj.most < rj.sinceOps + 1
     ·have hd3 : decide ((rj.most : Int) < ((rj.sinceOps + 1 : Nat) : Int)) = true := zu (by omega)
      generalize hso : rj.sinceOps + 1 = so at *
      refine zy ?_
      repeat go_big_quiet_step (fail)
      refine wpQuiet_nil ?_
      intro _ hw'
      obtain ⟨nq, hw2⟩ := hw'
      subst hw2
      have kc : RM ((wb.drewN nq).setCell ⟨L.b, 41, none⟩ (.int .i64 (so : Int))) B { rj with ops := rj.ops + 1, sinceOps := so, most := so } Lj := by
       have q := (KB.out.below ((zr _ _).drewN' nq)).setMost so
       rw [EB.out] at q
       exact q
      have kd : RM (((wb.drewN nq).setCell ⟨L.b, 41, none⟩ (.int .i64 (so : Int))).setCell ⟨L.b, 40, none⟩ (.int .i64 (i : Int))) B (rj.step i) Lj := by
       have q := kc.setRan (i : Int)
       rw [EB.out] at q
       have e : rj.step i = { rj with ops := rj.ops + 1, sinceOps := so, most := so, ran := (i : Int) } := by
        unfold K.step
        rw [hso, if_pos h3]
       rw [e]
       exact q
      have pd : Kp w L (((wb.drewN nq).setCell ⟨L.b, 41, none⟩ (.int .i64 (so : Int))).setCell ⟨L.b, 40, none⟩ (.int .i64 (i : Int))) Lj := by
       have q := (PB.out.drewN nq).trans ((Kp.num (j := 41) (u := .int .i64 (so : Int))).trans (Kp.num (j := 40) (u := .int .i64 (i : Int))))
       rw [EB.out] at q
       exact q
      have f41 : wb.frozen? ⟨L.b, 41, none⟩ = false := by rw [← EB.out]; exact KB.out.free 41
      have c40 : wb.cell? ⟨L.b, 40, none⟩ = some (.int .i64 rj.ran) := by rw [← EB.out]; exact KB.out.cRan
      have f40 : wb.frozen? ⟨L.b, 40, none⟩ = false := by rw [← EB.out]; exact KB.out.free 40
      have PD := zh pd
      have HDD := zh (HD.out Lj _ kd)
      rw [EB.out] at HDD
      clear kd pd HD KB PB hso
      go_wp2_with fail
      refine HDD.out.mono ?_
      rintro e w3 ⟨rfl, L3, k3, p3⟩
      have HPR := zh (priorities_any (M := 32) k3 (U5.out.rf U6.out (by rw [u7]; exact HUJ.out.pos)) (by decide) (by rw [U5.out.len, u7, ← eln]; exact hn32) (U5.out.rp U6.out))
      have P3 := zh (PD.out.trans p3)
      have e3 : L3.b = L.b := by rw [P3.out.b]
      rw [e3] at HPR
      clear k3 p3
      go_wp2_with fail
      refine HPR.out.mono ?_
      rintro e w4 ⟨rfl, L4, k4, p4⟩
      have K4 := zh k4
      have P4 := zh (P3.out.trans p4)
      clear k4 p4
      go_wp2_with fail
      go_roundg fj
      case measure => omega
      case rel => exact ⟨_, _, L4, fj, U1.out, K4.out, P4.out, zl _⟩
     ·have hd3 : decide ((rj.most : Int) < ((rj.sinceOps + 1 : Nat) : Int)) = false := decide_eq_false (by omega)
      generalize hso : rj.sinceOps + 1 = so at *
      refine zy ?_
      repeat go_big_quiet_step (fail)
      refine wpQuiet_nil ?_
      intro _ hw'
      obtain ⟨nq, hw2⟩ := hw'
      subst hw2
      have kd : RM ((wb.drewN nq).setCell ⟨L.b, 40, none⟩ (.int .i64 (i : Int))) B (rj.step i) Lj := by
       have q := (KB.out.below ((zr _ _).drewN' nq)).setRan (i : Int)
       rw [EB.out] at q
       have e : rj.step i = { rj with ops := rj.ops + 1, sinceOps := so, ran := (i : Int) } := by
        unfold K.step
        rw [hso, if_neg h3]
       rw [e]
       exact q
      have pd : Kp w L ((wb.drewN nq).setCell ⟨L.b, 40, none⟩ (.int .i64 (i : Int))) Lj := by
       have q := (PB.out.drewN nq).trans (Kp.num (j := 40) (u := .int .i64 (i : Int)))
       rw [EB.out] at q
       exact q
      have c40 : wb.cell? ⟨L.b, 40, none⟩ = some (.int .i64 rj.ran) := by rw [← EB.out]; exact KB.out.cRan
      have f40 : wb.frozen? ⟨L.b, 40, none⟩ = false := by rw [← EB.out]; exact KB.out.free 40
      have PD := zh pd
      have HDD := zh (HD.out Lj _ kd)
      rw [EB.out] at HDD
      clear kd pd HD KB PB hso
      go_wp2_with fail
      refine HDD.out.mono ?_
      rintro e w3 ⟨rfl, L3, k3, p3⟩
      have HPR := zh (priorities_any (M := 32) k3 (U5.out.rf U6.out (by rw [u7]; exact HUJ.out.pos)) (by decide) (by rw [U5.out.len, u7, ← eln]; exact hn32) (U5.out.rp U6.out))
      have P3 := zh (PD.out.trans p3)
      have e3 : L3.b = L.b := by rw [P3.out.b]
      rw [e3] at HPR
      clear k3 p3
      go_wp2_with fail
      refine HPR.out.mono ?_
      rintro e w4 ⟨rfl, L4, k4, p4⟩
      have K4 := zh k4
      have P4 := zh (P3.out.trans p4)
      clear k4 p4
      go_wp2_with fail
      go_roundg fj
      case measure => omega
      case rel => exact ⟨_, _, L4, fj, U1.out, K4.out, P4.out, zl _⟩
end Rk
end Go.Proofs.Ytncbgnpoffolcaa
