/-
  The kernel runs: the walk of run. The shape of an operation: the walk of the given table, and of the document's names.
-/
import Derived.Test.YtncbgnpoffolcaaM12
import Derived.Laws.NewBlocks
import Derived.Laws.Rows
import Derived.Great.BuildSlice
import Derived.Deep.MidRow
import Derived.Deep.DeepCutAuto
/-! The kernel runs: the walk of run. -/
namespace Go.Proofs.Ytncbgnpoffolcaa
open Go.RowKit
/-- What run leaves. -/
def RunPost (w : World) (B : Nat) (k' : Kn.K) (L : Lay) (e : Ending) (w' : World) : Prop := e = .returned (.tuple #[]) ∧ ∃ L', KM w' B k' L' ∧ Sam L L' ∧ Below B w w'
theorem round_tick {k : Kn.K} {ticks ops : Nat} (h : k.running = -1) (ht : k.timed = true) (h2 : ¬ ticks ≤ k.ticks) : k.round ticks ops = some k.tick := by
 unfold Kn.K.round
 rw [h, if_pos (by omega), if_neg]
 rintro (q | q)
 ·rw [ht] at q; cases q
 ·exact h2 q
theorem round_idle {k : Kn.K} {ticks ops : Nat} (h : k.running = -1) (ht : k.timed = false ∨ ticks ≤ k.ticks) : k.round ticks ops = none := by
 unfold Kn.K.round
 rw [h, if_pos (by omega), if_pos ht]
theorem round_full {k : Kn.K} {ticks ops : Nat} {i : Nat} (h : k.running = i) (h2 : ops ≤ k.ops) : k.round ticks ops = none := by
 unfold Kn.K.round
 rw [h, if_neg (by omega), if_pos h2]
theorem round_end {k : Kn.K} {ticks ops : Nat} {i : Nat} (h : k.running = i) (h2 : ¬ ops ≤ k.ops) (h3 : (kT k i).ops.length ≤ (kT k i).place) : k.round ticks ops = some ((k.fin i).anew i) := by
 unfold Kn.K.round
 rw [h, if_neg (by omega), if_neg h2]
 exact if_pos h3
theorem round_do {k : Kn.K} {ticks ops : Nat} {i : Nat} (h : k.running = i) (h2 : ¬ ops ≤ k.ops) (h3 : ¬ (kT k i).ops.length ≤ (kT k i).place) : k.round ticks ops = some ((({ k with ops := k.ops + 1 } : Kn.K).do_ i).anew i) := by
 unfold Kn.K.round
 rw [h, if_neg (by omega), if_neg h2]
 exact if_neg h3
theorem run_none {k : Kn.K} {ticks ops f : Nat} (h : k.round ticks ops = none) : Kn.K.run ticks ops (f + 1) k = k := by rw [Kn.run_round, h]
theorem run_some {k k' : Kn.K} {ticks ops f : Nat} (h : k.round ticks ops = some k') : Kn.K.run ticks ops (f + 1) k = Kn.K.run ticks ops f k' := by rw [Kn.run_round, h]
set_option maxRecDepth 100000 in
set_option maxHeartbeats 16000000 in
theorem run_any {w : World} {B f ticks ops : Nat} {k : Kn.K} {L : Lay} (h : KM w B k L) (hk : Kn.Ok k) (hn : 0 < k.tasks.length) (hB : B ≤ w.heap.size) (ht : k.ticks ≤ ticks) (hT : ticks ≤ 100000) (ho : k.ops ≤ ops) (hO : ops ≤ 100000) (hf : k.rest ticks ops < f) :
 Calls Try.prog 32 #[L.ptr .ker 0, .int .i64 ticks, .int .i64 ops] w (RunPost w B (Kn.K.run ticks ops f k) L) := by
 have HK0 := zh h
 have HO0 := zh hk
 have HF0 := zh hf
 clear h hk hf
 unfold Lay.ptr
 go_enter Try.func32, Try.ntmps32
 go_wp2_with fail
 go_loopg [6] f (fun kk _v wr => ∃ (kj : Kn.K) (Lj : Lay) (fj : Nat), KM wr B kj Lj ∧ Sam L Lj ∧ Below B w wr ∧ Kn.Ok kj ∧ kj.tasks.length = k.tasks.length ∧ kj.ticks ≤ ticks ∧ kj.ops ≤ ops ∧ kj.rest ticks ops < fj ∧ Kn.K.run ticks ops f k = Kn.K.run ticks ops fj kj ∧ fj ≤ kk)
 case atStart => exact ⟨k, L, f, HK0.out, Sam.refl _, zr _ _, HO0.out, rfl, ht, ho, HF0.out, rfl, zl _⟩
 case round =>
  obtain ⟨kj, Lj, fj, hKj, hSj, hBj, hOj, htj, htkj, hopj, hrj, hEj, hkk⟩ := hrel
  obtain ⟨fj, rfl⟩ : ∃ f', fj = f' + 1 := ⟨fj - 1, by omega⟩
  have eK : Lj.b .ker = L.b .ker := hSj .ker rfl
  have eA : Lj.b .ta = L.b .ta := hSj .ta rfl
  have hzj := hBj.size
  have hBr : B ≤ wr.heap.size := by omega
  have KJ := zh hKj
  have SJ := zh hSj
  have BJ := zh hBj
  have OJ := zh hOj
  have EJ := zh hEj
  have RJ := zh hrj
  have HR := zh (running_any hKj (fun x => by have := hOj.fine.len x; omega))
  have HTM := zh (timed_any hKj (by have := hOj.inv.tasks; omega) (by omega))
  unfold Lay.ptr at HR HTM
  rw [eK] at HR HTM
  have c37 : wr.cell? ⟨Lj.b .ker, 37, none⟩ = some (.int .i64 kj.ticks) := (hKj.ker.cell 37).trans kerCells_37
  have c38 : wr.cell? ⟨Lj.b .ker, 38, none⟩ = some (.int .i64 kj.ops) := (hKj.ker.cell 38).trans kerCells_38
  have f38 := hKj.ker.frozen 38
  rw [eK] at c37 c38 f38
  clear hKj hSj hBj hOj hEj hrj
  rcases OJ.out.inv.running with hrun | ⟨i, hrun, hi, hst⟩
  ·rw [hrun] at HR
   have HRUN := zh hrun
   clear hrun
   rcases htm : kj.timed with _ | _
   ·rw [htm] at HTM
    have EF : Hid (Kn.K.run ticks ops f k = kj) := EJ.out.trans (run_none (round_idle HRUN.out (.inl htm)))
    clear htm
    go_wp2_with (first | (go_at_call 40; refine HR.out.mono ?_; rintro e w2 ⟨rfl, rfl⟩) | (go_at_call 41; refine HTM.out.mono ?_; rintro e w2 ⟨rfl, rfl⟩))
    go_end0
    rw [EF.out]
    exact ⟨rfl, Lj, KJ.out, SJ.out, BJ.out⟩
   ·rw [htm] at HTM
    by_cases htk : ticks ≤ kj.ticks
    ·have EF : Hid (Kn.K.run ticks ops f k = kj) := EJ.out.trans (run_none (round_idle HRUN.out (.inr htk)))
     have hd : decide (ticks ≤ kj.ticks) = true := zu htk
     have hd2 : decide ((ticks : Int) ≤ (kj.ticks : Int)) = true := zu (by omega)
     clear htm
     go_wp2_with (first | (go_at_call 40; refine HR.out.mono ?_; rintro e w2 ⟨rfl, rfl⟩) | (go_at_call 41; refine HTM.out.mono ?_; rintro e w2 ⟨rfl, rfl⟩))
     go_end0
     rw [EF.out]
     exact ⟨rfl, Lj, KJ.out, SJ.out, BJ.out⟩
    ·have hro := round_tick (ops := ops) HRUN.out htm htk
     have EF : Hid (Kn.K.run ticks ops f k = Kn.K.run ticks ops fj kj.tick) := EJ.out.trans (run_some hro)
     have OR := zh (OJ.out.round hro)
     have hd : decide (ticks ≤ kj.ticks) = false := decide_eq_false htk
     have hd2 : decide ((ticks : Int) ≤ (kj.ticks : Int)) = false := decide_eq_false (by omega)
     have HTK := zh (tick_any KJ.out OJ.out (by omega) hBr (by omega))
     unfold Lay.ptr at HTK
     rw [eK] at HTK
     clear htm hro
     go_wp2_with (first | (go_at_call 40; refine HR.out.mono ?_; rintro e w2 ⟨rfl, rfl⟩) | (go_at_call 41; refine HTM.out.mono ?_; rintro e w2 ⟨rfl, rfl⟩) | (go_at_call 42; refine HTK.out.mono ?_; rintro e w2 ⟨rfl, L2, k2, s2, b2⟩))
     have K2 := zh k2
     have S2 := zh s2
     have B2 := zh b2
     clear k2 s2 b2
     go_roundg fj
     case measure => omega
     case rel =>
      obtain ⟨o1, o2, o3, o4, o5⟩ := OR.out
      exact ⟨kj.tick, L2, fj, K2.out, SJ.out.trans S2.out, BJ.out.trans B2.out, o1, o2.tasks.trans htj, o4 htkj, o5 hopj, by have := RJ.out; omega, EF.out, zl _⟩
  ·rw [hrun] at HR
   have HRUN := zh hrun
   clear hrun HTM
   have ii : (i : Int) < k.tasks.length := by omega
   have ii0 : (0 : Int) ≤ i := by omega
   by_cases hop : ops ≤ kj.ops
   ·have EF : Hid (Kn.K.run ticks ops f k = kj) := EJ.out.trans (run_none (round_full HRUN.out hop))
    have hd : decide (ops ≤ kj.ops) = true := zu hop
    have hd2 : decide ((ops : Int) ≤ (kj.ops : Int)) = true := zu (by omega)
    go_wp2_with (go_at_call 40; refine HR.out.mono ?_; rintro e w2 ⟨rfl, rfl⟩)
    go_end0
    rw [EF.out]
    exact ⟨rfl, Lj, KJ.out, SJ.out, BJ.out⟩
   ·have hd : decide (ops ≤ kj.ops) = false := decide_eq_false hop
    have hd2 : decide ((ops : Int) ≤ (kj.ops : Int)) = false := decide_eq_false (by omega)
    have eT : Lj.b (.t i) = L.b (.t i) := SJ.out (.t i) rfl
    have a0 := KJ.out.tasksHead (by omega)
    have a1 := KJ.out.taskPtr hi
    have wt := KJ.out.task hi
    rw [eK, eA, htj] at a0
    rw [eA, eT] at a1
    rw [eT] at wt
    have t0 : wr.cell? ⟨L.b (.t i), 0, none⟩ = some (.slice (Lj.opA i) (kT kj i).ops.length (Lj.cap (.o i))) := wt.cell 0
    have t4 : wr.cell? ⟨L.b (.t i), 4, none⟩ = some (.int .i64 ((kT kj i).place : Int)) := wt.cell 4
    have g := OJ.out.good.task i hi
    have g3 := g.few
    have g7 := g.place
    rw [← kT_ti] at g3 g7
    clear wt g
    by_cases hpl : (kT kj i).ops.length ≤ (kT kj i).place
    ·have hro := round_end (ticks := ticks) HRUN.out hop hpl
     have EF : Hid (Kn.K.run ticks ops f k = Kn.K.run ticks ops fj ((kj.fin i).anew i)) := EJ.out.trans (run_some hro)
     have OR := zh (OJ.out.round hro)
     have OF := zh (OJ.out.fin hi hst)
     have HE := zh (fun n => end_any (w := wr.drewN n) (KJ.out.below ((zr _ _).drewN' n)) OJ.out.fine (by decide) hi hBr)
     unfold Lay.ptr at HE
     rw [eK] at HE
     obtain ⟨nop, hnop⟩ : ∃ x, x = (kT kj i).ops.length := ⟨_, rfl⟩
     obtain ⟨pl, hple⟩ : ∃ x, x = (kT kj i).place := ⟨_, rfl⟩
     rw [← hnop] at t0 hpl g3 g7
     rw [← hple] at t4 hpl g7
     have hd3 : decide (nop ≤ pl) = true := zu hpl
     have hd4 : decide ((nop : Int) ≤ (pl : Int)) = true := zu (by omega)
     clear hro hnop hple
     go_upto_region 8 with (go_at_call 40; refine HR.out.mono ?_; rintro e w2 ⟨rfl, rfl⟩)
     refine zy ?_
     repeat go_big_quiet_step (fail)
     refine wpQuiet_nil ?_
     intro _ hw'
     obtain ⟨n1, hw''⟩ := hw'
     subst hw''
     go_upto_region 10 with (go_at_call 43; refine (HE.out _).mono ?_; rintro e w3 ⟨rfl, L2, k2, s2, b2, _⟩)
     have HAN := zh (anew_any (i : Int) k2 OF.out.1 (by rw [OF.out.2.1.tasks]; omega) (by have := b2.size; have : wr.heap.size ≤ w3.heap.size := this; omega))
     have eK2 : L2.b .ker = L.b .ker := (s2 .ker rfl).trans eK
     unfold Lay.ptr at HAN
     rw [eK2] at HAN
     have S2 := zh s2
     have B2 := zh b2
     clear k2 s2 b2 a0 a1 t0 t4
     go_wp2_with (go_at_call 44; refine HAN.out.mono ?_; rintro e w4 ⟨rfl, L3, k3, s3, b3⟩)
     have K3 := zh k3
     have S3 := zh s3
     have B3 := zh b3
     clear k3 s3 b3
     go_roundg fj
     case measure => omega
     case rel =>
      obtain ⟨o1, o2, o3, o4, o5⟩ := OR.out
      exact ⟨_, L3, fj, K3.out, (SJ.out.trans S2.out).trans S3.out, ((BJ.out.drewN' _).trans B2.out).trans B3.out, o1, o2.tasks.trans htj, o4 htkj, o5 hopj, by have := RJ.out; omega, EF.out, zl _⟩
    ·have hro := round_do (ticks := ticks) HRUN.out hop hpl
     have EF : Hid (Kn.K.run ticks ops f k = Kn.K.run ticks ops fj ((({ kj with ops := kj.ops + 1 } : Kn.K).do_ i).anew i)) := EJ.out.trans (run_some hro)
     have OR := zh (OJ.out.round hro)
     have hout := OJ.out.good.out
     have O1 : Hid (Kn.Ok { kj with ops := kj.ops + 1 }) := (OJ.out.nums (k' := { kj with ops := kj.ops + 1 }) rfl (fun _ _ => rfl) OJ.out.inv.lens rfl rfl rfl OJ.out.good.sems OJ.out.good.owner OJ.out.good.que (by show kj.out.length ≤ kj.ops + 1; omega)).1
     have OF := zh (O1.out.do_ (i := i) hi hst (by show kj.out.length < kj.ops + 1; omega) (by show (kT kj i).place < (kT kj i).ops.length; omega))
     have hKO := fun n => (KJ.out.below (w' := wr.drewN n) ((zr _ _).drewN' n)).putOps (kj.ops + 1)
     have HD := zh (fun n => do_any (hKO n) O1.out hi (by rw [World.size_setCell]; exact hBr) hst (by show (kT kj i).place < (kT kj i).ops.length; omega) (by show kj.out.length ≤ 1000000; omega))
     unfold Lay.ptr CallPost at HD
     rw [eK] at HD
     have hlowK := KJ.out.low .ker trivial
     rw [eK] at hlowK
     have hwo : IntKind.i64.wrap ((kj.ops : Int) + 1) = (kj.ops : Int) + 1 := by rw [IntKind.wrap_i64]; omega
     obtain ⟨nop, hnop⟩ : ∃ x, x = (kT kj i).ops.length := ⟨_, rfl⟩
     obtain ⟨pl, hple⟩ : ∃ x, x = (kT kj i).place := ⟨_, rfl⟩
     rw [← hnop] at t0 hpl g3 g7
     rw [← hple] at t4 hpl g7
     have hd3 : decide (nop ≤ pl) = false := decide_eq_false hpl
     have hd4 : decide ((nop : Int) ≤ (pl : Int)) = false := decide_eq_false (by omega)
     clear hro hnop hple hKO
     go_upto_region 8 with (go_at_call 40; refine HR.out.mono ?_; rintro e w2 ⟨rfl, rfl⟩)
     refine zy ?_
     repeat go_big_quiet_step (fail)
     refine wpQuiet_nil ?_
     intro _ hw'
     obtain ⟨n1, hw''⟩ := hw'
     subst hw''
     go_upto_region 3 with (go_at_call 45; refine (HD.out _).mono ?_; rintro e w3 ⟨rfl, L2, k2, s2, b2⟩)
     have hz3 : wr.heap.size ≤ w3.heap.size := by have := b2.size; rw [World.size_setCell] at this; exact this
     have HAN := zh (anew_any (i : Int) k2 OF.out.1 (by rw [OF.out.2.tasks]; show 0 < kj.tasks.length; omega) (by omega))
     have eK2 : L2.b .ker = L.b .ker := (s2 .ker rfl).trans eK
     unfold Lay.ptr at HAN
     rw [eK2] at HAN
     have S2 := zh s2
     have B2 := zh b2
     clear k2 s2 b2 a0 a1 t0 t4
     go_wp2_with (go_at_call 44; refine HAN.out.mono ?_; rintro e w4 ⟨rfl, L3, k3, s3, b3⟩)
     have K3 := zh k3
     have S3 := zh s3
     have B3 := zh b3
     clear k3 s3 b3
     go_roundg fj
     case measure => omega
     case rel =>
      obtain ⟨o1, o2, o3, o4, o5⟩ := OR.out
      exact ⟨_, L3, fj, K3.out, (SJ.out.trans S2.out).trans S3.out, (((BJ.out.drewN' _).setCell (p := ⟨L.b .ker, 38, none⟩) hlowK _).trans B2.out).trans B3.out, o1, o2.tasks.trans htj, o4 htkj, o5 hopj, by have := RJ.out; omega, EF.out, zl _⟩
end Go.Proofs.Ytncbgnpoffolcaa
/-! The shape of an operation: the walk of the given table, and of the document's names. -/
namespace Go.Proofs.Ytncbgnpoffolcaa
open Go.RowKit
/-- An operation's name, its parts, and its bounds: the least b, the greatest a, the greatest b. -/
structure Shape where
 name : List UInt8
 parts : Nat
 low : Int
 a : Int
 b : Int
def shapes : List Shape :=
 [⟨[112, 117, 116], 1, 0, 255, 0⟩, ⟨[121, 105, 101, 108, 100], 0, 0, 0, 0⟩, ⟨[100, 101, 108, 97, 121], 1, 0, 1000, 0⟩, ⟨[116, 97, 107, 101], 2, -1, 15, 1000⟩,
  ⟨[103, 105, 118, 101], 1, 0, 15, 0⟩, ⟨[108, 111, 99, 107], 1, 0, 15, 0⟩, ⟨[117, 110, 108, 111, 99, 107], 1, 0, 15, 0⟩, ⟨[115, 101, 110, 100], 2, 0, 15, 1000⟩, ⟨[114, 101, 99, 118], 1, 0, 15, 0⟩,
  ⟨[115, 104, 111, 119], 0, 0, 0, 0⟩, ⟨[108, 111, 111, 112], 2, 1, 100, 20⟩, ⟨[98, 97, 100], 0, 0, 0, 0⟩, ⟨[112, 111, 107, 101], 0, 0, 0, 0⟩, ⟨[112, 114, 105, 111], 1, 0, 31, 0⟩, ⟨[119, 104, 111], 0, 0, 0, 0⟩]
/-- A shape's cells. -/
def shapeC (s : Shape) : List Value := [strV s.name, .int .i64 s.parts, .int .i64 s.low, .int .i64 s.a, .int .i64 s.b]
/-- All shapes' cells. -/
def shapeCells : Array Value := (shapes.flatMap shapeC).toArray
theorem shapeCells_at (k j : Nat) (hk : k < 15) (hj : j < 5) : shapeCells[k * 5 + j]? = (shapeC (shapes[k]'hk))[j]? := by
 unfold shapeCells
 rw [za]
 exact flat_at (f := shapeC) (n := 5) (fun _ => rfl) shapes k j hk hj
/-- The world behind the table. -/
noncomputable def shapeW (w : World) : World := ((w.alloc (.cells #[.string ⟨#[]⟩, .int .i64 0, .int .i64 0, .int .i64 0, .int .i64 0] 104)).alloc (.cells Try.zeroCells118 118)).setRow (w.heap.size + 1) shapeCells
theorem shapeW_facts (w : World) : Whole (shapeW w) w.heap.size 104 #[.string ⟨#[]⟩, .int .i64 0, .int .i64 0, .int .i64 0, .int .i64 0] ∧ Whole (shapeW w) (w.heap.size + 1) 118 shapeCells ∧ Below w.heap.size w (shapeW w) := by
 refine ⟨?_, ?_, ?_⟩
 ·show (World.setRow _ _ _).heap[_]? = _
  rw [setRow_other _ _ _ _ (by omega)]
  exact heap_alloc2_old _ _ _
 ·exact setRow_heap _ _ _ _ _ _ (heap_alloc2_new _ _ _)
 ·refine (((zr _ _).alloc (zl _) _).alloc (by simp) _).trans ⟨rfl, rfl, rfl, by show _ ≤ (World.setRow _ _ _).heap.size; rw [setRow_size]; exact zl _, fun k hk => setRow_other _ _ _ _ (by omega)⟩
def shapeV (s : Shape) : Value := .agg #[strV s.name, .int .i64 s.parts, .int .i64 s.low, .int .i64 s.a, .int .i64 s.b]
set_option maxRecDepth 100000 in
set_option maxHeartbeats 4000000 in
theorem shape_any (w : World) (k : Nat) (hk : k < 15) :
 Calls Try.prog 52 #[.int .i64 k] w fun e w' => e = .returned (.tuple #[shapeV (shapes[k]'hk), .bool true]) ∧ Below w.heap.size w w' := by
 have hk' : (k : Int) < 15 := by omega
 obtain ⟨S, hS⟩ : ∃ S, S = shapes[k]'hk := ⟨_, rfl⟩
 rw [← hS]
 have q0' := (shapeCells_at k 0 hk (by omega))
 have q1' := (shapeCells_at k 1 hk (by omega))
 have q2' := (shapeCells_at k 2 hk (by omega))
 have q3' := (shapeCells_at k 3 hk (by omega))
 have q4' := (shapeCells_at k 4 hk (by omega))
 rw [← hS] at q0' q1' q2' q3' q4'
 clear hS
 have q0 := zh q0'
 have q1 := zh q1'
 have q2 := zh q2'
 have q3 := zh q3'
 have q4 := zh q4'
 clear q0' q1' q2' q3' q4'
 obtain ⟨nm, parts, low, a, b⟩ := S
 go_enter Try.func52, Try.ntmps52
 go_upto_region 2 with (first | (refine wpList_buildTo rfl 118 _ rfl (some 20) rfl shapeCells (by as_aux_lemma => kernel_rfl) ?_) | (refine wpList_store_row rfl 118 _ _ rfl (w.heap.size + 1) shapeCells rfl rfl 118 Try.zeroCells118 (heap_alloc2_new w _ _) (by as_aux_lemma => kernel_rfl) (by as_aux_lemma => kernel_rfl) (by as_aux_lemma => kernel_rfl) ?_))
 obtain ⟨f1, f2, f3⟩ := shapeW_facts w
 change Code.wp _ _ _ _ (shapeW w)
 generalize shapeW w = W2 at *
 have k0 := (f2.cell (k * 5)).trans q0.out
 have k1 := (f2.cell (k * 5 + 1)).trans q1.out
 have k2 := (f2.cell (k * 5 + 2)).trans q2.out
 have k3 := (f2.cell (k * 5 + 3)).trans q3.out
 have k4 := (f2.cell (k * 5 + 4)).trans q4.out
 have c0 := f1.cell 0
 have c1 := f1.cell 1
 have c2 := f1.cell 2
 have c3 := f1.cell 3
 have c4 := f1.cell 4
 have fz0 := f1.frozen 0
 have fz1 := f1.frozen 1
 have fz2 := f1.frozen 2
 have fz3 := f1.frozen 3
 have fz4 := f1.frozen 4
 have hz := f3.size
 have hg : ¬ w.heap.size + 1 = w.heap.size := by omega
 simp [shapeC, strV] at c0 c1 c2 c3 c4 k0 k1 k2 k3 k4
 go_wp2_with fail
 refine bodyPost_ret (v := .tuple #[shapeV ⟨nm, parts, low, a, b⟩, .bool true]) (by simp [results, Try.results52, go_sem, c0, c1, c2, c3, c4, shapeV, strV]) rfl ?_
 exact ⟨rfl, ((((f3.setCell (zl _) _).setCell (zl _) _).setCell (zl _) _).setCell (zl _) _).setCell (zl _) _⟩
set_option maxRecDepth 100000 in
set_option maxHeartbeats 4000000 in
theorem shape_none (w : World) (k : Int) (hk : k < 0 ∨ 15 ≤ k) :
 Calls Try.prog 52 #[.int .i64 k] w fun e w' => e = .returned (.tuple #[shapeV ⟨[], 0, 0, 0, 0⟩, .bool false]) ∧ Below w.heap.size w w' := by
 have hd : decide (k < 0) = true ∨ (decide (k < 0) = false ∧ decide (15 ≤ k) = true) := by
  rcases hk with h | h
  ·exact .inl (zu h)
  ·exact .inr ⟨decide_eq_false (by omega), zu h⟩
 go_enter Try.func52, Try.ntmps52
 go_upto_region 2 with (first | (refine wpList_buildTo rfl 118 _ rfl (some 20) rfl shapeCells (by as_aux_lemma => kernel_rfl) ?_) | (refine wpList_store_row rfl 118 _ _ rfl (w.heap.size + 1) shapeCells rfl rfl 118 Try.zeroCells118 (heap_alloc2_new w _ _) (by as_aux_lemma => kernel_rfl) (by as_aux_lemma => kernel_rfl) (by as_aux_lemma => kernel_rfl) ?_))
 obtain ⟨f1, f2, f3⟩ := shapeW_facts w
 change Code.wp _ _ _ _ (shapeW w)
 generalize shapeW w = W2 at *
 have c0 := f1.cell 0
 have c1 := f1.cell 1
 have c2 := f1.cell 2
 have c3 := f1.cell 3
 have c4 := f1.cell 4
 have fz0 := f1.frozen 0
 have fz1 := f1.frozen 1
 have fz2 := f1.frozen 2
 have fz3 := f1.frozen 3
 have fz4 := f1.frozen 4
 have hz := f3.size
 simp at c0 c1 c2 c3 c4
 rcases hk with hk | hk
 ·go_wp2_with fail
  refine bodyPost_ret (v := .tuple #[shapeV ⟨[], 0, 0, 0, 0⟩, .bool false]) (by simp [results, Try.results52, go_sem, c0, c1, c2, c3, c4, shapeV, strV]) rfl ?_
  exact ⟨rfl, ((((f3.setCell (zl _) _).setCell (zl _) _).setCell (zl _) _).setCell (zl _) _).setCell (zl _) _⟩
 ·have hk2 : ¬ k < 0 := by omega
  go_wp2_with fail
  refine bodyPost_ret (v := .tuple #[shapeV ⟨[], 0, 0, 0, 0⟩, .bool false]) (by simp [results, Try.results52, go_sem, c0, c1, c2, c3, c4, shapeV, strV]) rfl ?_
  exact ⟨rfl, ((((f3.setCell (zl _) _).setCell (zl _) _).setCell (zl _) _).setCell (zl _) _).setCell (zl _) _⟩
end Go.Proofs.Ytncbgnpoffolcaa
