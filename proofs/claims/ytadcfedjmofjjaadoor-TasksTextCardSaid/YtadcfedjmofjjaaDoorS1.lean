/-
  Are two tables one? The walks of the document's SameInts and SameTable, at tables that are.
-/
import Derived.Test.YtadcfedjmofjjaaDoorC3
import Derived.Deep.QuietTactic
import Derived.BigQuiet
namespace Go.Proofs.YtadcfedjmofjjaaDoor
open Go.RowKit
set_option maxRecDepth 100000 in
set_option maxHeartbeats 4000000 in
theorem sameInts_any {w : World} {B1 B2 : Nat} {A1 A2 : Option Addr} {c1 c2 : Nat} {l : List Int} (h1 : Reads w B1 1 A1 l.length (intV l)) (h2 : Reads w B2 1 A2 l.length (intV l)) (hl : l.length ≤ maxLen) :
    Calls Tryd.prog 26 #[.slice A1 l.length c1, .slice A2 l.length c2] w fun e w' => e = .returned (.bool true) ∧ Below w.heap.size w w' := by
  unfold maxLen at hl
  have H1 := Lib.hid h1
  have H2 := Lib.hid h2
  clear h1 h2
  go_enter Tryd.func26, Tryd.ntmps26
  go_wp2_with fail
  go_loopg [5] l.length (fun kk i wr => ∃ k : Nat, k ≤ l.length ∧ i = .int .i64 k ∧ (∃ n, wr = w.drewN n) ∧ l.length - k ≤ kk)
  case atStart => exact ⟨0, Nat.zero_le _, rfl, ⟨0, rfl⟩, by omega⟩
  case round =>
    obtain ⟨k, hk, rfl, ⟨n, rfl⟩, hkk⟩ := hrel
    by_cases hlt : k < l.length
    · have hlt' : (k : Int) < l.length := by omega
      obtain ⟨ad1, e1, had1, hc1⟩ := H1.out.int hlt
      obtain ⟨ad2, e2, had2, hc2⟩ := H2.out.int hlt
      subst e1
      subst e2
      generalize l[k] = x at *
      go_wp2
      go_quiet (fail)
      go_wp2_with fail
      go_roundg (l.length - (k + 1))
      case measure => omega
      case rel => exact ⟨k + 1, by omega, by go_num, ⟨_, rfl⟩, Nat.le_refl _⟩
    · have hge : ¬ (k : Int) < l.length := by omega
      go_wp2_with fail
      go_ret
      exact ⟨rfl, (Below.refl _ _).drewN' n⟩
def tabV (A1 A2 A3 : Option Addr) (c1 c2 c3 : Nat) (t : Tk.Table) : Array Value := #[.slice A1 t.tasks.length c1, .slice A2 t.sems.length c2, .int .i64 t.mutexes, .slice A3 t.queues.length c3]
set_option maxRecDepth 100000 in
set_option maxHeartbeats 8000000 in
theorem sameTable_any {w : World} {A1 A2 A3 B1 B2 B3 : Option Addr} {a1 a2 a3 b1 b2 b3 : Nat} {t : Tk.Table} (h1 : TabRd w w.heap.size A1 A2 A3 t) (h2 : TabRd w w.heap.size B1 B2 B3 t) :
    Calls Tryd.prog 12 #[.agg #[.slice A1 t.tasks.length a1, .slice A2 t.sems.length a2, .int .i64 t.mutexes, .slice A3 t.queues.length a3],
        .agg #[.slice B1 t.tasks.length b1, .slice B2 t.sems.length b2, .int .i64 t.mutexes, .slice B3 t.queues.length b3]] w fun e w' => e = .returned (.bool true) ∧ Below w.heap.size w w' := by
  have l1 := h1.tasksL
  have l2 := h1.semsL
  have l3 := h1.queuesL
  have L2 := Lib.hid l2
  have L3 := Lib.hid l3
  unfold maxLen at l1 l2 l3
  have H1 := Lib.hid h1
  have H2 := Lib.hid h2
  clear h1 h2
  obtain ⟨w0, ew0⟩ : ∃ w0, w0 = (w.alloc (.cells #[.slice A1 t.tasks.length a1, .slice A2 t.sems.length a2, .int .i64 t.mutexes, .slice A3 t.queues.length a3] 26)).alloc (.cells #[.slice B1 t.tasks.length b1, .slice B2 t.sems.length b2, .int .i64 t.mutexes, .slice B3 t.queues.length b3] 26) := ⟨_, rfl⟩
  have bw0 : Below w.heap.size w w0 := by rw [ew0]; exact ((Below.refl _ _).alloc (Nat.le_refl _) _).alloc (by simp) _
  have z0 : w0.heap.size = w.heap.size + 2 := by rw [ew0]; simp
  have g0 : ∀ i, w0.cell? ⟨w.heap.size, i, none⟩ = (#[.slice A1 t.tasks.length a1, .slice A2 t.sems.length a2, .int .i64 t.mutexes, .slice A3 t.queues.length a3] : Array Value)[i]? := by
    intro i
    rw [ew0]
    exact (Whole.alloc (Whole.made w 26 _) _).cell i
  have g1 : ∀ i, w0.cell? ⟨w.heap.size + 1, i, none⟩ = (#[.slice B1 t.tasks.length b1, .slice B2 t.sems.length b2, .int .i64 t.mutexes, .slice B3 t.queues.length b3] : Array Value)[i]? := by
    intro i
    rw [ew0]
    simp
  have G0 := Lib.hid g0
  have G1 := Lib.hid g1
  have EW := Lib.hid ew0
  have Z0 := Lib.hid z0
  clear g0 g1 ew0 z0
  go_enter Tryd.func12, Tryd.ntmps12
  go_wp2_with fail
  rw [← EW.out]
  refine (sameInts_any (H1.out.sems.below bw0 (Nat.le_refl _)) (H2.out.sems.below bw0 (Nat.le_refl _)) L2.out).mono ?_
  rintro e w1 ⟨rfl, bw1⟩
  have f0 := fun i => (bw1.cell (p := ⟨w.heap.size, i, none⟩) (by have := Z0.out; simp; omega)).trans (G0.out i)
  have f1 := fun i => (bw1.cell (p := ⟨w.heap.size + 1, i, none⟩) (by have := Z0.out; simp; omega)).trans (G1.out i)
  have f00 := f0 0
  have f03 := f0 3
  have f10 := f1 0
  have f13 := f1 3
  simp at f00 f03 f10 f13
  clear f0 f1
  go_wp2_with fail
  have bw01 := bw0.trans (bw1.mono bw0.size)
  refine (sameInts_any (H1.out.queues.below bw01 (Nat.le_refl _)) (H2.out.queues.below bw01 (Nat.le_refl _)) L3.out).mono ?_
  rintro e w2 ⟨rfl, bw2⟩
  have bw02 := bw1.trans (bw2.mono bw1.size)
  clear f00 f03 f10 f13 bw01 bw1 bw2
  go_wp2_with fail
  go_loopg [5] t.tasks.length (fun kk i wr => ∃ k : Nat, k ≤ t.tasks.length ∧ i = .int .i64 k ∧ Below w0.heap.size w0 wr ∧ t.tasks.length - k ≤ kk)
  case atStart => exact ⟨0, Nat.zero_le _, rfl, bw02, by omega⟩
  case round =>
    obtain ⟨j, hj, rfl, hb, hkk⟩ := hrel
    obtain ⟨wo, rfl⟩ : ∃ wo : World, wo = wr := ⟨_, rfl⟩
    have f0 := fun i => (hb.cell (p := ⟨w.heap.size, i, none⟩) (by have := Z0.out; simp; omega)).trans (G0.out i)
    have f1 := fun i => (hb.cell (p := ⟨w.heap.size + 1, i, none⟩) (by have := Z0.out; simp; omega)).trans (G1.out i)
    have f00 := f0 0
    have f10 := f1 0
    simp at f00 f10
    clear f0 f1
    have hbw := bw0.trans (hb.mono bw0.size)
    by_cases hlt : j < t.tasks.length
    · have hlt' : (j : Int) < t.tasks.length := by omega
      obtain ⟨ad, A, c, eA, had, hc0', hc1', hro, hln⟩ := H1.out.task j hlt
      obtain ⟨ad', A', c', eA', had', hd0', hd1', hro', hln'⟩ := H2.out.task j hlt
      subst eA
      subst eA'
      have hc0 := (hbw.cell (p := ad.add (j * 2)) (by rw [block_of_add]; exact had)).trans hc0'
      have hc1 := (hbw.cell (p := ad.add (j * 2 + 1)) (by rw [block_of_add]; exact had)).trans hc1'
      have hd0 := (hbw.cell (p := ad'.add (j * 2)) (by rw [block_of_add]; exact had')).trans hd0'
      have hd1 := (hbw.cell (p := ad'.add (j * 2 + 1)) (by rw [block_of_add]; exact had')).trans hd1'
      clear hc0' hc1' hd0' hd1' hln'
      generalize t.tasks[j] = x at *
      obtain ⟨pr, ops⟩ := x
      have hc1' : wo.cell? ⟨(ad.add (j * 2)).block, (ad.add (j * 2)).off + 1, none⟩ = some (.slice A ops.length c) := by rw [← add_pos _ 1 (by decide), add_of_add]; exact hc1
      have hd1' : wo.cell? ⟨(ad'.add (j * 2)).block, (ad'.add (j * 2)).off + 1, none⟩ = some (.slice A' ops.length c') := by rw [← add_pos _ 1 (by decide), add_of_add]; exact hd1
      unfold maxLen at hln
      have hln' : ops.length ≤ 9223372036854775807 := by omega
      have HRO := Lib.hid hro
      have HRO' := Lib.hid hro'
      clear hro hro' hln
      go_wp2
      go_quiet (fail)
      go_wp2_with fail
      go_loopg [6] ops.length (fun k2 i wx => ∃ m : Nat, m ≤ ops.length ∧ i = .int .i64 m ∧ (∃ n, wx = wo.drewN n) ∧ ops.length - m ≤ k2)
      case atStart => exact ⟨0, Nat.zero_le _, rfl, ⟨_, rfl⟩, by omega⟩
      case round =>
        obtain ⟨m, hm, rfl, ⟨n, rfl⟩, hk2⟩ := hrel
        by_cases hlm : m < ops.length
        · have hlm' : (m : Int) < ops.length := by omega
          obtain ⟨ad2, eA2, had2, o0, o1, o2⟩ := (HRO.out.below hbw (Nat.le_refl _)).op hlm
          obtain ⟨ad3, eA3, had3, p0, p1, p2⟩ := (HRO'.out.below hbw (Nat.le_refl _)).op hlm
          subst eA2
          subst eA3
          generalize ops[m] = o at *
          have o1' := o1
          have o2' := o2
          rw [← add_of_add, add_pos _ _ (by decide)] at o1' o2'
          have p1' := p1
          have p2' := p2
          rw [← add_of_add, add_pos _ _ (by decide)] at p1' p2'
          go_wp2
          go_quiet (fail)
          go_wp2_with fail
          go_roundg (ops.length - (m + 1))
          case measure => omega
          case rel => exact ⟨m + 1, by omega, by go_num, ⟨_, rfl⟩, Nat.le_refl _⟩
        · have hgm : ¬ (m : Int) < ops.length := by omega
          go_wp2_with fail
          go_roundg (t.tasks.length - (j + 1))
          case measure => omega
          case rel => exact ⟨j + 1, by omega, by go_num, hb.drewN' n, Nat.le_refl _⟩
    · have hge2 : ¬ (j : Int) < t.tasks.length := by omega
      go_wp2_with fail
      go_ret
      exact ⟨rfl, hbw⟩
end Go.Proofs.YtadcfedjmofjjaaDoor
