/-
  Slices of numbers, and a table, that came in, opened: they can be read.
-/
import Derived.Test.YtncbgnpoffolcaaM15
import Derived.Test.YtncbgnpoffolcaaRows
import Derived.Deep.Slices
import Derived.Deep.Fields
import Derived.Lib.SmallJoins
import Derived.ChangeSlices
import Derived.ChangeOld
namespace Go.Proofs.Ytncbgnpoffolcaa
open Go.RowKit Go.Proofs Go.ChangeShapes Go.WideShapes Go.Deep
instance : Inhabited Kn.Op := ⟨⟨0, 0, 0⟩⟩
instance : Inhabited Kn.Task := ⟨⟨0, []⟩⟩
section
variable {H : Type} {enc : TypeId × Value → H} {W : World} {held : Bool}
theorem lt_of_cell {p : Addr} {v : Value} (h : W.cell? p = some v) : p.block < W.heap.size := World.block_lt_of_cell? W p (by rw [h])
set_option maxRecDepth 100000 in
theorem open_intsR {fuel : Nat} {cs : List Value} {x : DataW H × List MemPlace} (h : DataW.trod enc Try.prog W 0 (fun _ => true) held fuel 24 cs = some x) :
 ∃ (A : Option Addr) (c : Nat) (zs : List Int), cs = [.slice A zs.length c] ∧ Reads W W.heap.size 1 A zs.length (intV zs) ∧ zs.length ≤ c ∧ c ≤ maxLen := by
 rcases open_ints Try.underlying24 Try.underlying3 (by kernel_rfl) h with ⟨rfl, _⟩ | ⟨a, l, c, zs, rfl, hb, hl, hm, hz, _, hcell, hwz⟩
 ·exact ⟨none, 0, [], rfl, Reads.none_, zl _, Nat.zero_le _⟩
 ·simp only [if_true] at hz
  have hlen : (zs.take l).length = l := by rw [List.length_take]; omega
  refine ⟨some a, c, zs.take l, by rw [hlen], ⟨by simp [intV], fun h0 => ?_⟩, by omega, hm⟩
  have hc : ∀ k u, (intV (zs.take l))[k]? = some u → W.cell? (a.add k) = some u := by
   intro k u hu
   have hk : k < l := by
    have := (List.getElem?_eq_some_iff.1 hu).1
    simp [intV] at this
    omega
   rw [hcell k (by omega), ← hu]
   have hkz : k < zs.length := by omega
   simp [intV, hk, hkz]
  have h1 := hc 0 _ (by rw [List.getElem?_eq_getElem (by simp [intV]; rw [hlen] at h0; omega)])
  exact ⟨a, rfl, by have := lt_of_cell h1; rw [block_of_add] at this; exact this, hc⟩
set_option maxRecDepth 100000 in
theorem open_opsR {fuel : Nat} {cs : List Value} {x : DataW H × List MemPlace} (h : DataW.trod enc Try.prog W 0 (fun _ => true) held fuel 27 cs = some x) (hw : (x.1.weights Try.prog 27).all (· ≤ reachBytes) = true) :
 ∃ (A : Option Addr) (c : Nat) (l : List Kn.Op), cs = [.slice A l.length c] ∧ Reads W W.heap.size 3 A l.length (opsC l) ∧ l.length ≤ c ∧ c ≤ maxLen ∧ c * 24 ≤ reachBytes := by
 rcases open_slice Try.underlying27 h with ⟨rfl, _⟩ | ⟨a, len, cap, m, n, D, Pl, rfl, hb, hl, hm, hmm, rfl, hx⟩
 ·exact ⟨none, 0, [], rfl, ⟨rfl, fun h => absurd h (by simp)⟩, zl _, Nat.zero_le _, by decide⟩
 ·simp only [if_true] at hmm
  subst hmm
  have ce : Try.prog.cellsOf 32 = 3 := by kernel_rfl
  have be : Try.prog.bytesOf 32 = 24 := by kernel_rfl
  have each : ∀ i, i < m → ∃ o : Kn.Op, W.cell? (a.add (i * 3)) = some (.int .i64 o.kind) ∧ W.cell? (a.add (i * 3 + 1)) = some (.int .i64 o.a) ∧ W.cell? (a.add (i * 3 + 2)) = some (.int .i64 o.b) := by
   intro i hi
   obtain ⟨cs', h1, h2⟩ := hx i hi
   rw [ce] at h1
   obtain ⟨_, hlen, hcell⟩ := World.cells?_some h1
   obtain ⟨xs, k, hk, hxy, _, hxl, hf⟩ := DataW.trod_struct Try.underlying32 h2
   match cs', hlen with
   | [v0, v1, v2], _ =>
     have g0 := hf 0 _ rfl
     have g1 := hf 1 _ rfl
     have g2 := hf 2 _ rfl
     have c3 : Try.prog.cellsOf 3 = 1 := by kernel_rfl
     simp [c3] at g0 g1 g2
     have e0 := hcell 0 (by omega)
     have e1 := hcell 1 (by omega)
     have e2 := hcell 2 (by omega)
     rw [add_of_add] at e0 e1 e2
     match xs, hxl with
     | [y0, y1, y2], _ =>
       obtain ⟨z0, q0, _, _⟩ := DataW.trod_int Try.underlying3 g0
       obtain ⟨z1, q1, _, _⟩ := DataW.trod_int Try.underlying3 g1
       obtain ⟨z2, q2, _, _⟩ := DataW.trod_int Try.underlying3 g2
       simp at q0 q1 q2
       subst q0 q1 q2
       exact ⟨⟨z0, z1, z2⟩, by simpa using e0, by simpa using e1, by simpa using e2⟩
  obtain ⟨f, hf⟩ := choose_lt each
  have hlen : ((List.range len).map f).length = len := by simp
  refine ⟨some a, m, (List.range len).map f, by rw [hlen], ⟨opsC_len _, fun h0 => ?_⟩, by omega, hm, ?_⟩
  ·rw [hlen] at h0
   refine ⟨a, rfl, ?_, ?_⟩
   ·have := lt_of_cell (hf 0 (by omega)).1
    rw [block_of_add] at this
    exact this
   ·intro k u hu
    have hk : k < len * 3 := by
     have := (List.getElem?_eq_some_iff.1 hu).1
     rw [opsC_len, hlen] at this
     exact this
    have hq : k = k / 3 * 3 + k % 3 := by omega
    have hi : k / 3 < len := by omega
    have hat := opsC_at ((List.range len).map f) (k / 3) (k % 3) (by rw [hlen]; exact hi) (by omega)
    rw [← hq] at hat
    rw [hat] at hu
    have hg : ((List.range len).map f)[k / 3]'(by rw [hlen]; exact hi) = f (k / 3) := by simp
    rw [hg] at hu
    obtain ⟨k1, k2, k3⟩ := hf (k / 3) (by omega)
    have hr : k % 3 = 0 ∨ k % 3 = 1 ∨ k % 3 = 2 := by omega
    rw [hq]
    rcases hr with hr | hr | hr <;> rw [hr] at hu ⊢ <;> simp [opC] at hu <;> subst hu
    ·exact k1
    ·exact k2
    ·exact k3
  ·unfold DataW.weights at hw
   rw [Try.underlying27] at hw
   simp only [List.all_cons, Bool.and_eq_true, decide_eq_true_eq, List.length_map, List.length_range, be] at hw
   have := hw.1
   omega
theorem weights_elem {e : TypeId} {l : List (DataW H)} {d : DataW H} (hd : d ∈ l) (h : (DataW.weightsAll Try.prog e l).all (· ≤ reachBytes) = true) : (d.weights Try.prog e).all (· ≤ reachBytes) = true := by
 induction l with
 | nil => cases hd
 | cons x l ih =>
   rw [DataW.weightsAll, List.all_append, Bool.and_eq_true] at h
   rcases List.mem_cons.1 hd with rfl | hd
   ·exact h.1
   ·exact ih hd h.2
set_option maxRecDepth 100000 in
theorem open_tasksR {fuel : Nat} {cs : List Value} {x : DataW H × List MemPlace} (h : DataW.trod enc Try.prog W 0 (fun _ => true) held fuel 23 cs = some x) (hw : (x.1.weights Try.prog 23).all (· ≤ reachBytes) = true) :
 ∃ (A : Option Addr) (c : Nat) (l : List Kn.Task), cs = [.slice A l.length c] ∧ l.length ≤ c ∧ c ≤ maxLen ∧ (∀ x ∈ l, (x.ops.length : Int) ≤ 140737488355328) ∧
   ∀ i (h : i < l.length), ∃ ad A' c', A = some ad ∧ ad.block < W.heap.size ∧ W.cell? (ad.add (i * 2)) = some (.int .i64 l[i].prio) ∧ W.cell? (ad.add (i * 2 + 1)) = some (.slice A' l[i].ops.length c') ∧
     Reads W W.heap.size 3 A' l[i].ops.length (opsC l[i].ops) ∧ l[i].ops.length ≤ maxLen := by
 rcases open_slice Try.underlying23 h with ⟨rfl, _⟩ | ⟨a, len, cap, m, n, D, Pl, rfl, hb, hl, hm, hmm, rfl, hx⟩
 ·exact ⟨none, 0, [], rfl, zl _, Nat.zero_le _, (by intro _ h; cases h), fun i hi => absurd hi (by simp)⟩
 ·simp only [if_true] at hmm
  subst hmm
  have ce : Try.prog.cellsOf 29 = 2 := by kernel_rfl
  unfold DataW.weights at hw
  rw [Try.underlying23] at hw
  simp only [List.all_cons, Bool.and_eq_true, List.all_append] at hw
  obtain ⟨_, hwe, hws⟩ := hw
  have each : ∀ i, i < len → ∃ (o : Kn.Task), (o.ops.length : Int) ≤ 140737488355328 ∧ ∃ A' c', W.cell? (a.add (i * 2)) = some (.int .i64 o.prio) ∧ W.cell? (a.add (i * 2 + 1)) = some (.slice A' o.ops.length c') ∧
   Reads W W.heap.size 3 A' o.ops.length (opsC o.ops) ∧ o.ops.length ≤ maxLen := by
   intro i hi
   obtain ⟨cs', h1, h2⟩ := hx i (by omega)
   have hwi : ((D i).weights Try.prog 29).all (· ≤ reachBytes) = true := weights_elem (List.mem_map.2 ⟨i, List.mem_range.2 hi, rfl⟩) hwe
   rw [ce] at h1
   obtain ⟨_, hlen, hcell⟩ := World.cells?_some h1
   obtain ⟨xs, k, hk, hxy, _, hxl, hf⟩ := DataW.trod_struct Try.underlying29 h2
   match cs', hlen with
   | [v0, v1], _ =>
     have g0 := hf 0 _ rfl
     have g1 := hf 1 _ rfl
     have c3 : Try.prog.cellsOf 3 = 1 := by kernel_rfl
     have c30 : Try.prog.cellsOf 27 = 1 := by kernel_rfl
     simp [c3, c30] at g0 g1
     have e0 := hcell 0 (by omega)
     have e1 := hcell 1 (by omega)
     rw [add_of_add] at e0 e1
     match xs, hxl with
     | [y0, y1], _ =>
       simp only [Prod.mk.injEq, List.map_cons, List.map_nil] at hxy
       rw [hxy.1] at hwi
       unfold DataW.weights at hwi
       rw [Try.underlying29] at hwi
       simp only [List.map_cons, List.map_nil, DataW.weightsEach, List.all_append, Bool.and_eq_true] at hwi
       obtain ⟨z0, q0, _, _⟩ := DataW.trod_int Try.underlying3 g0
       obtain ⟨A', c', l, q1, r1, r2, r3, r4⟩ := open_opsR g1 hwi.2.1
       simp at q0 q1
       subst q0 q1
       unfold reachBytes at r4
       exact ⟨⟨z0, l⟩, by show (l.length : Int) ≤ _; omega, A', c', by simpa using e0, by simpa using e1, r1, zt r2 r3⟩
  obtain ⟨f, hf⟩ := choose_lt each
  have hlen : ((List.range len).map f).length = len := by simp
  refine ⟨some a, m, (List.range len).map f, by rw [hlen], by omega, hm, ?_, fun i hi => ?_⟩
  ·intro x hx
   obtain ⟨i, hi, rfl⟩ := List.mem_map.1 hx
   exact (hf i (List.mem_range.1 hi)).1
  ·have hi' : i < len := by rw [hlen] at hi; exact hi
   have hg : ((List.range len).map f)[i]'hi = f i := by simp
   rw [hg]
   obtain ⟨_, A', c', r1, r2, r3, r4⟩ := hf i hi'
   refine ⟨a, A', c', rfl, ?_, r1, r2, r3, r4⟩
   have := lt_of_cell r1
   rw [block_of_add] at this
   exact this
set_option maxRecDepth 100000 in
theorem open_table {r : Reach} {b0 : Nat} {v : Value} {d : DataW H} {p : List MemPlace} (hv : Value.okWide Try.prog W r b0 26 v) (h : DataW.Trod enc Try.prog W 0 (fun _ => true) held 26 v d p) (hw : (d.weights Try.prog 26).all (· ≤ reachBytes) = true) :
 ∃ A1 A2 A3 c1 c2 c3 t, v = .agg #[.slice A1 t.tasks.length c1, .slice A2 t.sems.length c2, .int .i64 t.mutexes, .slice A3 t.queues.length c3] ∧ TabRd W W.heap.size A1 A2 A3 t ∧ (∀ x ∈ t.tasks, (x.ops.length : Int) ≤ 140737488355328) := by
 obtain ⟨v0, v1, v2, v3, y0, y1, y2, y3, n, rfl, rfl, rfl, h0, h1, h2, h3⟩ := Joins.open_agg4 Try.underlying26 (by kernel_rfl) (by kernel_rfl) hv h
 unfold DataW.weights at hw
 rw [Try.underlying26] at hw
 simp only [List.map_cons, List.map_nil, DataW.weightsEach, List.all_append, Bool.and_eq_true] at hw
 obtain ⟨A1, c1, l, e1, l1, m1, b1, t1⟩ := open_tasksR h0 hw.1
 obtain ⟨A2, c2, z2, e2, r2, l2, m2⟩ := open_intsR h1
 obtain ⟨mu, e3, _, _⟩ := DataW.trod_int Try.underlying3 h2
 obtain ⟨A3, c3, z3, e4, r3, l3, m3⟩ := open_intsR h3
 simp at e1 e2 e3 e4
 subst e1 e2 e3 e4
 exact ⟨A1, A2, A3, c1, c2, c3, ⟨l, z2, mu, z3⟩, rfl, ⟨t1, r2, r3, zt l1 m1, zt l2 m2, zt l3 m3⟩, b1⟩
end
section
variable {H : Type} {enc : TypeId × Value → H} {W : World} {held : Bool}
end
end Go.Proofs.Ytncbgnpoffolcaa
