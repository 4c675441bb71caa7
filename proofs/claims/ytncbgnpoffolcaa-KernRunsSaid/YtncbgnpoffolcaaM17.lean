/-
  How the kernel begins: what holds between its operations holds at once.
  Two lists get a number each, in whatever order their steps come.
  A region that draws its order, walked by an invariant: each operation is looked at once, whatever came ahead of it.
  What a run of a table leaves; two results.
-/
import Derived.Test.YtncbgnpoffolcaaM3
import Derived.Test.YtncbgnpoffolcaaM1
import Derived.Orders
import Derived.Still
import Derived.StillTail
import Derived.Tactics
import Derived.Tactics2
import Derived.Test.YtncbgnpoffolcaaM14
import Derived.Test.YtncbgnpoffolcaaM16
/-! How the kernel begins: what holds between its operations holds at once. -/
namespace Go.Proofs.Ytncbgnpoffolcaa
namespace Kn
/-- Who stands in a row, of the tasks from the i-th on. -/
def idx : List Task → Nat → Nat → List Int
 | [], _, _ => []
 | x :: r, i, y => if x.prio.toNat = y then (i : Int) :: idx r (i + 1) y else idx r (i + 1) y
theorem idx_cons (x : Task) (r : List Task) (i y : Nat) : idx (x :: r) i y = if x.prio.toNat = y then (i : Int) :: idx r (i + 1) y else idx r (i + 1) y := rfl
theorem rowsOf_lst : ∀ (l : List Task) (i : Nat) (lst : List (List Int)), (rowsOf l i lst).length = lst.length
 | [], _, _ => rfl
 | x :: r, i, lst => by
   show (rowsOf r (i + 1) _).length = _
   rw [rowsOf_lst r (i + 1), List.length_modify]
theorem rowsOf_row (y : Nat) : ∀ (l : List Task) (i : Nat) (lst : List (List Int)), y < lst.length → (rowsOf l i lst).getD y [] = lst.getD y [] ++ idx l i y
 | [], _, _, _ => by simp [rowsOf, idx]
 | x :: r, i, lst, h => by
   show (rowsOf r (i + 1) _).getD y [] = _
   rw [rowsOf_row y r (i + 1) _ (by rw [List.length_modify]; exact h)]
   rw [idx_cons]
   rw [zd, List.getElem?_modify, zd, List.getElem?_eq_getElem h]
   by_cases e : x.prio.toNat = y
   ·simp [e]
   ·simp [e]
theorem idx_mem (y : Nat) : ∀ (l : List Task) (i : Nat) (z : Int), z ∈ idx l i y ↔ ∃ j, ∃ h : j < l.length, z = (i : Int) + j ∧ l[j].prio.toNat = y
 | [], i, z => by simp [idx]
 | x :: r, i, z => by
   have ih := idx_mem y r (i + 1) z
   have key : (∃ j, ∃ h : j < (x :: r).length, z = (i : Int) + j ∧ (x :: r)[j].prio.toNat = y) ↔ (z = (i : Int) ∧ x.prio.toNat = y) ∨ z ∈ idx r (i + 1) y := by
    rw [ih]
    constructor
    ·rintro ⟨j, h, e, p⟩
     rcases j with _ | j
     ·exact Or.inl ⟨by simpa using e, p⟩
     ·exact Or.inr ⟨j, by simpa using h, by push_cast at *; omega, p⟩
    ·rintro (⟨e, p⟩ | ⟨j, h, e, p⟩)
     ·exact ⟨0, by simp, by simpa using e, p⟩
     ·exact ⟨j + 1, by simpa using h, by push_cast at *; omega, p⟩
   rw [key, idx_cons]
   by_cases e : x.prio.toNat = y
   ·simp [e]
   ·simp [e]
theorem idx_nodup (y : Nat) : ∀ (l : List Task) (i : Nat), (idx l i y).Nodup
 | [], _ => by simp [idx]
 | x :: r, i => by
   have ih := idx_nodup y r (i + 1)
   have hn : (i : Int) ∉ idx r (i + 1) y := by
    rw [idx_mem]
    rintro ⟨j, _, e, _⟩
    push_cast at e
    omega
   rw [idx_cons]
   by_cases e : x.prio.toNat = y
   ·rw [if_pos e]
    exact List.nodup_cons.mpr ⟨hn, ih⟩
   ·rw [if_neg e]
    exact ih
theorem begin_l (t : Table) {y : Nat} (hy : y < 72) : (begin t).l y = idx t.tasks 0 y := by
 show (rowsOf t.tasks 0 (List.replicate 72 [])).getD y [] = _
 rw [rowsOf_row y _ _ _ (by rw [List.length_replicate]; exact hy), zd, List.getElem?_replicate, if_pos hy]
 rfl
theorem begin_ti (t : Table) {i : Nat} (h : i < t.tasks.length) : (begin t).ti i = ⟨t.tasks[i].ops, t.tasks[i].prio, t.tasks[i].prio, 0, 0, 0, t.tasks[i].ops.map fun _ => 0, none, 0, 0⟩ := by
 unfold K.ti begin
 simp [h]
theorem begin_len (t : Table) : (begin t).tasks.length = t.tasks.length := by simp [begin]
theorem Table.fits_parts {t : Table} (h : t.fits = true) : (1 ≤ t.tasks.length ∧ t.tasks.length ≤ 32 ∧ t.sems.length ≤ 8 ∧ 0 ≤ t.mutexes ∧ t.mutexes ≤ 8 ∧ t.queues.length ≤ 8) ∧
 (∀ s ∈ t.sems, 0 ≤ s ∧ s ≤ 100) ∧ (∀ s ∈ t.queues, 1 ≤ s ∧ s ≤ 16) ∧ ∀ i (hi : i < t.tasks.length), (0 ≤ t.tasks[i].prio ∧ t.tasks[i].prio ≤ 31 ∧ t.tasks[i].ops.length ≤ 100) ∧ opsFit t.tasks[i].ops 0 = true := by
 unfold Table.fits at h
 simp only [Bool.and_eq_true, decide_eq_true_eq, List.all_eq_true] at h
 obtain ⟨⟨⟨h1, h2⟩, h3⟩, h4⟩ := h
 refine ⟨h1, h2, h3, fun i hi => ?_⟩
 have := h4 t.tasks[i] (List.getElem_mem hi)
 unfold Task.fits at this
 simpa only [Bool.and_eq_true, decide_eq_true_eq] using this
theorem begin_ok {t : Table} (h : t.fits = true) : Ok (begin t) := by
 obtain ⟨h1, h2, h3, h4⟩ := Table.fits_parts h
 refine ⟨⟨?_, ?_, ?_, ?_, ?_, ?_, ?_, ?_, ?_⟩, ⟨?_, ?_, ?_, ?_, ?_, ?_⟩⟩
 ·show (rowsOf t.tasks 0 (List.replicate 72 [])).length = 72
  rw [rowsOf_lst]
  simp
 ·rw [begin_len]; omega
 ·refine ⟨h1.2.2.1, ?_, h1.2.2.2.2.2⟩
  show (List.replicate t.mutexes.toNat (-1 : Int)).length ≤ 8
  rw [List.length_replicate]
  omega
 ·intro i hi
  rw [begin_len] at hi
  rw [begin_ti t hi]
  have := (h4 i hi).1
  show 0 ≤ t.tasks[i].prio ∧ t.tasks[i].prio < 32
  omega
 ·intro i hi
  rw [begin_len] at hi
  rw [begin_ti t hi]
  exact Or.inl rfl
 ·intro i x hi e
  rw [begin_len] at hi
  rw [begin_ti t hi] at e
  cases e
 ·intro y hy z hz
  rw [begin_l t hy.lt, idx_mem] at hz
  obtain ⟨j, hj, e, _⟩ := hz
  rw [begin_len]
  omega
 ·intro y hy i hi
  rw [begin_len] at hi
  rw [begin_l t hy.lt, idx_mem, begin_ti t hi]
  have hp := (h4 i hi).1
  constructor
  ·rintro ⟨j, hj, e, p⟩
   have : j = i := by omega
   subst this
   refine Or.inl ⟨?_, rfl, ?_⟩
   ·omega
   ·show t.tasks[j].prio = (y : Int)
    omega
  ·rintro (⟨_, _, p⟩ | ⟨_, q, _⟩)
   ·exact ⟨i, hi, by omega, by
     have q : t.tasks[i].prio = (y : Int) := p
     omega⟩
   ·exact absurd (show (0 : Int) = 1 from q) (by decide)
 ·intro y hy
  rw [begin_l t hy.lt]
  exact idx_nodup _ _ _
 ·intro i hi
  rw [begin_len] at hi
  rw [begin_ti t hi]
  obtain ⟨hp, hf⟩ := h4 i hi
  refine ⟨⟨hp.1, by show t.tasks[i].prio < 32; omega⟩, ⟨Int.le_refl 0, show (0 : Int) ≤ 1000 by decide⟩, hp.2.2, fun j hj => ?_, by simp, ?_, Nat.zero_le _⟩
  ·have := opsFit_at t.tasks[i].ops 0 j hf hj
   rw [Int.zero_add] at this
   exact this
  ·intro c hc
   obtain ⟨_, _, e⟩ := List.mem_map.mp hc
   omega
 ·exact h2
 ·intro o ho
  have : o = -1 := List.eq_of_mem_replicate ho
  subst this
  omega
 ·exact h3
 ·intro x hx hx'
  rw [begin_l t (by omega)]
  have : idx t.tasks 0 x = [] := by
   rw [List.eq_nil_iff_forall_not_mem]
   intro z hz
   rw [idx_mem] at hz
   obtain ⟨j, hj, _, p⟩ := hz
   have := (h4 j hj).1
   omega
  rw [this]
  simp
 ·exact zl _
theorem begin_rest (t : Table) (ticks ops : Nat) : (begin t).rest ticks ops < ticks + ops + t.tasks.length + 1 := by
 have h : (begin t).alive ≤ (begin t).tasks.length := List.length_filter_le _ _
 rw [begin_len] at h
 have e : (begin t).ticks = 0 := rfl
 have e2 : (begin t).ops = 0 := rfl
 unfold K.rest
 omega
theorem run_ok (ticks ops : Nat) : ∀ (f : Nat) (k : K), Ok k → Ok (K.run ticks ops f k) ∧ Mono k (K.run ticks ops f k)
 | 0, k, h => ⟨h, Mono.refl k⟩
 | f + 1, k, h => by
   rw [run_round]
   cases e : k.round ticks ops with
   | none => exact ⟨h, Mono.refl k⟩
   | some k' =>
     have r := h.round e
     have q := run_ok ticks ops f k' r.1
     exact ⟨q.1, r.2.1.trans q.2⟩
theorem runT_ok {t : Table} (h : t.fits = true) (ticks ops : Nat) : Ok (runT t ticks ops) ∧ (runT t ticks ops).tasks.length = t.tasks.length := by
 have q := run_ok ticks ops (ticks + ops + t.tasks.length + 1) (begin t) (begin_ok h)
 exact ⟨q.1, q.2.tasks.trans (begin_len t)⟩
end Kn
end Go.Proofs.Ytncbgnpoffolcaa
/-! Two lists get a number each, in whatever order their steps come. -/
namespace Go.Proofs.Ytncbgnpoffolcaa
open Go.RowKit
/-- One of them: whether the number's slice is built, whether it is appended; the head, the slice, the new head; the numbers, the new one; the block at the start. -/
structure Hf where
 lB : Bool
 lA : Bool
 V : Value
 vB : Value
 vA : Value
 xs : List Int
 x : Int
 G : Option Nat
/-- How one stands, its block and the built slice's block. -/
structure Half (W : World) (h : Hf) (g o : Option Nat) : Prop where
 old : h.lA = false → LHead W h.V h.xs g
 new : h.lA = true → LHead W h.vA (h.xs ++ [h.x]) g
 built : h.lB = true → ∃ c, o = some c ∧ h.vB = .slice (some ⟨c, 0, none⟩) 1 1 ∧ W.heap[c]? = some (.cells #[.int .i64 h.x] 3 (0, 0))
 none_ : h.lB = false → o = none
theorem LHead.keep_at {W W' : World} {v : Value} {xs : List Int} {g : Option Nat} (h : LHead W v xs g) (hk : ∀ b, g = some b → W'.heap[b]? = W.heap[b]?) : LHead W' v xs g := by
 rcases h with h | ⟨b, off, cap, e, hv, hl⟩
 ·exact .inl h
 ·exact .inr ⟨b, off, cap, e, hv, by rw [hk b e]; exact hl⟩
theorem Half.keep {W W' : World} {h : Hf} {g o : Option Nat} (H : Half W h g o) (hg : ∀ b, g = some b → W'.heap[b]? = W.heap[b]?) (ho : ∀ b, o = some b → W'.heap[b]? = W.heap[b]?) : Half W' h g o :=
 ⟨fun q => (H.old q).keep_at hg, fun q => (H.new q).keep_at hg, fun q => by
  obtain ⟨c, e, hv, hc⟩ := H.built q
  exact ⟨c, e, hv, by rw [ho c e]; exact hc⟩, H.none_⟩
structure Fr (W0 W : World) (G1 G2 g1 g2 o1 o2 : Option Nat) : Prop where
 size : W0.heap.size ≤ W.heap.size
 keep : ∀ b, b < W0.heap.size → G1 ≠ some b → G2 ≠ some b → W.heap[b]? = W0.heap[b]?
 old1 : g1 = G1 ∨ ∃ b, g1 = some b ∧ W0.heap.size ≤ b
 old2 : g2 = G2 ∨ ∃ b, g2 = some b ∧ W0.heap.size ≤ b
 a12 : ∀ b, g1 = some b → g2 ≠ some b
 a11 : ∀ b, g1 = some b → o1 ≠ some b
 a1o : ∀ b, g1 = some b → o2 ≠ some b
 a21 : ∀ b, g2 = some b → o1 ≠ some b
 a22 : ∀ b, g2 = some b → o2 ≠ some b
 aoo : ∀ b, o1 = some b → o2 ≠ some b
 l1 : ∀ b, g1 = some b → b < W.heap.size
 l2 : ∀ b, g2 = some b → b < W.heap.size
 m1 : ∀ b, o1 = some b → b < W.heap.size ∧ W0.heap.size ≤ b
 m2 : ∀ b, o2 = some b → b < W.heap.size ∧ W0.heap.size ≤ b
 os : W.os = W0.os
 tape : W.tape = W0.tape
 output : W.output = W0.output
def Two (W0 W : World) (p q : Hf) : Prop := ∃ g1 g2 o1 o2, Fr W0 W p.G q.G g1 g2 o1 o2 ∧ Half W p g1 o1 ∧ Half W q g2 o2
theorem Two.swap {W0 W : World} {p q : Hf} (h : Two W0 W p q) : Two W0 W q p := by
 obtain ⟨g1, g2, o1, o2, F, H1, H2⟩ := h
 exact ⟨g2, g1, o2, o1, ⟨F.size, fun b hb q1 q2 => F.keep b hb q2 q1, F.old2, F.old1, fun b e e2 => F.a12 b e2 e, F.a22, F.a21, F.a1o, F.a11, fun b e e2 => F.aoo b e2 e, F.l2, F.l1, F.m2, F.m1, F.os, F.tape, F.output⟩, H2, H1⟩
theorem LHead.lt {W : World} {v : Value} {xs : List Int} {g : Option Nat} (h : LHead W v xs g) : ∀ b, g = some b → b < W.heap.size := by
 intro b e
 rcases h with ⟨e2, _⟩ | ⟨b2, off, cap, e2, _, cur, hb, _⟩
 ·rw [e2] at e; cases e
 ·rw [e2] at e
  cases e
  exact (Array.getElem?_eq_some_iff.1 hb).1
theorem Two.start {W : World} {V1 V2 vB1 vB2 vA1 vA2 : Value} {xs ys : List Int} {x y : Int} {G1 G2 : Option Nat} (h1 : LHead W V1 xs G1) (h2 : LHead W V2 ys G2) (hne : ∀ b, G1 = some b → G2 ≠ some b) :
 Two W W ⟨false, false, V1, vB1, vA1, xs, x, G1⟩ ⟨false, false, V2, vB2, vA2, ys, y, G2⟩ :=
 ⟨G1, G2, none, none, ⟨zl _, fun _ _ _ _ => rfl, .inl rfl, .inl rfl, hne, (by intro _ _ q; cases q), (by intro _ _ q; cases q), (by intro _ _ q; cases q), (by intro _ _ q; cases q), (by intro _ q; cases q), h1.lt, h2.lt, (by intro _ q; cases q), (by intro _ q; cases q), rfl, rfl, rfl⟩,
  ⟨fun _ => h1, (by intro q; cases q), (by intro q; cases q), fun _ => rfl⟩, ⟨fun _ => h2, (by intro q; cases q), (by intro q; cases q), fun _ => rfl⟩⟩
/-- The first one's slice is built. -/
theorem Two.build {W0 W : World} {p q : Hf} (h : Two W0 W p q) (hA : p.lA = false) : Two W0 (W.alloc (.cells #[.int .i64 p.x] 3)) { p with lB := true, vB := .slice (some ⟨W.heap.size, 0, none⟩) 1 1 } q := by
 obtain ⟨g1, g2, o1, o2, F, H1, H2⟩ := h
 have hs : (W.alloc (.cells #[.int .i64 p.x] 3)).heap.size = W.heap.size + 1 := by simp
 have hk : ∀ b, b < W.heap.size → (W.alloc (.cells #[.int .i64 p.x] 3)).heap[b]? = W.heap[b]? := fun b hb => by
  show (W.heap.push _)[b]? = _
  rw [Array.getElem?_push, if_neg (by omega)]
 refine ⟨g1, g2, some W.heap.size, o2, ⟨by have := F.size; omega, fun b hb q1 q2 => (hk b (by have := F.size; omega)).trans (F.keep b hb q1 q2), F.old1, F.old2, F.a12, ?_, F.a1o, ?_, F.a22, ?_, ?_, ?_, ?_, ?_, F.os, F.tape, F.output⟩, ⟨?_, ?_, ?_, ?_⟩, H2.keep ?_ ?_⟩
 ·intro b e e2
  cases e2
  have := F.l1 _ e
  omega
 ·intro b e e2
  cases e2
  have := F.l2 _ e
  omega
 ·intro b e e2
  cases e
  have := (F.m2 _ e2).1
  omega
 ·intro b e
  have := F.l1 b e
  omega
 ·intro b e
  have := F.l2 b e
  omega
 ·intro b e
  cases e
  have := F.size
  omega
 ·intro b e
  have := F.m2 b e
  omega
 ·intro q
  exact (H1.old hA).keep_at fun b e => hk b (F.l1 b e)
 ·intro q
  have q : p.lA = true := q
  rw [hA] at q
  cases q
 ·intro _
  refine ⟨_, rfl, rfl, ?_⟩
  show (W.heap.push _)[W.heap.size]? = _
  rw [Array.getElem?_push, if_pos rfl]
 ·intro q
  cases q
 ·intro b e
  exact hk b (F.l2 b e)
 ·intro b e
  exact hk b (F.m2 b e).1
/-- What an append wants. -/
theorem Two.ready {W0 W : World} {p q : Hf} (h : Two W0 W p q) (hA : p.lA = false) (hB : p.lB = true) :
 ∃ g c, LHead W p.V p.xs g ∧ p.vB = .slice (some ⟨c, 0, none⟩) 1 1 ∧ W.cell? ⟨c, 0, none⟩ = some (.int .i64 p.x) ∧ ∀ v' W', Aplpost W g (p.xs ++ [p.x]) v' W' → Two W0 W' { p with lA := true, vA := v' } q := by
 obtain ⟨g1, g2, o1, o2, F, H1, H2⟩ := h
 obtain ⟨c, e, hv, hc⟩ := H1.built hB
 refine ⟨g1, c, H1.old hA, hv, ?_, ?_⟩
 ·rw [cell_of_row W c 0 _ 3 (0, 0) hc]
  rfl
 intro v' W' ⟨g', hL, hg, hk, hgr⟩
 have hsz : W.heap.size ≤ W'.heap.size := hgr.size
 have hk2 : ∀ b, b < W.heap.size → g1 ≠ some b → W'.heap[b]? = W.heap[b]? := hk
 have hnew : ∀ b, g' = some b → g1 = some b ∨ W.heap.size ≤ b := by
  intro b eb
  rcases hg with hg | ⟨x, hx, hl⟩
  ·exact .inl (by rw [← hg]; exact eb)
  ·rw [hx] at eb
   cases eb
   exact .inr hl
 refine ⟨g', g2, o1, o2, ⟨by have := F.size; omega, fun b hb q1 q2 => ?_, ?_, F.old2, ?_, ?_, ?_, F.a21, F.a22, F.aoo, hL.lt, ?_, ?_, ?_, hgr.os.trans F.os, hgr.tape.trans F.tape, hgr.output.trans F.output⟩, ⟨?_, ?_, ?_, ?_⟩, H2.keep ?_ ?_⟩
 ·refine (hk2 b (by have := F.size; omega) fun e1 => ?_).trans (F.keep b hb q1 q2)
  rcases F.old1 with h1 | ⟨x, hx, hl⟩
  ·exact q1 (by rw [← h1]; exact e1)
  ·rw [hx] at e1
   cases e1
   omega
 ·rcases hg with hg | ⟨x, hx, hl⟩
  ·rw [hg]
   exact F.old1
  ·exact .inr ⟨x, hx, by have := F.size; omega⟩
 ·intro b e1 e2
  rcases hnew b e1 with q1 | q1
  ·exact F.a12 b q1 e2
  ·have := F.l2 b e2
   omega
 ·intro b e1 e2
  rcases hnew b e1 with q1 | q1
  ·exact F.a11 b q1 e2
  ·have := (F.m1 b e2).1
   omega
 ·intro b e1 e2
  rcases hnew b e1 with q1 | q1
  ·exact F.a1o b q1 e2
  ·have := (F.m2 b e2).1
   omega
 ·intro b e1
  have := F.l2 b e1
  omega
 ·intro b e1
  have := F.m1 b e1
  omega
 ·intro b e1
  have := F.m2 b e1
  omega
 ·intro q
  cases q
 ·intro _
  exact hL
 ·intro _
  refine ⟨c, e, hv, (hk2 c (F.m1 c e).1 fun e1 => F.a11 c e1 e).trans hc⟩
 ·intro q
  have q : p.lB = false := q
  rw [hB] at q
  cases q
 ·intro b e1
  exact hk2 b (F.l2 b e1) fun e2 => F.a12 b e2 e1
 ·intro b e1
  exact hk2 b (F.m2 b e1).1 fun e2 => F.a1o b e2 e1
/-- Both are appended. -/
theorem Two.done {W0 W : World} {p q : Hf} (h : Two W0 W p q) (h1 : p.lA = true) (h2 : q.lA = true) :
 ∃ g1 g2, LHead W p.vA (p.xs ++ [p.x]) g1 ∧ LHead W q.vA (q.xs ++ [q.x]) g2 ∧ (∀ b, g1 = some b → g2 ≠ some b) ∧ (g1 = p.G ∨ ∃ b, g1 = some b ∧ W0.heap.size ≤ b) ∧ (g2 = q.G ∨ ∃ b, g2 = some b ∧ W0.heap.size ≤ b) ∧
   W0.heap.size ≤ W.heap.size ∧ ∀ b, b < W0.heap.size → p.G ≠ some b → q.G ≠ some b → W.heap[b]? = W0.heap[b]? := by
 obtain ⟨g1, g2, o1, o2, F, H1, H2⟩ := h
 exact ⟨g1, g2, H1.new h1, H2.new h2, F.a12, F.old1, F.old2, F.size, F.keep⟩
theorem Two.below {W0 W : World} {p q : Hf} (h : Two W0 W p q) {N : Nat} (hN : N ≤ W0.heap.size) (h1 : ∀ b, p.G = some b → N ≤ b) (h2 : ∀ b, q.G = some b → N ≤ b) : Below N W0 W := by
 obtain ⟨g1, g2, o1, o2, F, H1, H2⟩ := h
 exact ⟨F.os, F.tape, F.output, F.size, fun b hb => F.keep b (by omega) (fun e => by have := h1 b e; omega) (fun e => by have := h2 b e; omega)⟩
end Go.Proofs.Ytncbgnpoffolcaa
/-! A region that draws its order, walked by an invariant: each operation is looked at once, whatever came ahead of it. -/
namespace Go.Proofs.Ytncbgnpoffolcaa
theorem ready_nil_of_count {md : Region.Mode} {ops : Array Oper} {listed : Array Bool} (h : listed.toList.count false = 0) : Region.ready md ops listed = [] := by
 rcases hr : Region.ready md ops listed with _ | ⟨i, l⟩
 ·rfl
 ·have hi := (mem_ready.1 (show i ∈ Region.ready md ops listed by rw [hr]; exact List.mem_cons_self)).1
  rcases Nat.lt_or_ge i listed.size with h' | h'
  ·simp [h'] at hi
   have hm : false ∈ listed.toList := by
    rw [← hi]
    exact Array.getElem_mem_toList h'
   exact absurd hm (List.count_eq_zero.1 h)
  ·simp [Array.getElem?_eq_none h'] at hi
theorem count_set {listed : Array Bool} {i : Nat} (h : listed.getD i true = false) : (listed.setIfInBounds i true).toList.count false + 1 = listed.toList.count false := by
 rcases Nat.lt_or_ge i listed.size with h' | h'
 ·simp [h'] at h
  have h2 : listed.toList[i]'(by simpa using h') = false := by simpa using h
  have hm : false ∈ listed.toList := by rw [← h2]; exact List.getElem_mem _
  have hpos := List.count_pos_iff.2 hm
  have hc := List.count_set (a := true) (b := false) (l := listed.toList) (i := i) (by simpa using h')
  rw [h2] at hc
  rw [Array.toList_setIfInBounds, hc, if_pos (by rfl), if_neg (by decide)]
  omega
 ·simp [Array.getElem?_eq_none h'] at h
/-- Each operation once, under an invariant. -/
theorem wpAny_inv {P : Program} {md : Region.Mode} {ops : Array Oper} {Q : Exit → Act → World → Prop} {a0 : Act} (I : Act → Array Bool → Act → World → Prop)
 (hs : ∀ listed a w, I a0 listed a w → ∀ i ∈ Region.ready md ops listed, wpOp P ops Q i (I a0 (listed.setIfInBounds i true)) a w)
 (he : ∀ listed a w, I a0 listed a w → Region.ready md ops listed = [] → Q .normal a w) :
 ∀ (fuel : Nat) (listed : Array Bool) (a : Act) (w : World), listed.toList.count false ≤ fuel → I a0 listed a w → wpAny P md ops Q fuel listed a w
 | 0, listed, a, w, hc, hI => by
   have h0 := ready_nil_of_count (md := md) (ops := ops) (Nat.le_zero.1 hc)
   exact ⟨h0, he _ _ _ hI h0⟩
 | fuel + 1, listed, a, w, hc, hI => ⟨he _ _ _ hI, fun i hi => wpOp_mono (fun a' w' h' => wpAny_inv I hs he fuel _ a' w' (by have := count_set (mem_ready.1 hi).1; omega) h') (hs _ _ _ hI i hi)⟩
/-- The same, the invariant told from the first frame on. -/
theorem wpAny_inv_at {P : Program} {md : Region.Mode} {ops : Array Oper} {Q : Exit → Act → World → Prop} {a0 : Act} {fuel : Nat} {listed0 : Array Bool} {w0 : World} (I : Act → Array Bool → Act → World → Prop)
 (hc : listed0.toList.count false ≤ fuel)
 (hs : ∀ listed a w, I a0 listed a w → ∀ i ∈ Region.ready md ops listed, wpOp P ops Q i (I a0 (listed.setIfInBounds i true)) a w)
 (he : ∀ listed a w, I a0 listed a w → Region.ready md ops listed = [] → Q .normal a w)
 (h0 : I a0 listed0 a0 w0) : wpAny P md ops Q fuel listed0 a0 w0 := wpAny_inv I hs he fuel listed0 a0 w0 hc h0
/-- Where each operation waits for earlier ones alone, nothing is left unlisted. -/
theorem listed_all {md : Region.Mode} {ops : Array Oper} {listed : Array Bool} (hz : listed.size = ops.size)
 (hB : ((List.range ops.size).all fun j => ((ops[j]?).map fun o => o.after.all fun e => !Region.binds md e || decide (e.on < j)).getD true) = true)
 (h : Region.ready md ops listed = []) : ∀ i, i < ops.size → listed.getD i true = true := by
 intro i
 induction i using Nat.strongRecOn with
 | _ i ih =>
   intro hi
   cases hl : listed.getD i true with
   | true => rfl
   | false =>
     exfalso
     have hm : i ∈ Region.ready md ops listed := by
      refine mem_ready.2 ⟨hl, ops[i], by simp [hi], fun e he hb => ?_⟩
      have h1 := List.all_eq_true.1 hB i (List.mem_range.2 hi)
      rw [show ops[i]? = some ops[i] by simp [hi], Option.map_some, Option.getD_some] at h1
      have h2 := Array.all_eq_true'.1 h1 e he
      rw [hb] at h2
      have h3 : e.on < i := by simpa using h2
      have h4 := ih e.on h3 (by omega)
      have h5 : e.on < listed.size := by omega
      simp [h5] at h4 ⊢
      exact h4
     rw [h] at hm
     cases hm
/-- What is ready: operation number i is not listed yet, and what it waits for is. -/
theorem ready_spec {md : Region.Mode} {ops : Array Oper} {listed : Array Bool} {i : Nat} (h : i ∈ Region.ready md ops listed) : i < ops.size ∧ ∀ o, ops[i]? = some o → ∀ e ∈ o.after, Region.binds md e = true → listed.getD e.on false = true := by
 obtain ⟨_, o, ho, h2⟩ := mem_ready.1 h
 exact ⟨(Array.getElem?_eq_some_iff.1 ho).1, fun o' ho' => by rw [ho] at ho'; cases ho'; exact h2⟩
end Go.Proofs.Ytncbgnpoffolcaa
/-! What a run of a table leaves; two results. -/
namespace Go.Proofs.Ytncbgnpoffolcaa
open Go.RowKit
theorem LHead.shape {w : World} {v : Value} {xs : List Int} {g : Option Nat} (h : LHead w v xs g) : ∃ A n c, v = .slice A n c := by
 rcases h with ⟨_, e, _⟩ | ⟨b, off, cap, _, e, _⟩
 ·exact ⟨_, _, _, e⟩
 ·exact ⟨_, _, _, e⟩
def tabV (A1 A2 A3 : Option Addr) (c1 c2 c3 : Nat) (t : Kn.Table) : Value := .agg #[.slice A1 t.tasks.length c1, .slice A2 t.sems.length c2, .int .i64 t.mutexes, .slice A3 t.queues.length c3]
/-- What a run leaves. -/
def RunAns (w : World) (k : Kn.K) (e : Ending) (w' : World) : Prop :=
 ∃ L V1 V2 V3 g1 g2, KM w' w.heap.size k L ∧ V1 = L.hd .out k.out.length ∧ LHead w' V2 (k.tasks.map (·.state)) g1 ∧ LHead w' V3 (k.tasks.map (·.answer)) g2 ∧
   e = .returned (.tuple #[.agg #[V1, V2, V3, .int .i64 k.ticks, .int .i64 k.ops], .int .i64 0]) ∧ Below w.heap.size w w'
theorem results_pair {fn : Func} {p q : Tmp} {ty : TypeId} {v : Value} (h : fn.results = #[.cell p ty, .tmp q]) (tmps : Array Value) (w : World) (g : Nat) (t : TypeId) (cs : Array Value) (fr : Nat × Nat) (fs : Array Field)
 (hp : tmps.getD p undef = .pointer (some ⟨g, 0, none⟩)) (hg : w.heap[g]? = some (.cells cs t fr))
 (hu : Try.prog.underlying ty = some (.struct fs)) (hi : (Try.prog.info? ty).map (·.size) = some cs.size) (hv : Value.tuple #[.agg cs, tmps.getD q undef] = v) :
 (results fn tmps).run Try.prog w = .ok v w := by
 have hp' : tmps[p]?.getD undef = .pointer (some ⟨g, 0, none⟩) := by simpa using hp
 subst hv
 simp [results, h, hp', asAddr, run_loadVar_row w g t ty cs fr (.struct fs) hg hu rfl hi]
end Go.Proofs.Ytncbgnpoffolcaa
