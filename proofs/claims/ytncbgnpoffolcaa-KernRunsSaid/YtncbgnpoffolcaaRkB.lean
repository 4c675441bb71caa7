/-
  The document's kernel in memory: its block, and a row for each of its lists; what a change of one part leaves alone. The document's kernel in memory: each kind of change, and what is left alone by it. The document's kernel: a number more behind a list of one's own; the walks of leave, running. The document's kernel: the walks of running, wait, best.
-/
import Derived.Test.YtncbgnpoffolcaaM3
import Derived.Test.YtncbgnpoffolcaaRkT
import Derived.OneCell
import Derived.Deep.LoopGhost
namespace Go.Proofs.Ytncbgnpoffolcaa
open Go.RowKit
namespace Rk
/-- The parts that have a row. -/
inductive Part where
 | ta | sa | ow | qa | out | l (x : Nat) | lp (i : Nat)
deriving DecidableEq
/-- Where they lie: the kernel's block, the slices' values, the operations' slices. -/
structure Ly where
 b : Nat
 V : Part → Value
 O : Nat → Value
def Part.ty : Part → TypeId
 | .ta => 100
 | .qa => 102
 | .out => 5
 | _ => 3
def Part.sz : Part → Nat
 | .ta => 13
 | .qa => 2
 | _ => 1
def Part.len (r : K) : Part → Nat
 | .ta => r.tasks.length
 | .sa => r.sems.length
 | .ow => r.owner.length
 | .qa => r.size.length
 | .out => r.out.length
 | .l x => (r.l x).length
 | .lp i => (r.ti i).loops.length
def taskC (L : Ly) (i : Nat) (t : T) : List Value :=
 [.int .i64 t.base, .int .i64 t.prio, L.O i, .int .i64 t.place, .int .i64 t.last, .int .i64 t.state, .int .i64 t.wake, .int .i64 t.answer, .int .i64 t.on, .int .i64 t.id, .int .i64 t.value, .int .i64 t.since, L.V (.lp i)]
def byteV (l : List UInt8) : List Value := l.map fun b => .int .u8 b.toNat
def tasksC (r : K) (L : Ly) : List Value := (List.range r.tasks.length).flatMap fun i => taskC L i (r.ti i)
def queC (r : K) (L : Ly) (i : Nat) : List Value := [L.V (.l (32 + i)), .int .i64 (r.size.getD i 0)]
def quesC (r : K) (L : Ly) : List Value := (List.range r.size.length).flatMap (queC r L)
def Part.cells (r : K) (L : Ly) : Part → List Value
 | .ta => tasksC r L
 | .sa => intV r.sems
 | .ow => intV r.owner
 | .qa => quesC r L
 | .out => byteV r.out
 | .l x => intV (r.l x)
 | .lp i => intV (r.ti i).loops
def rowsC (L : Ly) : List Value := (List.range 32).map fun p => L.V (.l p)
def headsC (L : Ly) : List Value := L.V .ta :: (rowsC L ++ [L.V .sa, L.V .ow, L.V .qa, L.V .out])
def numsC (r : K) : List Value := [.int .i64 r.ticks, .int .i64 r.ops, .int .i64 r.count, .int .i64 r.ran, .int .i64 r.most, .int .i64 r.sinceOps]
def kerC (r : K) (L : Ly) : List Value := headsC L ++ numsC r
/-- The document's kernel in memory, from block B on. -/
structure RM (w : World) (B : Nat) (r : K) (L : Ly) : Prop where
 ker : Whole w L.b 98 (kerC r L).toArray
 low : B ≤ L.b
 row : ∀ p : Part, w.ownsRow B p.ty p.sz (L.V p) (p.len r) (p.cells r L)
 apart : ∀ (p q : Part) (g : Nat), p ≠ q → (L.V p).ownBlock = some g → (L.V q).ownBlock ≠ some g
 lens : r.lst.length = 40
 few : r.size.length ≤ 8
 ops : ∀ i, i < r.tasks.length → ∃ A c, L.O i = .slice A (r.ti i).ops.length c ∧ Reads w B 3 A (r.ti i).ops.length (opsC (r.ti i).ops)
theorem taskC_len (L : Ly) (i : Nat) (t : T) : (taskC L i t).length = 13 := rfl
/-- One element of a row of elements is written. -/
theorem flat_set {f f' : Nat → List Value} {m n i j : Nat} {u : Value} (hf : ∀ a, (f a).length = m) (hf' : ∀ a, (f' a).length = m) (hj : j < m) (h1 : f' i = (f i).set j u) (h2 : ∀ k, k ≠ i → k < n → f' k = f k) :
 (List.range n).flatMap f' = ((List.range n).flatMap f).set (i * m + j) u := by
 apply List.ext_getElem?
 intro q
 have l1 := flat_len hf (List.range n)
 have l2 := flat_len hf' (List.range n)
 rw [List.length_range] at l1 l2
 by_cases hq : q < n * m
 ·have hm : 0 < m := by omega
  have hk : q / m < n := (Nat.div_lt_iff_lt_mul hm).2 hq
  have hr : q % m < m := Nat.mod_lt _ hm
  have e : q = q / m * m + q % m := by rw [Nat.mul_comm]; exact (Nat.div_add_mod q m).symm
  have a1 := flat_at hf' (List.range n) (q / m) (q % m) (by rw [List.length_range]; exact hk) hr
  have a2 := flat_at hf (List.range n) (q / m) (q % m) (by rw [List.length_range]; exact hk) hr
  rw [← e] at a1 a2
  simp only [List.getElem_range] at a1 a2
  rw [a1]
  by_cases e2 : q / m = i
  ·rw [e2, h1]
   by_cases e3 : q % m = j
   ·rw [e3]
    have e4 : q = i * m + j := by rw [e, e2, e3]
    rw [e4, List.getElem?_set_self (by rw [hf]; exact hj), List.getElem?_set_self (by rw [l1, ← e4]; exact hq)]
   ·rw [List.getElem?_set_ne (Ne.symm e3), List.getElem?_set_ne (by intro h; apply e3; rw [← h, Nat.mul_comm, Nat.mul_add_mod, Nat.mod_eq_of_lt hj]), a2, e2]
  ·rw [h2 _ e2 hk, List.getElem?_set_ne (by intro h; apply e2; rw [← h, Nat.mul_comm, Nat.mul_add_div hm, Nat.div_eq_of_lt hj, Nat.add_zero]), a2]
 ·rw [List.getElem?_eq_none (by omega), List.getElem?_eq_none (by rw [List.length_set]; omega)]
section
variable {w w' w1 : World} {B : Nat} {r r' : K} {L : Ly}
theorem RM.lt (h : RM w B r L) : L.b < w.heap.size := h.ker.lt
theorem RM.ne (h : RM w B r L) (p : Part) : (L.V p).ownBlock ≠ some L.b := row_whole_ne (h.row p) h.ker (by cases p <;> exact Nat.ne_of_beq_eq_false rfl)
theorem RM.rowLt (h : RM w B r L) {p : Part} {g : Nat} (hg : (L.V p).ownBlock = some g) : B ≤ g ∧ g < w.heap.size := (h.row p).lt g hg
theorem RM.form (h : RM w B r L) {p : Part} (hn : 0 < p.len r) : ∃ g c, L.V p = .slice (some ⟨g, 0, none⟩) (p.len r) c := by
 obtain ⟨g, c, e, _⟩ := (h.row p).form hn
 exact ⟨g, c, e⟩
theorem RM.slice (h : RM w B r L) (p : Part) : ∃ A c, L.V p = .slice A (p.len r) c ∧ p.len r ≤ c ∧ c ≤ maxLen := row_slice (h.row p)
/-- Nothing of it has turned. -/
theorem RM.same (h : RM w B r L) (hs : ∀ g, g < w.heap.size → w'.heap[g]? = w.heap[g]?) (hB : B ≤ w.heap.size) : RM w' B r L :=
 ⟨h.ker.same (hs _ h.lt), h.low, fun p => row_same (h.row p) fun k hk => hs k ((h.row p).lt k hk).2, h.apart, h.lens, h.few, fun i hi => by
  obtain ⟨A, c, e, hr⟩ := h.ops i hi
  exact ⟨A, c, e, hr.keep fun p hp => zq (hs _ (by omega))⟩⟩
theorem RM.below (h : RM w B r L) (hb : Below w.heap.size w w') : RM w' B r L := h.same (fun g hg => hb.block g hg) (by have := h.low; have := h.lt; omega)
/-- The rest of the kernel is as it was. -/
structure Sm (r r' : K) : Prop where
 tasks : r'.tasks.length = r.tasks.length
 ops : ∀ i, (r'.ti i).ops = (r.ti i).ops
 lst : r'.lst.length = r.lst.length
 size : r'.size.length = r.size.length
theorem Sm.trans {r'' : K} (h : Sm r r') (h' : Sm r' r'') : Sm r r'' := ⟨h'.tasks.trans h.tasks, fun i => (h'.ops i).trans (h.ops i), h'.lst.trans h.lst, h'.size.trans h.size⟩
theorem RM.opsKeep (h : RM w B r L) (s : Sm r r') (hs : ∀ g, g < B → w'.heap[g]? = w.heap[g]?) : ∀ i, i < r'.tasks.length → ∃ A c, L.O i = .slice A (r'.ti i).ops.length c ∧ Reads w' B 3 A (r'.ti i).ops.length (opsC (r'.ti i).ops) := fun i hi => by
 rw [s.tasks] at hi
 rw [s.ops]
 obtain ⟨A, c, e, hr⟩ := h.ops i hi
 exact ⟨A, c, e, hr.keep fun p hp => zq (hs _ hp)⟩
/-- A cell of a row is written. -/
theorem RM.put (h : RM w B r L) (p0 : Part) {g j c n : Nat} {u : Value} (hv : L.V p0 = .slice (some ⟨g, 0, none⟩) n c) (s : Sm r r') (hker : kerC r' L = kerC r L) (hlen : ∀ p : Part, p.len r' = p.len r)
 (h0 : p0.cells r' L = (p0.cells r L).set j u) (hc : ∀ p, p ≠ p0 → p.cells r' L = p.cells r L) : RM (w.setCell ⟨g, j, none⟩ u) B r' L := by
 have hob : (L.V p0).ownBlock = some g := by rw [hv]; rfl
 have hg := h.rowLt hob
 refine ⟨?_, h.low, fun p => ?_, h.apart, s.lst.trans h.lens, by rw [s.size]; exact h.few, h.opsKeep s fun k hk => zk _ _ _ _ (by show k ≠ g; omega)⟩
 ·rw [hker]
  exact h.ker.far (p := ⟨g, j, none⟩) (fun e => h.ne p0 (by rw [hob, e])) u
 ·rw [hlen]
  by_cases e : p = p0
  ·subst e
   rw [h0]
   have q := h.row p
   have hn : n = p.len r := by
    obtain ⟨A, c', e1, _⟩ := h.slice p
    rw [hv] at e1
    injection e1
   rw [hv, hn] at q ⊢
   exact (q.stored j u).1
  ·rw [hc p e]
   exact ownsRow_setCell_other (h.row p) (a := ⟨g, j, none⟩) (fun e2 => h.apart p p0 g e e2 hob) u
/-- A cell of the kernel's own is written. -/
theorem RM.num (h : RM w B r L) {j : Nat} {u : Value} (s : Sm r r') (hker : kerC r' L = (kerC r L).set j u) (hlen : ∀ p : Part, p.len r' = p.len r) (hc : ∀ p : Part, p.cells r' L = p.cells r L) : RM (w.setCell ⟨L.b, j, none⟩ u) B r' L := by
 have hl := h.low
 refine ⟨?_, h.low, fun p => ?_, h.apart, s.lst.trans h.lens, by rw [s.size]; exact h.few, h.opsKeep s fun k hk => zk _ _ _ _ (by show k ≠ L.b; omega)⟩
 ·rw [hker]
  have := h.ker.put j u
  rwa [List.setIfInBounds_toArray] at this
 ·rw [hlen, hc]
  exact ownsRow_setCell_other (h.row p) (a := ⟨L.b, j, none⟩) (h.ne p) u
def Ly.set (L : Ly) (p0 : Part) (v : Value) : Ly := { L with V := fun p => if p = p0 then v else L.V p }
theorem set_self {p0 : Part} {v : Value} : (L.set p0 v).V p0 = v := by simp [Ly.set]
theorem set_ne {p p0 : Part} {v : Value} (h : p ≠ p0) : (L.set p0 v).V p = L.V p := by simp [Ly.set, h]
/-- A row is put anew. -/
theorem RM.anew (h : RM w B r L) {p0 : Part} {v : Value} {hb j : Nat} (hv : w1.ownsRow B p0.ty p0.sz v (p0.len r') (p0.cells r' (L.set p0 v)))
 (hs : ∀ b, b < w.heap.size → (L.V p0).ownBlock ≠ some b → w1.heap[b]? = w.heap[b]?) (hg : ∀ b, v.ownBlock = some b → (L.V p0).ownBlock = some b ∨ w.heap.size ≤ b)
 (hw : w' = w1.setCell ⟨hb, j, none⟩ v) (hhb : hb = L.b ∨ ∃ q, q ≠ p0 ∧ (L.V q).ownBlock = some hb) (s : Sm r r')
 (hker : Whole w' L.b 98 (kerC r' (L.set p0 v)).toArray)
 (hr : ∀ p, p ≠ p0 → (L.V p).ownBlock = some hb → w'.ownsRow B p.ty p.sz (L.V p) (p.len r') (p.cells r' (L.set p0 v)))
 (hlen : ∀ p : Part, p ≠ p0 → p.len r' = p.len r) (hc : ∀ p, p ≠ p0 → (L.V p).ownBlock ≠ some hb → p.cells r' (L.set p0 v) = p.cells r L) : RM w' B r' (L.set p0 v) := by
 have hlow := h.low
 have hltb := h.lt
 have hhbB : B ≤ hb := by
  rcases hhb with e | ⟨q, _, e⟩
  ·omega
  ·exact (h.rowLt e).1
 have hvne : v.ownBlock ≠ some hb := fun e => by
  rcases hg hb e with e1 | e1
  ·rcases hhb with e2 | ⟨q, hq, e2⟩
   ·rw [e2] at e1; exact h.ne p0 e1
   ·exact h.apart q p0 hb hq e2 e1
  ·rcases hhb with e2 | ⟨q, hq, e2⟩
   ·omega
   ·have := (h.rowLt e2).2; omega
 refine ⟨hker, hlow, fun p => ?_, fun p q g hpq h1 h2 => ?_, s.lst.trans h.lens, by rw [s.size]; exact h.few, h.opsKeep (L := L) s fun k hk => ?_⟩
 ·by_cases e : p = p0
  ·subst e
   rw [set_self, hw]
   exact ownsRow_setCell_other hv (a := ⟨hb, j, none⟩) hvne v
  ·rw [set_ne e]
   by_cases e2 : (L.V p).ownBlock = some hb
   ·exact hr p e e2
   ·rw [hlen p e, hc p e e2, hw]
    refine ownsRow_setCell_other (row_same (h.row p) fun k hk => hs k ((h.row p).lt k hk).2 (fun e3 => h.apart p p0 k e hk e3)) (a := ⟨hb, j, none⟩) e2 v
 ·by_cases e1 : p = p0
  ·have e2 : q ≠ p0 := fun e2 => hpq (e1.trans e2.symm)
   subst e1
   rw [set_self] at h1
   rw [set_ne e2] at h2
   rcases hg g h1 with h3 | h3
   ·exact h.apart q p g e2 h2 h3
   ·have := (h.rowLt h2).2; omega
  ·rw [set_ne e1] at h1
   by_cases e2 : q = p0
   ·subst e2
    rw [set_self] at h2
    rcases hg g h2 with h3 | h3
    ·exact h.apart p q g e1 h1 h3
    ·have := (h.rowLt h1).2; omega
   ·rw [set_ne e2] at h2
    exact h.apart p q g hpq h1 h2
 ·rw [hw, zk _ _ _ _ (by show k ≠ hb; omega)]
  exact hs k (by omega) (fun e => by have := (h.rowLt e).1; omega)
end
end Rk
end Go.Proofs.Ytncbgnpoffolcaa
namespace Go.Proofs.Ytncbgnpoffolcaa
open Go.RowKit
namespace Rk
/-- Blocks that are not the kernel's are left alone; its blocks lie where they lay, or are new. -/
structure Kp (w : World) (L : Ly) (w' : World) (L' : Ly) : Prop where
 os : w'.os = w.os
 tape : w'.tape = w.tape
 output : w'.output = w.output
 size : w.heap.size ≤ w'.heap.size
 block : ∀ g, g < w.heap.size → g ≠ L.b → (∀ p, (L.V p).ownBlock ≠ some g) → w'.heap[g]? = w.heap[g]?
 b : L'.b = L.b
 O : L'.O = L.O
 near : ∀ p g, (L'.V p).ownBlock = some g → (∃ q, (L.V q).ownBlock = some g) ∨ w.heap.size ≤ g
 fix : ∀ p, (∀ x, p ≠ .l x) → p ≠ .out → L'.V p = L.V p
/-- A block that is not the kernel's. -/
structure Fo (w : World) (L : Ly) (g : Nat) : Prop where
 lt : g < w.heap.size
 b : g ≠ L.b
 V : ∀ p, (L.V p).ownBlock ≠ some g
section
variable {w w' w'' w1 : World} {B : Nat} {r r' : K} {L L' L'' : Ly}
theorem Kp.refl (w : World) (L : Ly) : Kp w L w L := ⟨rfl, rfl, rfl, zl _, fun _ _ _ _ => rfl, rfl, rfl, fun p _ h => .inl ⟨p, h⟩, fun _ _ _ => rfl⟩
theorem Kp.trans (h : Kp w L w' L') (h' : Kp w' L' w'' L'') : Kp w L w'' L'' :=
 ⟨h'.os.trans h.os, h'.tape.trans h.tape, h'.output.trans h.output, zt h.size h'.size,
  fun g hg hb hv => (h'.block g (Nat.lt_of_lt_of_le hg h.size) (by rw [h.b]; exact hb) fun p hp => by
   rcases h.near p g hp with ⟨q, hq⟩ | hq
   ·exact hv q hq
   ·omega).trans (h.block g hg hb hv),
  h'.b.trans h.b, h'.O.trans h.O, fun p g hp => by
   rcases h'.near p g hp with ⟨q, hq⟩ | hq
   ·exact h.near q g hq
   ·exact .inr (by have := h.size; omega),
  fun p hp ho => (h'.fix p hp ho).trans (h.fix p hp ho)⟩
theorem Fo.kp {g : Nat} (h : Fo w L g) (k : Kp w L w' L') : Fo w' L' g :=
 ⟨by have := h.lt; have := k.size; omega, by rw [k.b]; exact h.b, fun p hp => by
  rcases k.near p g hp with ⟨q, hq⟩ | hq
  ·exact h.V q hq
  ·have := h.lt; omega⟩
theorem Fo.same {g : Nat} (h : Fo w L g) (k : Kp w L w' L') : w'.heap[g]? = w.heap[g]? := k.block g h.lt h.b h.V
theorem Kp.of_below (hb : Below w.heap.size w w') : Kp w L w' L := ⟨hb.os, hb.tape, hb.output, hb.size, fun g hg _ _ => hb.block g hg, rfl, rfl, fun p _ h => .inl ⟨p, h⟩, fun _ _ _ => rfl⟩
theorem Kp.drewN (k : Kp w L w' L') (n : Nat) : Kp w L (w'.drewN n) L' := k.trans (.of_below ((zr _ _).drewN' n))
theorem Kp.alloc (k : Kp w L w' L') (o : Obj) : Kp w L (w'.alloc o) L' := k.trans (.of_below ((zr _ _).alloc (zl _) o))
/-- What is new may be written. -/
theorem Kp.new {p : Addr} (k : Kp w L w' L') (hp : w.heap.size ≤ p.block) (u : Value) : Kp w L (w'.setCell p u) L' :=
 ⟨k.os, k.tape, k.output, by rw [World.size_setCell]; exact k.size, fun g hg hb hv => (zk _ _ _ _ (by intro e; omega)).trans (k.block g hg hb hv), k.b, k.O, k.near, k.fix⟩
theorem Kp.below (k : Kp w L w' L') (h : RM w B r L) : Below B w w' :=
 ⟨k.os, k.tape, k.output, k.size, fun g hg => k.block g (by have := h.low; have := h.lt; omega) (by have := h.low; omega) fun p hp => by have := (h.rowLt hp).1; omega⟩
theorem Kp.put {p : Part} {g j : Nat} {u : Value} (hv : (L.V p).ownBlock = some g) : Kp w L (w.setCell ⟨g, j, none⟩ u) L :=
 ⟨rfl, rfl, rfl, by rw [World.size_setCell]; exact zl _, fun k _ _ hk => zk _ _ _ _ (by rintro rfl; exact hk p hv), rfl, rfl, fun p _ h => .inl ⟨p, h⟩, fun _ _ _ => rfl⟩
theorem Kp.num {j : Nat} {u : Value} : Kp w L (w.setCell ⟨L.b, j, none⟩ u) L :=
 ⟨rfl, rfl, rfl, by rw [World.size_setCell]; exact zl _, fun k _ hb _ => zk _ _ _ _ (by rintro rfl; exact hb rfl), rfl, rfl, fun p _ h => .inl ⟨p, h⟩, fun _ _ _ => rfl⟩
/-- From w to w1 at most the row of p0 has turned. -/
structure Br (w w1 : World) (L : Ly) (p0 : Part) : Prop where
 os : w1.os = w.os
 tape : w1.tape = w.tape
 output : w1.output = w.output
 size : w.heap.size ≤ w1.heap.size
 block : ∀ b, b < w.heap.size → (L.V p0).ownBlock ≠ some b → w1.heap[b]? = w.heap[b]?
theorem Br.of_below {p0 : Part} (hb : Below w.heap.size w w1) : Br w w1 L p0 := ⟨hb.os, hb.tape, hb.output, hb.size, fun b h _ => hb.block b h⟩
theorem Br.grown {p0 : Part} (hb : Br w w1 L p0) (hg : w1.grownBy w' (L.V p0).ownBlock) : Br w w' L p0 :=
 ⟨hg.os.trans hb.os, hg.tape.trans hb.tape, hg.output.trans hb.output, zt hb.size hg.size, fun b h hne => (hg.block b (Nat.lt_of_lt_of_le h hb.size) (fun e => hne e.symm)).trans (hb.block b h hne)⟩
theorem Kp.anew {p0 : Part} {hb j : Nat} {v : Value} (h : Br w w1 L p0) (hg : ∀ b, v.ownBlock = some b → (L.V p0).ownBlock = some b ∨ w.heap.size ≤ b) (hhb : hb = L.b ∨ ∃ q, (L.V q).ownBlock = some hb) (hp : p0 = .out ∨ ∃ x, p0 = .l x) :
 Kp w L (w1.setCell ⟨hb, j, none⟩ v) (L.set p0 v) :=
 ⟨h.os, h.tape, h.output, by rw [World.size_setCell]; exact h.size, fun g hgl hb1 hv => (zk _ _ _ _ (by
  rintro rfl
  rcases hhb with e | ⟨q, e⟩
  ·exact hb1 e
  ·exact hv q e)).trans (h.block g hgl (hv p0)), rfl, rfl, fun p g e => by
  by_cases e1 : p = p0
  ·subst e1
   rw [set_self] at e
   rcases hg g e with e2 | e2
   ·exact .inl ⟨_, e2⟩
   ·exact .inr e2
  ·rw [set_ne e1] at e
   exact .inl ⟨_, e⟩, fun p h1 h2 => set_ne (by
    rintro rfl
    rcases hp with e | ⟨x, e⟩
    ·exact h2 e
    ·exact h1 x e)⟩
/-! The kernel's own cells. -/
theorem rowsC_len (L : Ly) : (rowsC L).length = 32 := by simp [rowsC]
theorem headsC_len (L : Ly) : (headsC L).length = 37 := by simp [headsC, rowsC_len]
theorem headsC_row (L : Ly) {p : Nat} (hp : p < 32) : (headsC L)[1 + p]? = some (L.V (.l p)) := by
 unfold headsC
 rw [Nat.add_comm, zc, List.getElem?_append_left (by rw [rowsC_len]; exact hp)]
 simp [rowsC, hp]
theorem kerC_row (r : K) (L : Ly) {p : Nat} (hp : p < 32) : (kerC r L)[1 + p]? = some (L.V (.l p)) := by
 unfold kerC
 rw [List.getElem?_append_left (by rw [headsC_len]; omega)]
 exact headsC_row L hp
theorem kerC_head (r : K) (L : Ly) : (kerC r L)[0]? = some (L.V .ta) := rfl
theorem headsC_tail (L : Ly) {j : Nat} : (headsC L)[33 + j]? = ([L.V .sa, L.V .ow, L.V .qa, L.V .out] : List Value)[j]? := by
 unfold headsC
 rw [show 33 + j = (32 + j) + 1 by omega, zc, List.getElem?_append_right (by rw [rowsC_len]; omega), rowsC_len]
 congr 1
 omega
theorem kerC_tail (r : K) (L : Ly) {j : Nat} (hj : j < 4) : (kerC r L)[33 + j]? = ([L.V .sa, L.V .ow, L.V .qa, L.V .out] : List Value)[j]? := by
 unfold kerC
 rw [List.getElem?_append_left (by rw [headsC_len]; omega)]
 exact headsC_tail L
theorem kerC_num (r : K) (L : Ly) {j : Nat} : (kerC r L)[37 + j]? = (numsC r)[j]? := by
 unfold kerC
 rw [List.getElem?_append_right (by rw [headsC_len]; omega), headsC_len]
 congr 1
 omega
theorem RM.cRow (h : RM w B r L) {p : Nat} (hp : p < 32) : w.cell? ⟨L.b, 1 + p, none⟩ = some (L.V (.l p)) := by
 rw [h.ker.cell, za, kerC_row r L hp]
theorem RM.cTa (h : RM w B r L) : w.cell? ⟨L.b, 0, none⟩ = some (L.V .ta) := by
 rw [h.ker.cell, za, kerC_head]
theorem RM.cSa (h : RM w B r L) : w.cell? ⟨L.b, 33, none⟩ = some (L.V .sa) := by
 rw [h.ker.cell, za, kerC_tail r L (j := 0) (by decide)]; rfl
theorem RM.cOw (h : RM w B r L) : w.cell? ⟨L.b, 34, none⟩ = some (L.V .ow) := by
 rw [h.ker.cell, za, kerC_tail r L (j := 1) (by decide)]; rfl
theorem RM.cQa (h : RM w B r L) : w.cell? ⟨L.b, 35, none⟩ = some (L.V .qa) := by
 rw [h.ker.cell, za, kerC_tail r L (j := 2) (by decide)]; rfl
theorem RM.cOut (h : RM w B r L) : w.cell? ⟨L.b, 36, none⟩ = some (L.V .out) := by
 rw [h.ker.cell, za, kerC_tail r L (j := 3) (by decide)]; rfl
theorem RM.cTicks (h : RM w B r L) : w.cell? ⟨L.b, 37, none⟩ = some (.int .i64 r.ticks) := by
 rw [h.ker.cell, za, kerC_num r L (j := 0)]; rfl
theorem RM.cOps (h : RM w B r L) : w.cell? ⟨L.b, 38, none⟩ = some (.int .i64 r.ops) := by
 rw [h.ker.cell, za, kerC_num r L (j := 1)]; rfl
theorem RM.cCount (h : RM w B r L) : w.cell? ⟨L.b, 39, none⟩ = some (.int .i64 r.count) := by
 rw [h.ker.cell, za, kerC_num r L (j := 2)]; rfl
theorem RM.cRan (h : RM w B r L) : w.cell? ⟨L.b, 40, none⟩ = some (.int .i64 r.ran) := by
 rw [h.ker.cell, za, kerC_num r L (j := 3)]; rfl
theorem RM.cMost (h : RM w B r L) : w.cell? ⟨L.b, 41, none⟩ = some (.int .i64 r.most) := by
 rw [h.ker.cell, za, kerC_num r L (j := 4)]; rfl
theorem RM.cSince (h : RM w B r L) : w.cell? ⟨L.b, 42, none⟩ = some (.int .i64 r.sinceOps) := by
 rw [h.ker.cell, za, kerC_num r L (j := 5)]; rfl
theorem RM.free (h : RM w B r L) (j : Nat) : w.frozen? ⟨L.b, j, none⟩ = false := h.ker.frozen j
/-! A task's cells. -/
theorem RM.ta (h : RM w B r L) (hn : 0 < r.tasks.length) : ∃ g c, L.V .ta = .slice (some ⟨g, 0, none⟩) r.tasks.length c := h.form (p := .ta) hn
theorem tasksC_at {i j : Nat} (hi : i < r.tasks.length) (hj : j < 13) : (tasksC r L)[i * 13 + j]? = (taskC L i (r.ti i))[j]? := by
 have := flat_at (f := fun i => taskC L i (r.ti i)) (n := 13) (fun a => taskC_len L a _) (List.range r.tasks.length) i j (by rw [List.length_range]; exact hi) hj
 rwa [List.getElem_range] at this
theorem RM.cTask (h : RM w B r L) {g c i j : Nat} (hv : L.V .ta = .slice (some ⟨g, 0, none⟩) r.tasks.length c) (hi : i < r.tasks.length) (hj : j < 13) : w.cell? ⟨g, i * 13 + j, none⟩ = (taskC L i (r.ti i))[j]? := by
 have q := h.row .ta
 rw [hv] at q
 rw [q.cellAt (i * 13 + j) (by show _ < r.tasks.length * 13; omega)]
 exact tasksC_at hi hj
theorem RM.rowFree (h : RM w B r L) {p : Part} {g n c : Nat} (hv : L.V p = .slice (some ⟨g, 0, none⟩) n c) (j : Nat) : w.frozen? ⟨g, j, none⟩ = false := by
 have q := h.row p
 obtain ⟨A, c', e1, _⟩ := h.slice p
 have hn : n = p.len r := by rw [hv] at e1; injection e1
 rw [hv, hn] at q
 exact q.frozenAt j
theorem Sm.setT {i : Nat} {f : T → T} (hi : i < r.tasks.length) (ho : (f (r.ti i)).ops = (r.ti i).ops) : Sm r (r.setT i f) :=
 ⟨len_setT, fun j => by
  rw [ti_setT hi]
  by_cases e : j = i
  ·rw [if_pos e, ho, e]
  ·rw [if_neg e], rfl, rfl⟩
theorem len_T {i : Nat} {f : T → T} (hi : i < r.tasks.length) (hl : (f (r.ti i)).loops.length = (r.ti i).loops.length) (p : Part) : p.len (r.setT i f) = p.len r := by
 cases p with
 | ta => exact len_setT
 | lp j =>
   show ((r.setT i f).ti j).loops.length = _
   rw [ti_setT hi]
   by_cases e : j = i
   ·rw [if_pos e, hl, e]; rfl
   ·rw [if_neg e]; rfl
 | _ => rfl
theorem cells_T {i : Nat} {f : T → T} (hi : i < r.tasks.length) (hl : (f (r.ti i)).loops = (r.ti i).loops) (p : Part) (hp : p ≠ .ta) : p.cells (r.setT i f) L = p.cells r L := by
 cases p with
 | ta => exact absurd rfl hp
 | lp j =>
   show intV ((r.setT i f).ti j).loops = _
   rw [ti_setT hi]
   by_cases e : j = i
   ·rw [if_pos e, hl, e]; rfl
   ·rw [if_neg e]; rfl
 | _ => rfl
theorem tasksC_set {i j : Nat} {f : T → T} {u : Value} (hi : i < r.tasks.length) (hj : j < 13) (he : taskC L i (f (r.ti i)) = (taskC L i (r.ti i)).set j u) : tasksC (r.setT i f) L = (tasksC r L).set (i * 13 + j) u := by
 unfold tasksC
 rw [len_setT]
 refine flat_set (fun a => taskC_len L a _) (fun a => taskC_len L a _) hj ?_ (fun k hk _ => ?_)
 ·rw [ti_setT hi, if_pos rfl]; exact he
 ·rw [ti_setT hi, if_neg hk]
/-- A task's cell is written. -/
theorem RM.task (h : RM w B r L) {g c n i j : Nat} {f : T → T} {u : Value} (hv : L.V .ta = .slice (some ⟨g, 0, none⟩) n c) (hi : i < r.tasks.length) (hj : j < 13) (he : taskC L i (f (r.ti i)) = (taskC L i (r.ti i)).set j u)
 (ho : (f (r.ti i)).ops = (r.ti i).ops) (hl : (f (r.ti i)).loops = (r.ti i).loops) : RM (w.setCell ⟨g, i * 13 + j, none⟩ u) B (r.setT i f) L :=
 h.put .ta hv (Sm.setT hi ho) rfl (len_T hi (by rw [hl])) (tasksC_set hi hj he) (cells_T hi hl)
theorem Kp.task {g c n i j : Nat} {u : Value} (hv : L.V .ta = .slice (some ⟨g, 0, none⟩) n c) : Kp w L (w.setCell ⟨g, i * 13 + j, none⟩ u) L := Kp.put (p := .ta) (by rw [hv]; rfl)
/-! Lists. -/
theorem headsC_set {p0 : Part} {v : Value} {j : Nat} (h : (p0 = .ta ∧ j = 0) ∨ (∃ x, p0 = .l x ∧ x < 32 ∧ j = 1 + x) ∨ (p0 = .sa ∧ j = 33) ∨ (p0 = .ow ∧ j = 34) ∨ (p0 = .qa ∧ j = 35) ∨ (p0 = .out ∧ j = 36)) : headsC (L.set p0 v) = (headsC L).set j v := by
 have hrows : (∀ x, p0 ≠ .l x) → rowsC (L.set p0 v) = rowsC L := fun hx => by
  unfold rowsC
  apply List.map_congr_left
  intro p _
  exact set_ne (fun e => hx p e.symm)
 rcases h with ⟨rfl, rfl⟩ | ⟨x, rfl, hx, rfl⟩ | ⟨rfl, rfl⟩ | ⟨rfl, rfl⟩ | ⟨rfl, rfl⟩ | ⟨rfl, rfl⟩
 ·unfold headsC
  rw [hrows (by intro x; simp), set_self, set_ne (by decide), set_ne (by decide), set_ne (by decide), set_ne (by decide)]
  rfl
 ·unfold headsC
  rw [set_ne (by simp), set_ne (by simp), set_ne (by simp), set_ne (by simp), set_ne (by simp)]
  rw [Nat.add_comm, List.set_cons_succ, List.set_append_left _ _ (by rw [rowsC_len]; exact hx)]
  congr 2
  unfold rowsC
  apply List.ext_getElem?
  intro i
  rw [List.getElem?_set]
  by_cases e : x = i
  ·subst e
   simp [hx, set_self]
  ·rw [if_neg e]
   simp only [List.getElem?_map]
   by_cases hi : i < 32
   ·rw [List.getElem?_range hi]
    simp only [Option.map_some]
    rw [set_ne (by simp; omega)]
   ·rw [List.getElem?_eq_none (by simp; omega)]
    rfl
 all_goals
  unfold headsC
  rw [hrows (by intro x; simp), set_self]
  simp only [set_ne (show Part.ta ≠ Part.sa by decide), set_ne (show Part.ta ≠ Part.ow by decide), set_ne (show Part.ta ≠ Part.qa by decide), set_ne (show Part.ta ≠ Part.out by decide),
   set_ne (show Part.sa ≠ Part.ow by decide), set_ne (show Part.sa ≠ Part.qa by decide), set_ne (show Part.sa ≠ Part.out by decide), set_ne (show Part.ow ≠ Part.sa by decide), set_ne (show Part.ow ≠ Part.qa by decide), set_ne (show Part.ow ≠ Part.out by decide),
   set_ne (show Part.qa ≠ Part.sa by decide), set_ne (show Part.qa ≠ Part.ow by decide), set_ne (show Part.qa ≠ Part.out by decide), set_ne (show Part.out ≠ Part.sa by decide), set_ne (show Part.out ≠ Part.ow by decide), set_ne (show Part.out ≠ Part.qa by decide)]
  rw [List.set_cons_succ, List.set_append_right _ _ (by rw [rowsC_len]; decide), rowsC_len]
  rfl
theorem kerC_set {p0 : Part} {v : Value} {j : Nat} (h : (p0 = .ta ∧ j = 0) ∨ (∃ x, p0 = .l x ∧ x < 32 ∧ j = 1 + x) ∨ (p0 = .sa ∧ j = 33) ∨ (p0 = .ow ∧ j = 34) ∨ (p0 = .qa ∧ j = 35) ∨ (p0 = .out ∧ j = 36)) (hn : numsC r' = numsC r) : kerC r' (L.set p0 v) = (kerC r L).set j v := by
 unfold kerC
 rw [hn, headsC_set h, List.set_append_left _ _ (by rw [headsC_len]; rcases h with ⟨_, rfl⟩ | ⟨x, _, hx, rfl⟩ | ⟨_, rfl⟩ | ⟨_, rfl⟩ | ⟨_, rfl⟩ | ⟨_, rfl⟩ <;> omega)]
theorem taskC_set {i : Nat} {t : T} {p0 : Part} {v : Value} (h : p0 ≠ .lp i) : taskC (L.set p0 v) i t = taskC L i t := by
 unfold taskC
 rw [set_ne (Ne.symm h)]
 rfl
theorem queC_set {i : Nat} {p0 : Part} {v : Value} (h : p0 ≠ .l (32 + i)) : queC r (L.set p0 v) i = queC r L i := by
 unfold queC
 rw [set_ne (Ne.symm h)]
/-- The head of a row is put anew into the kernel's own block. -/
theorem RM.anewK (h : RM w B r L) {p0 : Part} {v : Value} {j : Nat} (hp : (∃ x, p0 = .l x ∧ x < 32 ∧ j = 1 + x) ∨ (p0 = .sa ∧ j = 33) ∨ (p0 = .ow ∧ j = 34) ∨ (p0 = .out ∧ j = 36)) (hn : numsC r' = numsC r)
 (hv : w1.ownsRow B p0.ty p0.sz v (p0.len r') (p0.cells r' (L.set p0 v))) (hb : Br w w1 L p0) (hg : ∀ b, v.ownBlock = some b → (L.V p0).ownBlock = some b ∨ w.heap.size ≤ b) (s : Sm r r')
 (hlen : ∀ p : Part, p ≠ p0 → p.len r' = p.len r) (hc : ∀ p, p ≠ p0 → p.cells r' L = p.cells r L) : RM (w1.setCell ⟨L.b, j, none⟩ v) B r' (L.set p0 v) := by
 have hx : ∀ i, p0 ≠ .lp i ∧ p0 ≠ .l (32 + i) := by
  rcases hp with ⟨x, rfl, hx, _⟩ | ⟨rfl, _⟩ | ⟨rfl, _⟩ | ⟨rfl, _⟩ <;> intro i <;> refine ⟨by simp, ?_⟩ <;> simp
  omega
 have hj : (p0 = .ta ∧ j = 0) ∨ (∃ x, p0 = .l x ∧ x < 32 ∧ j = 1 + x) ∨ (p0 = .sa ∧ j = 33) ∨ (p0 = .ow ∧ j = 34) ∨ (p0 = .qa ∧ j = 35) ∨ (p0 = .out ∧ j = 36) := by
  rcases hp with h | h | h | h
  ·exact .inr (.inl h)
  ·exact .inr (.inr (.inl h))
  ·exact .inr (.inr (.inr (.inl h)))
  ·exact .inr (.inr (.inr (.inr (.inr h))))
 have hL : ∀ p : Part, p.cells r' (L.set p0 v) = p.cells r' L := fun p => by
  cases p with
  | ta =>
    show (List.range _).flatMap _ = (List.range _).flatMap _
    congr 1
    funext i
    exact taskC_set (hx i).1
  | qa =>
    show (List.range _).flatMap _ = (List.range _).flatMap _
    congr 1
    funext i
    exact queC_set (hx i).2
  | _ => rfl
 refine h.anew (hb := L.b) (j := j) hv hb.block hg rfl (.inl rfl) s ?_ (fun p _ e => absurd e (h.ne p)) hlen (fun p e _ => by rw [hL, hc p e])
 rw [kerC_set hj hn]
 have := (h.ker.same (hb.block _ h.lt (h.ne p0))).put j v
 rwa [List.setIfInBounds_toArray] at this
theorem Sm.setL {x : Nat} {f : List Int → List Int} : Sm r (r.setL x f) := ⟨rfl, fun _ => rfl, by simp [K.setL], rfl⟩
theorem l_same {x : Nat} {f : List Int → List Int} (h : RM w B r L) (hx : x < 40) : (r.setL x f).l x = f (r.l x) := by rw [l_setL h.lens hx, if_pos rfl]
theorem l_other {x y : Nat} {f : List Int → List Int} (h : RM w B r L) (hx : x < 40) (hy : y ≠ x) : (r.setL x f).l y = r.l y := by rw [l_setL h.lens hx, if_neg hy]
theorem len_L {x : Nat} {f : List Int → List Int} (h : RM w B r L) (hx : x < 40) (p : Part) (hp : p ≠ .l x) : p.len (r.setL x f) = p.len r := by
 cases p with
 | l y => show ((r.setL x f).l y).length = _; rw [l_other h hx (fun e => hp (by rw [e]))]; rfl
 | _ => rfl
theorem cells_L {x : Nat} {f : List Int → List Int} (h : RM w B r L) (hx : x < 40) (p : Part) (hp : p ≠ .l x) : p.cells (r.setL x f) L = p.cells r L := by
 cases p with
 | l y => show intV ((r.setL x f).l y) = _; rw [l_other h hx (fun e => hp (by rw [e]))]; rfl
 | _ => rfl
/-- A row of ready tasks is put anew. -/
theorem RM.setRow (h : RM w B r L) {x : Nat} {f : List Int → List Int} {v : Value} (hx : x < 32) (hv : w1.ownsRow B 3 1 v (f (r.l x)).length (intV (f (r.l x)))) (hb : Br w w1 L (.l x))
 (hg : ∀ b, v.ownBlock = some b → (L.V (.l x)).ownBlock = some b ∨ w.heap.size ≤ b) : RM (w1.setCell ⟨L.b, 1 + x, none⟩ v) B (r.setL x f) (L.set (.l x) v) ∧ Kp w L (w1.setCell ⟨L.b, 1 + x, none⟩ v) (L.set (.l x) v) := by
 refine ⟨h.anewK (.inl ⟨x, rfl, hx, rfl⟩) rfl ?_ hb hg Sm.setL (len_L h (by omega)) (cells_L h (by omega)), Kp.anew hb hg (.inl rfl) (.inr ⟨x, rfl⟩)⟩
 show w1.ownsRow B 3 1 v ((r.setL x f).l x).length (intV ((r.setL x f).l x))
 rw [l_same h (by omega)]
 exact hv
/-- What was written is put anew. -/
theorem RM.setOut (h : RM w B r L) {l : List UInt8} {v : Value} (hv : w1.ownsRow B 5 1 v l.length (byteV l)) (hb : Br w w1 L .out) (hg : ∀ b, v.ownBlock = some b → (L.V .out).ownBlock = some b ∨ w.heap.size ≤ b) :
 RM (w1.setCell ⟨L.b, 36, none⟩ v) B { r with out := l } (L.set .out v) ∧ Kp w L (w1.setCell ⟨L.b, 36, none⟩ v) (L.set .out v) :=
 ⟨h.anewK (r' := { r with out := l }) (.inr (.inr (.inr ⟨rfl, rfl⟩))) rfl hv hb hg ⟨rfl, fun _ => rfl, rfl, rfl⟩ (fun p hp => by cases p <;> first | rfl | exact absurd rfl hp) (fun p hp => by cases p <;> first | rfl | exact absurd rfl hp),
  Kp.anew hb hg (.inl rfl) (.inl rfl)⟩
end
end Rk
end Go.Proofs.Ytncbgnpoffolcaa
namespace Go.Proofs.Ytncbgnpoffolcaa
open Go.RowKit
section
variable {w : World} {o : Oper} {a : Act}
theorem intV_snoc (xs : List Int) (n : Int) : intV (xs ++ [n]) = intV xs ++ [.int .i64 n] := by simp [intV]
theorem intV_len (xs : List Int) : (intV xs).length = xs.length := by simp [intV]
/-- One number more behind a row of one's own. -/
theorem wp_appI {K : Act → World → Prop} {Q : Exit → Act → World → Prop} (s x : Operand) (ho : o.op = .call { callee := .builtin .append, args := #[s, x], argTypes := #[24, 24] })
 (base : Nat) (v : Value) (xs : List Int) (hs : a.eval s = v) (hown : w.ownsRow base 3 1 v xs.length (intV xs)) (n : Int) (ad : Addr) (c : Nat) (hx : a.eval x = .slice (some ad) 1 c) (hn : w.cell? ad = some (.int .i64 n)) (hl : xs.length ≤ 1000000) (hbase : base ≤ w.heap.size)
 (h : ∀ g cap w', w'.ownsRow base 3 1 (.slice (some ⟨g, 0, none⟩) (xs.length + 1) cap) (xs ++ [n]).length (intV (xs ++ [n])) → w.grownBy w' v.ownBlock → (v.ownBlock = some g ∨ g = w.heap.size) → K (a.put o.dst (.slice (some ⟨g, 0, none⟩) (xs.length + 1) cap)) w') : o.wp Try.prog a w K Q := by
 obtain ⟨i3, hi3, hi30, hi31, hi32⟩ := info_parts info3
 have hnews : ∀ (j : Nat) (u : Value), ([.int .i64 n] : List Value)[j]? = some u → w.cell? (ad.add j) = some u := by
  intro j u hj
  rcases j with _ | j
  ·simp at hj
   subst hj
   rw [show ad.add 0 = ad by unfold Addr.add; simp]
   exact hn
  ·simp at hj
 refine wp_append_lies w s x 24 ho base 3 i3 _ 1 8 Try.underlying24 hi3 hi30 hi31 hi32 rfl (by decide) v xs.length (intV xs) hs hown ad 1 c [.int .i64 n] hx rfl hnews (by simp [Value.oneCell']) (by decide) (by unfold maxLen; omega) (by omega) hbase _ rfl ?_
 intro g cap w' h2 h3 h4 _
 refine h g cap w' ?_ h3 h4
 rw [intV_snoc, List.length_append, List.length_singleton]
 exact h2
theorem wpList_appI {ops : Array Oper} {rest : List Oper} {Q : Exit → Act → World → Prop} (hgd : o.guard = none) (s x : Operand) (ho : o.op = .call { callee := .builtin .append, args := #[s, x], argTypes := #[24, 24] })
 (base : Nat) (v : Value) (xs : List Int) (hs : a.eval s = v) (hown : w.ownsRow base 3 1 v xs.length (intV xs)) (n : Int) (ad : Addr) (c : Nat) (hx : a.eval x = .slice (some ad) 1 c) (hn : w.cell? ad = some (.int .i64 n)) (hl : xs.length ≤ 1000000) (hbase : base ≤ w.heap.size)
 (h : ∀ g cap w', w'.ownsRow base 3 1 (.slice (some ⟨g, 0, none⟩) (xs.length + 1) cap) (xs ++ [n]).length (intV (xs ++ [n])) → w.grownBy w' v.ownBlock → (v.ownBlock = some g ∨ g = w.heap.size) → wpList Try.prog ops Q rest (a.put o.dst (.slice (some ⟨g, 0, none⟩) (xs.length + 1) cap)) w') : wpList Try.prog ops Q (o :: rest) a w :=
 wpList_plain hgd fun _ hK => wp_appI s x ho base v xs hs hown n ad c hx hn hl hbase fun g cap w' h2 h3 h4 => hK _ _ (h g cap w' h2 h3 h4)
theorem step_appI {ops : Array Oper} {K : Act → World → Prop} {Q : Exit → Act → World → Prop} {E : Prop} (hgd : o.guard = none) (s x : Operand) (ho : o.op = .call { callee := .builtin .append, args := #[s, x], argTypes := #[24, 24] })
 (base : Nat) (v : Value) (xs : List Int) (hs : a.eval s = v) (hown : w.ownsRow base 3 1 v xs.length (intV xs)) (n : Int) (ad : Addr) (c : Nat) (hx : a.eval x = .slice (some ad) 1 c) (hn : w.cell? ad = some (.int .i64 n)) (hl : xs.length ≤ 1000000) (hbase : base ≤ w.heap.size)
 (h : ∀ g cap w', w'.ownsRow base 3 1 (.slice (some ⟨g, 0, none⟩) (xs.length + 1) cap) (xs ++ [n]).length (intV (xs ++ [n])) → w.grownBy w' v.ownBlock → (v.ownBlock = some g ∨ g = w.heap.size) → K (a.put o.dst (.slice (some ⟨g, 0, none⟩) (xs.length + 1) cap)) w') : if Region.wanted o (yielded ops a.tmps) = true then Oper.wp Try.prog o a w K Q else E := by
 have hw : Region.wanted o (yielded ops a.tmps) = true := by simp [Region.wanted, hgd]
 rw [if_pos hw]
 exact wp_appI s x ho base v xs hs hown n ad c hx hn hl hbase h
/-- A slice of one number; a slice's value stored. -/
theorem run_bsI (n : Int) (w : World) : (Instr.buildSlice 24 1 #[(0, .int .i64 n)]).run Try.prog w = .ok (.slice (some ⟨w.heap.size, 0, none⟩) 1 1) (w.alloc (.cells #[.int .i64 n] 3)) := by
 go_simp
theorem step_bsI {ops : Array Oper} {K : Act → World → Prop} {Q : Exit → Act → World → Prop} {E : Prop} (hgd : o.guard = none) (x : Operand) (ho : o.op = .buildSlice 24 1 #[(0, x)]) (n : Int) (hx : a.eval x = .int .i64 n)
 (h : K (a.put o.dst (.slice (some ⟨w.heap.size, 0, none⟩) 1 1)) (w.alloc (.cells #[.int .i64 n] 3))) : if Region.wanted o (yielded ops a.tmps) = true then Oper.wp Try.prog o a w K Q else E := by
 have hw : Region.wanted o (yielded ops a.tmps) = true := by simp [Region.wanted, hgd]
 rw [if_pos hw]
 have hr : (execOp a.eval o).run Try.prog w = .ok (.value (.slice (some ⟨w.heap.size, 0, none⟩) 1 1)) (w.alloc (.cells #[.int .i64 n] 3)) := by
  unfold execOp
  simp [ho, hx, run_bsI]
 unfold Oper.wp
 rw [hr]
 exact h
theorem run_storeI {p : Addr} {x : Value} {A : Option Addr} {n c : Nat} (hc : w.cell? p = some x) (hf : w.frozen? p = false) : (Instr.storeAt 24 (.pointer (some p)) (.slice A n c)).run Try.prog w = .ok () (w.setCell p (.slice A n c)) := by
 go_simp
theorem step_storeI {ops : Array Oper} {K : Act → World → Prop} {Q : Exit → Act → World → Prop} {E : Prop} (hgd : o.guard = none) (x y : Operand) (ho : o.op = .store 24 x y) {p : Addr} {z : Value} {A : Option Addr} {n c : Nat} (hx : a.eval x = .pointer (some p)) (hy : a.eval y = .slice A n c) (hc : w.cell? p = some z) (hf : w.frozen? p = false)
 (h : K (a.put o.dst undef) (w.setCell p (.slice A n c))) : if Region.wanted o (yielded ops a.tmps) = true then Oper.wp Try.prog o a w K Q else E := by
 have hw : Region.wanted o (yielded ops a.tmps) = true := by simp [Region.wanted, hgd]
 rw [if_pos hw]
 have hr' : (execOp a.eval o).run Try.prog w = .ok .skip (w.setCell p (.slice A n c)) := by
  unfold execOp
  simp only [ho, hx, hy]
  simp [run_storeI hc hf]
 unfold Oper.wp
 rw [hr']
 exact h
theorem lt_al {w : World} {n : Nat} (h : n < w.heap.size) (o : Obj) : n < (w.alloc o).heap.size := by
 rw [World.size_alloc]
 omega
end
namespace Rk
theorem filter_snoc {l : List Int} {j : Nat} {m : Int} (h : j < l.length) : (l.take (j + 1)).filter (· ≠ m) = (l.take j).filter (· ≠ m) ++ (if l[j] = m then [] else [l[j]]) := by
 rw [List.take_succ_eq_append_getElem h, List.filter_append]
 congr 1
 by_cases e : l[j] = m
 ·simp [e]
 ·simp [e]
/-- A row of numbers, read. -/
theorem row_int {w : World} {B : Nat} {v : Value} {l : List Int} (h : w.ownsRow B 3 1 v l.length (intV l)) {j : Nat} (hj : j < l.length) : ∃ g c, v = .slice (some ⟨g, 0, none⟩) l.length c ∧ v.ownBlock = some g ∧ w.cell? ⟨g, j, none⟩ = some (.int .i64 l[j]) := by
 obtain ⟨g, c, e, _⟩ := h.form (by omega)
 refine ⟨g, c, e, by rw [e]; rfl, ?_⟩
 rw [e] at h
 rw [h.cellAt j (by omega)]
 simp [intV, hj]
set_option maxRecDepth 100000 in
set_option maxHeartbeats 2000000 in
theorem leave_any {w : World} {B : Nat} {r : K} {L : Ly} {m : Nat} (h : RM w B r L) (hm : m < r.tasks.length) (hn : r.tasks.length ≤ 1000) (hp : 0 ≤ (r.ti m).prio ∧ (r.ti m).prio < 32) (hlen : (r.l (r.ti m).prio.toNat).length ≤ 1000000) :
 Calls Try.prog 74 #[.pointer (some ⟨L.b, 0, none⟩), .int .i64 m] w fun e w' => e = .returned (.tuple #[]) ∧ ∃ L', RM w' B (r.leave m) L' ∧ Kp w L w' L' := by
 obtain ⟨p, hp'⟩ := Int.eq_ofNat_of_zero_le hp.1
 have hp32 : p < 32 := by omega
 have ip : (p : Int) < 32 := by omega
 have ip0 : (0 : Int) ≤ p := by omega
 have im : (m : Int) < r.tasks.length := by omega
 have im0 : (0 : Int) ≤ m := by omega
 obtain ⟨gt, ct, hta⟩ := h.ta (by omega)
 have c0 := h.cTa
 rw [hta] at c0
 have c1 : w.cell? ⟨gt, m * 13 + 1, none⟩ = some (.int .i64 (r.ti m).prio) := (h.cTask hta hm (j := 1) (by decide))
 rw [hp'] at c1
 have E : Hid (r.leave m = r.setL p (·.filter (· ≠ (m : Int)))) := by
  show K.setL r (r.ti m).prio.toNat _ = _
  rw [hp']
  rfl
 rw [hp'] at hlen
 replace hlen : (r.l p).length ≤ 1000000 := hlen
 have HK := zh h
 obtain ⟨A, c, hV, _, _⟩ := h.slice (.l p)
 replace hV : L.V (.l p) = .slice A (r.l p).length c := hV
 have HV := zh hV
 clear hp hp' hV h
 go_enter Try.func74, Try.ntmps74
 go_wp2_with fail
 go_loopg [6, 5] (r.l p).length (fun kk i s wr => ∃ (j : Nat) (ys : List Int), j ≤ (r.l p).length ∧ i = .int .i64 j ∧ ys = ((r.l p).take j).filter (· ≠ (m : Int)) ∧ wr.ownsRow w.heap.size 3 1 s ys.length (intV ys) ∧ Below w.heap.size w wr ∧ (r.l p).length - j ≤ kk)
 case atStart => exact ⟨0, [], Nat.zero_le _, rfl, by simp, World.ownsRow_nil _ _ _ _, zr _ _, by omega⟩
 case round =>
  obtain ⟨j, ys, hj, rfl, hys, hrow, hb, hkk⟩ := hrel
  have HKr := zh (HK.out.below hb)
  have HB := zh hb
  have HR := zh hrow
  have hysl : ys.length ≤ 1000000 := by rw [hys]; exact zt (List.length_filter_le _ _) (by rw [List.length_take]; omega)
  have HY := zh hys
  have r0 := HKr.out.cRow hp32
  rw [HV.out] at r0
  clear hb hrow hys
  by_cases hlt : j < (r.l p).length
  ·have hlt' : (j : Int) < (r.l p).length := by omega
   obtain ⟨g, cg, e1, _, hc⟩ := row_int (HKr.out.row (.l p)) (j := j) hlt
   rw [HV.out] at e1
   injection e1 with e1 _ e2
   subst e1
   have HF := zh (filter_snoc (m := (m : Int)) hlt)
   have HS := zh hlt
   generalize hx : (r.l p)[j] = x at *
   clear hx
   by_cases hv : x = (m : Int)
   ·have hv2 : (x == (m : Int)) = true := by simp [hv]
    have HE : Hid ((List.take (j + 1) (r.l p)).filter (fun x => decide (x ≠ (m : Int))) = ys) := by
     show _ = _
     rw [HF.out, if_pos hv, List.append_nil, HY.out]
    go_wp2_with fail
    go_roundg ((r.l p).length - (j + 1))
    case measure => omega
    case rel => exact ⟨j + 1, ys, by omega, by go_num, HE.out.symm, HR.out, HB.out, zl _⟩
   ·have hv2 : (x == (m : Int)) = false := by simp [hv]
    have HE : Hid ((List.take (j + 1) (r.l p)).filter (fun x => decide (x ≠ (m : Int))) = ys ++ [x]) := by
     show _ = _
     rw [HF.out, if_neg hv, HY.out]
    have hn0 : (wr.alloc (.cells #[.int .i64 x] 3)).cell? ⟨wr.heap.size, 0, none⟩ = some (.int .i64 x) := (zm wr 3 #[.int .i64 x]).cell 0
    have hzr := HB.out.size
    go_wp2_with (at_builtin; refine wpList_appI rfl _ _ rfl w.heap.size _ ys rfl (HR.out.alloc _) x ⟨wr.heap.size, 0, none⟩ 1 rfl hn0 hysl (by simp; omega) ?_)
    intro gg cap w5 hown hgrow hor
    have hbw : Below w.heap.size w w5 := (HB.out.alloc hzr _).grown hgrow (by simp; omega) (fun b hb => (HR.out.lt b hb).1)
    go_wp2_with fail
    go_roundg ((r.l p).length - (j + 1))
    case measure => omega
    case rel => exact ⟨j + 1, ys ++ [x], by omega, by go_num, HE.out.symm, by rw [show (ys ++ [x]).length = ys.length + 1 by simp]; exact hown, hbw, zl _⟩
  ·have hge : ¬ (j : Int) < (r.l p).length := by omega
   have hjl : j = (r.l p).length := by omega
   subst hjl
   rw [List.take_length] at HY
   obtain ⟨A5, c5, e5, _, _⟩ := row_slice HR.out
   subst e5
   have hf := HKr.out.free (1 + p)
   obtain ⟨k1, k2⟩ := HK.out.setRow (f := (·.filter (· ≠ (m : Int)))) (w1 := wr) (v := .slice A5 ys.length c5) hp32 (by rw [← HY.out]; exact row_mono HR.out (zt HK.out.low (Nat.le_of_lt HK.out.lt))) (.of_below HB.out) (fun b hb => .inr (HR.out.lt b hb).1)
   rw [← E.out] at k1
   have K1 := zh k1
   have K2 := zh k2
   clear k1 k2
   go_wp2_with fail
   go_end0
   exact ⟨rfl, _, K1.out, K2.out⟩
end Rk
end Go.Proofs.Ytncbgnpoffolcaa
namespace Go.Proofs.Ytncbgnpoffolcaa
open Go.RowKit
namespace Rk
theorem run_at_row {r : K} {j : Nat} {x : Int} {q : List Int} (hj : j < 32) (hn : ∀ p, p < j → r.l p = []) (h : r.l j = x :: q) : r.running = x :=
 first_at _ j (fun p hp => (take_getD _ (by omega)).trans (hn p hp)) ((take_getD _ hj).trans h)
theorem run_no_row {r : K} (hn : ∀ p, p < 32 → r.l p = []) : r.running = -1 :=
 first_none _ fun p hp => by
  have : p < 32 := by rw [List.length_take] at hp; omega
  exact (take_getD _ this).trans (hn p this)
set_option maxRecDepth 100000 in
set_option maxHeartbeats 2000000 in
theorem running_any {w : World} {B : Nat} {r : K} {L : Ly} (h : RM w B r L) (hlen : ∀ x, (r.l x).length ≤ 1000000) :
 Calls Try.prog 47 #[.pointer (some ⟨L.b, 0, none⟩)] w fun e w' => e = .returned (.int .i64 r.running) ∧ w = w' := by
 have HK := zh h
 have HLN := zh hlen
 clear h hlen
 go_enter Try.func47, Try.ntmps47
 go_wp2_with fail
 go_loopg [3] 32 (fun kk i wr => ∃ (j : Nat), j ≤ 32 ∧ i = .int .i64 j ∧ (∀ p, p < j → r.l p = []) ∧ wr = w ∧ 32 - j ≤ kk)
 case atStart => exact ⟨0, Nat.zero_le _, rfl, by simp, rfl, by omega⟩
 case round =>
  obtain ⟨j, hj, rfl, hn, rfl, hkk⟩ := hrel
  have HN := zh hn
  clear hn
  by_cases hlt : j < 32
  ·have hlt' : (j : Int) < 32 := by omega
   have h0 : (0 : Int) ≤ j := by omega
   have c0 := HK.out.cRow hlt
   obtain ⟨A, c, hV, _, _⟩ := HK.out.slice (.l j)
   replace hV : L.V (.l j) = .slice A (r.l j).length c := hV
   rw [hV] at c0
   have hl6 := HLN.out j
   cases hl : r.l j with
   | nil =>
     have HN2 : Hid (∀ p, p < j + 1 → r.l p = []) := fun p hp => by
      by_cases e : p = j
      ·rw [e]; exact hl
      ·exact HN.out p (by omega)
     rw [hl] at c0
     simp only [List.length_nil] at c0
     go_wp2_with fail
     go_roundg (32 - (j + 1))
     case measure => omega
     case rel => exact ⟨j + 1, by omega, by go_num, HN2.out, rfl, zl _⟩
   | cons x q =>
     have E := zh (run_at_row hlt HN.out hl)
     obtain ⟨g, cg, e1, _, hc⟩ := row_int (HK.out.row (.l j)) (j := 0) (by show 0 < (r.l j).length; rw [hl]; simp)
     have hc' : wr.cell? ⟨g, 0, none⟩ = some (.int .i64 x) := by simpa [hl] using hc
     rw [hV] at e1
     injection e1 with e1 _ e2
     subst e1
     clear hc e2 hV
     rw [hl, List.length_cons] at c0
     rw [hl, List.length_cons] at hl6
     have hpos : (0 : Int) < ((q.length + 1 : Nat) : Int) := by omega
     generalize q.length + 1 = n at *
     go_wp2_with fail
     go_ret
     exact ⟨by rw [E.out]; rfl, rfl⟩
  ·have hge : ¬ (j : Int) < 32 := by omega
   have e : j = 32 := by omega
   subst e
   have E := zh (run_no_row HN.out)
   go_wp2_with fail
   go_ret
   exact ⟨by rw [E.out]; rfl, rfl⟩
theorem setT_comp (r : K) (n : Int) (f g : T → T) : (r.setT n f).setT n g = r.setT n (g ∘ f) := by
 unfold K.setT
 simp only [List.modify_modify_eq]
theorem RM.setCount {w : World} {B : Nat} {r : K} {L : Ly} (h : RM w B r L) (n : Nat) : RM (w.setCell ⟨L.b, 39, none⟩ (.int .i64 n)) B { r with count := n } L :=
 h.num (r' := { r with count := n }) ⟨rfl, fun _ => rfl, rfl, rfl⟩ (by unfold kerC; rw [List.set_append_right _ _ (by rw [headsC_len]; decide), headsC_len]; rfl) (fun p => by cases p <;> rfl) (fun p => by cases p <;> rfl)
set_option maxRecDepth 100000 in
set_option maxHeartbeats 4000000 in
theorem wait_any {w : World} {B : Nat} {r : K} {L : Ly} {m : Nat} (on id value : Int) (h : RM w B r L) (hm : m < r.tasks.length) (hn : r.tasks.length ≤ 1000) (hp : 0 ≤ (r.ti m).prio ∧ (r.ti m).prio < 32) (hlen : (r.l (r.ti m).prio.toNat).length ≤ 1000000) (hct : r.count ≤ 1000000000) :
 Calls Try.prog 77 #[.pointer (some ⟨L.b, 0, none⟩), .int .i64 m, .int .i64 on, .int .i64 id, .int .i64 value] w fun e w' => e = .returned (.tuple #[]) ∧ ∃ L', RM w' B (r.wait m on id value) L' ∧ Kp w L w' L' := by
 have HL := zh (leave_any h hm hn hp hlen)
 have im : (m : Int) < r.tasks.length := by omega
 have im0 : (0 : Int) ≤ m := by omega
 obtain ⟨gt, ct, hta⟩ := h.ta (by omega)
 have HTA := zh hta
 clear h hp hlen hta
 go_enter Try.func77, Try.ntmps77
 go_wp2_with fail
 refine HL.out.mono ?_
 rintro e w1 ⟨rfl, L1, k1, p1⟩
 have ebT : L1.V .ta = .slice (some ⟨gt, 0, none⟩) r.tasks.length ct := (p1.fix .ta (by simp) (by simp)).trans HTA.out
 have eb := p1.b
 have hm1 : m < (r.leave m).tasks.length := hm
 have c0 := k1.cTa
 rw [ebT, eb] at c0
 have t5 : w1.cell? ⟨gt, m * 13 + 5, none⟩ = some (.int .i64 (r.ti m).state) := k1.cTask ebT hm1 (j := 5) (by decide)
 have t8 : w1.cell? ⟨gt, m * 13 + 8, none⟩ = some (.int .i64 (r.ti m).on) := k1.cTask ebT hm1 (j := 8) (by decide)
 have t9 : w1.cell? ⟨gt, m * 13 + 9, none⟩ = some (.int .i64 (r.ti m).id) := k1.cTask ebT hm1 (j := 9) (by decide)
 have t10 : w1.cell? ⟨gt, m * 13 + 10, none⟩ = some (.int .i64 (r.ti m).value) := k1.cTask ebT hm1 (j := 10) (by decide)
 have t11 : w1.cell? ⟨gt, m * 13 + 11, none⟩ = some (.int .i64 (r.ti m).since) := k1.cTask ebT hm1 (j := 11) (by decide)
 have f5 := k1.rowFree ebT (m * 13 + 5)
 have f8 := k1.rowFree ebT (m * 13 + 8)
 have f9 := k1.rowFree ebT (m * 13 + 9)
 have f10 := k1.rowFree ebT (m * 13 + 10)
 have f11 := k1.rowFree ebT (m * 13 + 11)
 have ck := k1.cCount
 have fk := k1.free 39
 rw [eb] at ck fk
 have hne : gt ≠ L.b := fun e => k1.ne .ta (by rw [ebT, eb, ← e]; rfl)
 have hne' : L.b ≠ gt := hne.symm
 have hcw : IntKind.i64.wrap ((r.count : Int) + 1) = ((r.count + 1 : Nat) : Int) := by rw [IntKind.wrap_i64]; omega
 replace ck : w1.cell? ⟨L.b, 39, none⟩ = some (.int .i64 r.count) := ck
 have K1 := zh k1
 have P1 := zh p1
 clear k1 p1
 go_wp2_with fail
 go_end0
 have hmT : ∀ (k : K) (f : T → T), m < k.tasks.length → m < (k.setT m f).tasks.length := fun k f hk => by rw [len_setT]; exact hk
 have q1 := K1.out.task (f := fun t => { t with state := 1 }) (u := .int .i64 1) ebT hm1 (j := 5) (by decide) rfl rfl rfl
 have q2 := q1.task (f := fun t => { t with on := on }) (u := .int .i64 on) ebT (hmT _ _ hm1) (j := 8) (by decide) rfl rfl rfl
 have q3 := q2.task (f := fun t => { t with id := id }) (u := .int .i64 id) ebT (hmT _ _ (hmT _ _ hm1)) (j := 9) (by decide) rfl rfl rfl
 have q4 := q3.task (f := fun t => { t with value := value }) (u := .int .i64 value) ebT (hmT _ _ (hmT _ _ (hmT _ _ hm1))) (j := 10) (by decide) rfl rfl rfl
 have q5 := q4.setCount (r.count + 1)
 have q6 := q5.task (f := fun t => { t with since := r.count + 1 }) (u := .int .i64 ((r.count + 1 : Nat) : Int)) ebT (hmT _ _ (hmT _ _ (hmT _ _ (hmT _ _ hm1)))) (j := 11) (by decide) rfl rfl rfl
 have ek : K.setT { K.setT (K.setT (K.setT (K.setT (r.leave m) m fun t => { t with state := 1 }) m fun t => { t with on := on }) m fun t => { t with id := id }) m fun t => { t with value := value } with count := r.count + 1 } m (fun t => { t with since := r.count + 1 }) = r.wait m on id value := by
  unfold K.wait K.setT
  simp only [List.modify_modify_eq]
  rfl
 rw [ek, eb] at q6
 have p6 : Kp w1 L1 _ L1 := ((((Kp.task (i := m) (j := 5) (u := .int .i64 1) ebT).trans (Kp.task (i := m) (j := 8) (u := .int .i64 on) ebT)).trans (Kp.task (i := m) (j := 9) (u := .int .i64 id) ebT)).trans (Kp.task (i := m) (j := 10) (u := .int .i64 value) ebT)).trans ((Kp.num (j := 39) (u := .int .i64 ((r.count + 1 : Nat) : Int))).trans (Kp.task (i := m) (j := 11) (u := .int .i64 ((r.count + 1 : Nat) : Int)) ebT))
 rw [eb] at p6
 exact ⟨rfl, L1, q6, P1.out.trans p6⟩
end Rk
end Go.Proofs.Ytncbgnpoffolcaa
