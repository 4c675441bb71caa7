/-
  The kernel, plainly: its state and what each of its operations makes of it.
  Lists by number: 0 to 31 the rows, 32 and on what waits for a semaphore, 40 and on for a mutex, 48 and on what lies in a queue, 56 and on who waits to send, 64 and on who waits to receive.
  Words on memory: a block that is known whole; what a call leaves alone; a slice that reads as a list.
  The kernel in memory: each part has a block of its own; what a change of one part leaves alone.
  Lists of numbers: where one stands, and a list without it.
  A list without a number: the walk.
  Which task runs.
  The best one of those that wait.
  A list of the kernel's has turned: what the memory is then.
  A task out of its row: the walk of leave.
  A task of the kernel's has turned: what the memory is then.
  One number more behind a list.
  A list's head put anew: where the blocks lie then; what is not the kernel's.
-/
import Derived.Test.YtncbgnpoffolcaaNt
import Derived.Test.YtncbgnpoffolcaaProg
import Derived.WalkKit
import Derived.Deep.Draws
import Derived.Below
import Derived.Laws.OwnMore
import Derived.Deep.AppendLies
import Derived.Lib.OthersKept
import Derived.Lib.Hide
import Derived.Maps.Own
import Derived.Deep.LoopGhost
import Derived.Deep.Cut
import Derived.StillTailTactics
import Derived.ArgAppend
import Derived.Deep.MidRow
import Derived.BigQuiet
import Derived.Deep.QuietTactic
import Derived.Deep.RegionWith
import Derived.Maps.AppendAt
/-! The kernel, plainly: its state and what each of its operations makes of it.
  Lists by number: 0 to 31 the rows, 32 and on what waits for a semaphore, 40 and on for a mutex, 48 and on what lies in a queue, 56 and on who waits to send, 64 and on who waits to receive. -/
namespace Go.Proofs.Ytncbgnpoffolcaa
namespace Kn
structure Op where
 kind : Int
 a : Int
 b : Int
deriving DecidableEq
structure Task where
 prio : Int
 ops : List Op
deriving DecidableEq
structure Table where
 tasks : List Task
 sems : List Int
 mutexes : Int
 queues : List Int
/-- A task as it goes. -/
structure T where
 ops : List Op
 base : Int
 prio : Int
 state : Int
 place : Nat
 answer : Int
 loops : List Int
 on : Option Nat
 left : Int
 value : Int
structure K where
 tasks : List T
 lst : List (List Int)
 sems : List Int
 owner : List Int
 size : List Int
 out : List UInt8
 ticks : Nat
 ops : Nat
def noT : T := ⟨[], 0, 0, 2, 0, 0, [], none, 0, 0⟩
def K.t (k : K) (n : Int) : T := k.tasks.getD n.toNat noT
def K.setT (k : K) (n : Int) (f : T → T) : K := { k with tasks := k.tasks.modify n.toNat f }
def K.l (k : K) (x : Nat) : List Int := k.lst.getD x []
def K.setL (k : K) (x : Nat) (f : List Int → List Int) : K := { k with lst := k.lst.modify x f }
def first : List (List Int) → Int
 | [] => -1
 | [] :: r => first r
 | (x :: _) :: _ => x
def K.running (k : K) : Int := first (k.lst.take 32)
def K.leave (k : K) (n : Int) : K := k.setL (k.t n).prio.toNat (·.erase n)
def K.wake (k : K) (n answer : Int) : K :=
 let k1 := match (k.t n).on with
  | some x => k.setL x (·.erase n)
  | none => k
 let k2 := k1.setT n fun t => { t with state := 0, answer := answer, on := none, left := 0 }
 k2.setL (k2.t n).prio.toNat (· ++ [n])
def K.wait (k : K) (n : Int) (on : Option Nat) (left : Int) : K :=
 let k1 := (k.leave n).setT n fun t => { t with state := 1, on := on, left := left }
 match on with
 | some x => k1.setL x (· ++ [n])
 | none => k1
def K.bestOf (k : K) : List Int → Int → Int
 | [], b => b
 | n :: l, b => K.bestOf k l (if b < 0 ∨ (k.t n).prio < (k.t b).prio then n else b)
def K.best (k : K) (l : List Int) : Int := k.bestOf l (-1)
def K.release (k : K) (i : Nat) : K :=
 let b := k.best (k.l (40 + i))
 let k1 := { k with owner := k.owner.set i b }
 if 0 ≤ b then k1.wake b 0 else k1
def K.gives (n : Int) : Nat → Nat → K → K
 | 0, _, k => k
 | f + 1, i, k => K.gives n f (i + 1) (if k.owner.getD i (-1) = n then k.release i else k)
def K.fin (k : K) (n : Int) : K :=
 let k1 := (k.leave n).setT n fun t => { t with state := 2 }
 K.gives n k1.owner.length 0 k1
def K.ownerOf (k : K) (t : T) : Int :=
 match t.on with
 | some x => if 40 ≤ x ∧ x < 48 then k.owner.getD (x - 40) (-1) else -1
 | none => -1
/-- One round over the tasks: a higher one's number is handed on. -/
def K.pass (k : K) : List T → Nat → List Int → Bool → List Int × Bool
 | [], _, l, again => (l, again)
 | t :: r, i, l, again =>
   let o := k.ownerOf t
   if t.state = 1 ∧ 0 ≤ o ∧ l.getD i 0 < l.getD o.toNat 0 then K.pass k r (i + 1) (l.set o.toNat (l.getD i 0)) true else K.pass k r (i + 1) l again
def K.prios (k : K) : Nat → List Int → List Int
 | 0, l => l
 | f + 1, l =>
   match k.pass k.tasks 0 l false with
   | (l', true) => K.prios k f l'
   | (l', false) => l'
def K.priorities (k : K) : List Int := k.prios (32 * k.tasks.length + 1) (k.tasks.map (·.base))
def K.anewAt (last : Int) : List Int → Nat → K → K
 | [], _, k => k
 | p :: r, i, k =>
   let t := k.t i
   let k' :=
    if p = t.prio then k
    else if t.state ≠ 0 then k.setT i fun t => { t with prio := p }
    else
     let k1 := (k.leave i).setT i fun t => { t with prio := p }
     if (i : Int) = last then k1.setL p.toNat ((i : Int) :: ·) else k1.setL p.toNat (· ++ [(i : Int)])
   K.anewAt last r (i + 1) k'
def K.anew (k : K) (last : Int) : K := K.anewAt last k.priorities 0 k
def K.tickAt : Nat → Nat → K → K
 | 0, _, k => k
 | f + 1, i, k =>
   let t := k.t i
   let k' :=
    if t.state ≠ 1 ∨ t.left = 0 then k
    else
     let k1 := k.setT i fun t => { t with left := t.left - 1 }
     if 0 < t.left - 1 then k1 else k1.wake i (if t.on = none then 0 else 1)
   K.tickAt f (i + 1) k'
def K.tick (k : K) : K := (K.tickAt k.tasks.length 0 { k with ticks := k.ticks + 1 }).anew (-1)
def K.timed (k : K) : Bool := k.tasks.any fun t => decide (t.state = 1 ∧ 0 < t.left)
def K.say (k : K) (n a : Int) : K := k.setT n fun t => { t with answer := a }
def K.yield (k : K) (n : Int) : K := ((k.leave n).setL (k.t n).prio.toNat (· ++ [n])).say n 0
def K.put (k : K) (a : Int) : K := { k with out := k.out ++ [UInt8.ofNat a.toNat] }
def K.delay (k : K) (n : Int) (o : Op) : K := if o.a = 0 then k.yield n else k.wait n none o.a
def K.take (k : K) (n : Int) (o : Op) : K :=
 if k.sems.length ≤ o.a.toNat then k.say n 2
 else if 0 < k.sems.getD o.a.toNat 0 then ({ k with sems := k.sems.modify o.a.toNat (· - 1) }).say n 0
 else if o.b = 0 then k.say n 1
 else k.wait n (some (32 + o.a.toNat)) (if 0 ≤ o.b then o.b else 0)
def K.give1 (k : K) (n : Int) (a : Nat) (b : Int) : K :=
 if 0 ≤ b then k.wake b 0
 else if 100 ≤ k.sems.getD a 0 then k.say n 4
 else { k with sems := k.sems.modify a (· + 1) }
def K.give (k : K) (n : Int) (o : Op) : K :=
 if k.sems.length ≤ o.a.toNat then k.say n 2
 else (k.say n 0).give1 n o.a.toNat ((k.say n 0).best (k.l (32 + o.a.toNat)))
def K.lock (k : K) (n : Int) (o : Op) : K :=
 if k.owner.length ≤ o.a.toNat then k.say n 2
 else if k.owner.getD o.a.toNat 0 = -1 then ({ k with owner := k.owner.set o.a.toNat n }).say n 0
 else if k.owner.getD o.a.toNat 0 = n then k.say n 3
 else k.wait n (some (40 + o.a.toNat)) 0
def K.unlock (k : K) (n : Int) (o : Op) : K :=
 if k.owner.length ≤ o.a.toNat then k.say n 2
 else if k.owner.getD o.a.toNat 0 ≠ n then k.say n 3
 else (k.say n 0).release o.a.toNat
def K.send1 (k : K) (n : Int) (o : Op) (b : Int) : K :=
 if 0 ≤ b then (k.wake b o.b).say n 0
 else if ((k.l (48 + o.a.toNat)).length : Int) < k.size.getD o.a.toNat 0 then (k.setL (48 + o.a.toNat) (· ++ [o.b])).say n 0
 else (k.setT n fun t => { t with value := o.b }).wait n (some (56 + o.a.toNat)) 0
def K.send (k : K) (n : Int) (o : Op) : K :=
 if k.size.length ≤ o.a.toNat then k.say n 2
 else k.send1 n o (k.best (k.l (64 + o.a.toNat)))
def K.recv2 (k : K) (a : Nat) (b : Int) : K :=
 if 0 ≤ b then (k.setL (48 + a) (· ++ [(k.t b).value])).wake b 0 else k
def K.recv1 (k : K) (n : Int) (a : Nat) (x : Int) (r : List Int) : K :=
 ((k.say n x).setL (48 + a) (fun _ => r)).recv2 a (((k.say n x).setL (48 + a) (fun _ => r)).best (k.l (56 + a)))
def K.recv (k : K) (n : Int) (o : Op) : K :=
 if k.size.length ≤ o.a.toNat then k.say n 2
 else match k.l (48 + o.a.toNat) with
  | [] => k.wait n (some (64 + o.a.toNat)) 0
  | x :: r => k.recv1 n o.a.toNat x r
def K.show_ (k : K) (n : Int) : K := k.put (97 + (k.t n).answer.tmod 26)
def K.loop (k : K) (n : Int) (o : Op) : K :=
 if (k.t n).loops.getD ((k.t n).place - 1) 0 < o.b then k.setT n fun t => { t with loops := t.loops.modify ((k.t n).place - 1) (· + 1), place := o.a.toNat }
 else k.setT n fun t => { t with loops := t.loops.set ((k.t n).place - 1) 0 }
def K.setBase (k : K) (n : Int) (o : Op) : K := (k.setT n fun t => { t with base := o.a }).say n 0
/-- A task's operation. -/
def K.act (k : K) (n : Int) (o : Op) : K :=
 if o.kind = 0 then k.put o.a
 else if o.kind = 1 then k.yield n
 else if o.kind = 2 then k.delay n o
 else if o.kind = 3 then k.take n o
 else if o.kind = 4 then k.give n o
 else if o.kind = 5 then k.lock n o
 else if o.kind = 6 then k.unlock n o
 else if o.kind = 7 then k.send n o
 else if o.kind = 8 then k.recv n o
 else if o.kind = 9 then k.show_ n
 else if o.kind = 10 then k.loop n o
 else if o.kind = 11 then k.say n 5
 else if o.kind = 12 then (k.put 33).fin n
 else if o.kind = 13 then k.setBase n o
 else k.say n n
def K.do_ (k : K) (n : Int) : K :=
 let t := k.t n
 (k.setT n fun t => { t with place := t.place + 1 }).act n (t.ops.getD t.place ⟨0, 0, 0⟩)
def K.run (ticks ops : Nat) : Nat → K → K
 | 0, k => k
 | f + 1, k =>
   let n := k.running
   if n < 0 then
    if k.timed = false ∨ ticks ≤ k.ticks then k else K.run ticks ops f k.tick
   else if ops ≤ k.ops then k
   else if (k.t n).ops.length ≤ (k.t n).place then K.run ticks ops f ((k.fin n).anew n)
   else K.run ticks ops f ((({ k with ops := k.ops + 1 }).do_ n).anew n)
def rowsOf : List Task → Nat → List (List Int) → List (List Int)
 | [], _, l => l
 | x :: r, i, l => rowsOf r (i + 1) (l.modify x.prio.toNat (· ++ [(i : Int)]))
def begin (t : Table) : K :=
 { tasks := t.tasks.map fun x => ⟨x.ops, x.prio, x.prio, 0, 0, 0, x.ops.map fun _ => 0, none, 0, 0⟩,
   lst := rowsOf t.tasks 0 (List.replicate 72 []), sems := t.sems, owner := List.replicate t.mutexes.toNat (-1), size := t.queues, out := [], ticks := 0, ops := 0 }
/-- A table that may be, run. -/
def runT (t : Table) (ticks ops : Nat) : K := K.run ticks ops (ticks + ops + t.tasks.length + 1) (begin t)
end Kn
/-! Trials. -/
end Go.Proofs.Ytncbgnpoffolcaa
/-! Words on memory: a block that is known whole; what a call leaves alone; a slice that reads as a list. -/
namespace Go.Proofs.Ytncbgnpoffolcaa
open Go.RowKit
/-- Block g holds the cells cs of type t; none is frozen. -/
def Whole (w : World) (g : Nat) (t : TypeId) (cs : Array Value) : Prop := w.heap[g]? = some (.cells cs t (0, 0))

section
variable {w w' : World} {g : Nat} {t : TypeId} {cs : Array Value}
theorem Whole.lt (h : Whole w g t cs) : g < w.heap.size := (Array.getElem?_eq_some_iff.1 h).1
theorem Whole.cell (h : Whole w g t cs) (i : Nat) : w.cell? ⟨g, i, none⟩ = cs[i]? := cell_of_row w g i cs t (0, 0) h
theorem Whole.frozen (h : Whole w g t cs) (i : Nat) : w.frozen? ⟨g, i, none⟩ = false := by
 unfold Whole at h
 simp [World.frozen?, h]
theorem Whole.made (w : World) (t : TypeId) (cs : Array Value) : Whole (w.alloc (.cells cs t)) w.heap.size t cs := heap_alloc_new w _
theorem zm (w : World) (t : TypeId) (cs : Array Value) : Whole (w.alloc (.cells cs t)) w.heap.size t cs := Whole.made w t cs
theorem Whole.same (h : Whole w g t cs) (e : w'.heap[g]? = w.heap[g]?) : Whole w' g t cs := e.trans h
theorem Whole.alloc (h : Whole w g t cs) (o : Obj) : Whole (w.alloc o) g t cs := (zo w o g h.lt).trans h
theorem Whole.drew (h : Whole w g t cs) : Whole w.drew g t cs := h
theorem Whole.drewN (h : Whole w g t cs) (n : Nat) : Whole (w.drewN n) g t cs := h
theorem Whole.put (h : Whole w g t cs) (i : Nat) (u : Value) : Whole (w.setCell ⟨g, i, none⟩ u) g t (cs.setIfInBounds i u) := by
 unfold Whole at h ⊢
 simp [World.setCell, Array.getElem?_modify, h]
theorem Whole.far (h : Whole w g t cs) {p : Addr} (hp : g ≠ p.block) (u : Value) : Whole (w.setCell p u) g t cs := (zk w p u g hp).trans h
theorem Whole.kind {g' : Nat} {t' : TypeId} {cs' : Array Value} (h : Whole w g t cs) (h' : Whole w g' t' cs') (hne : t ≠ t') : g ≠ g' := by
 rintro rfl
 unfold Whole at h h'
 rw [h] at h'
 injection h' with h'
 injection h' with _ ht
 exact hne ht
theorem row_whole_ne {base : Nat} {e : TypeId} {size n : Nat} {v : Value} {xs : List Value} (h : w.ownsRow base e size v n xs) (hg : Whole w g t cs) (hne : e ≠ t) : v.ownBlock ≠ some g := by
 rcases h.2 with ⟨rfl, _⟩ | ⟨g', cap, cur, rfl, _, hh, _⟩
 ·simp [Value.ownBlock]
 ·intro he
  have : g' = g := by simpa [Value.ownBlock] using he
  subst this
  exact Whole.kind (t := e) hh hg hne rfl
end

theorem Whole.grown {w w' : World} {g : Nat} {t : TypeId} {cs : Array Value} {row : Option Nat} (h : Whole w g t cs) (hg : w.grownBy w' row) (hne : row ≠ some g) : Whole w' g t cs :=
 h.same (hg.block g h.lt fun e => hne e.symm)

/-- Nothing has turned but blocks of the list; new blocks may have come. -/
structure Only (bs : List Nat) (w w' : World) : Prop where
 os : w'.os = w.os
 tape : w'.tape = w.tape
 output : w'.output = w.output
 size : w.heap.size ≤ w'.heap.size
 block : ∀ k, k < w.heap.size → k ∉ bs → w'.heap[k]? = w.heap[k]?

section
variable {bs : List Nat} {a w w' : World}
theorem Only.refl (bs : List Nat) (w : World) : Only bs w w := ⟨rfl, rfl, rfl, zl _, fun _ _ _ => rfl⟩
theorem Only.trans {b c : World} (h : Only bs a b) (k : Only bs b c) : Only bs a c :=
 ⟨k.os.trans h.os, k.tape.trans h.tape, k.output.trans h.output, zt h.size k.size,
  fun i hi hn => (k.block i (Nat.lt_of_lt_of_le hi h.size) hn).trans (h.block i hi hn)⟩
theorem Only.drew (h : Only bs a w) : Only bs a w.drew := h.trans ⟨rfl, rfl, rfl, zl _, fun _ _ _ => rfl⟩
theorem Only.drewN (h : Only bs a w) (n : Nat) : Only bs a (w.drewN n) := h.trans ⟨rfl, rfl, rfl, zl _, fun _ _ _ => rfl⟩
theorem Only.alloc (h : Only bs a w) (o : Obj) : Only bs a (w.alloc o) :=
 h.trans ⟨rfl, rfl, rfl, by simp, fun k hk _ => zo _ _ _ hk⟩
theorem Only.setCell (h : Only bs a w) {p : Addr} (hp : p.block ∈ bs ∨ a.heap.size ≤ p.block) (u : Value) : Only bs a (w.setCell p u) := by
 refine ⟨h.os, h.tape, h.output, ?_, fun k hk hn => ?_⟩
 ·simpa [World.setCell] using h.size
 ·have hne : k ≠ p.block := by
   rintro rfl
   rcases hp with hp | hp
   ·exact hn hp
   ·omega
  exact (zk _ _ _ _ hne).trans (h.block k hk hn)
theorem Only.more {cs : List Nat} (h : Only bs a w) (hs : ∀ k ∈ bs, k ∈ cs) : Only cs a w := ⟨h.os, h.tape, h.output, h.size, fun k hk hn => h.block k hk fun hm => hn (hs k hm)⟩
theorem Only.below {B : Nat} (h : Only bs a w) (hB : B ≤ a.heap.size) (hs : ∀ k ∈ bs, B ≤ k) : Below B a w :=
 ⟨h.os, h.tape, h.output, h.size, fun k hk => h.block k (by omega) fun hm => by have := hs k hm; omega⟩
theorem Whole.only {g : Nat} {t : TypeId} {cs : Array Value} (h : Whole a g t cs) (o : Only bs a w) (hn : g ∉ bs) : Whole w g t cs := h.same (o.block g h.lt hn)
end

theorem row_same {w w' : World} {base : Nat} {e : TypeId} {size : Nat} {v : Value} {n : Nat} {xs : List Value} (h : w.ownsRow base e size v n xs) (hs : ∀ k, v.ownBlock = some k → w'.heap[k]? = w.heap[k]?) : w'.ownsRow base e size v n xs := by
 refine ⟨h.1, ?_⟩
 rcases h.2 with hn | ⟨g, cap, cur, rfl, hb, hgg, rest⟩
 ·exact .inl hn
 ·exact .inr ⟨g, cap, cur, rfl, hb, (hs g rfl).trans hgg, rest⟩
theorem row_below {w w' : World} {base B : Nat} {e : TypeId} {size : Nat} {v : Value} {n : Nat} {xs : List Value} (h : w.ownsRow base e size v n xs) (hb : Below B w w') (hB : w.heap.size ≤ B) : w'.ownsRow base e size v n xs :=
 row_same h fun k hk => hb.block k (Nat.lt_of_lt_of_le (h.lt k hk).2 hB)
theorem row_mono {w : World} {base base' : Nat} {e : TypeId} {size : Nat} {v : Value} {n : Nat} {xs : List Value} (h : w.ownsRow base e size v n xs) (hB : base' ≤ base) : w.ownsRow base' e size v n xs := by
 refine ⟨h.1, ?_⟩
 rcases h.2 with hn | ⟨g, cap, cur, rfl, hb, rest⟩
 ·exact .inl hn
 ·exact .inr ⟨g, cap, cur, rfl, by omega, rest⟩
theorem _root_.Go.RowKit.Below.drewN' {B : Nat} {a w : World} (h : Below B a w) (n : Nat) : Below B a (w.drewN n) := ⟨h.os, h.tape, h.output, h.size, h.block⟩
theorem ret_bool {a b : Bool} (h : a = b) : Ending.returned (.bool a) = .returned (.bool b) := by rw [h]
theorem ret_int {k : IntKind} {a b : Int} (h : a = b) : Ending.returned (.int k a) = .returned (.int k b) := by rw [h]
/-- What a row's value looks like. -/
theorem row_slice {w : World} {B : Nat} {e : TypeId} {size n : Nat} {v : Value} {xs : List Value} (h : w.ownsRow B e size v n xs) : ∃ a cap, v = .slice a n cap ∧ n ≤ cap ∧ cap ≤ maxLen := by
 rcases h.2 with ⟨hv, h0⟩ | ⟨g, cap, cur, hv, _, _, hnc, hcm, _⟩
 ·exact ⟨none, 0, by rw [hv, h0], by omega, by unfold maxLen; omega⟩
 ·exact ⟨_, _, hv, hnc, hcm⟩

theorem block_of_add (a : Addr) (n : Nat) : (a.add n).block = a.block := by unfold Addr.add; split <;> rfl
theorem add_of_add (a : Addr) (i j : Nat) : (a.add i).add j = a.add (i + j) := by
 unfold Addr.add
 by_cases hi : i = 0 <;> by_cases hj : j = 0 <;> simp [hi, hj, Nat.add_assoc]
/-- A slice reads as the cells xs, below block B. -/
def Reads (w : World) (B size : Nat) (A : Option Addr) (n : Nat) (xs : List Value) : Prop :=
 xs.length = n * size ∧ (0 < n → ∃ ad, A = some ad ∧ ad.block < B ∧ ∀ j u, xs[j]? = some u → w.cell? (ad.add j) = some u)
section
variable {w w' : World} {B B' size n : Nat} {A : Option Addr} {xs : List Value}
theorem Reads.none_ : Reads w B size A 0 [] := ⟨by simp, fun h => absurd h (by omega)⟩
theorem Reads.at_ {k : Nat} (h : Reads w B 1 A n xs) (hk : k < n) : ∃ ad u, A = some ad ∧ ad.block < B ∧ xs[k]? = some u ∧ w.cell? (ad.add k) = some u := by
 obtain ⟨ad, e, hb, hc⟩ := h.2 (by omega)
 have hl : k < xs.length := by have := h.1; omega
 exact ⟨ad, xs[k], e, hb, List.getElem?_eq_getElem hl, hc k _ (List.getElem?_eq_getElem hl)⟩
theorem Reads.keep (h : Reads w B size A n xs) (hk : ∀ p : Addr, p.block < B → w'.cell? p = w.cell? p) : Reads w' B size A n xs :=
 ⟨h.1, fun hn => by
  obtain ⟨ad, e, hb, hc⟩ := h.2 hn
  exact ⟨ad, e, hb, fun j u hu => (hk _ (by rw [block_of_add]; exact hb)).trans (hc j u hu)⟩⟩
theorem Reads.more (h : Reads w B size A n xs) (hB : B ≤ B') : Reads w B' size A n xs :=
 ⟨h.1, fun hn => by
  obtain ⟨ad, e, hb, hc⟩ := h.2 hn
  exact ⟨ad, e, by omega, hc⟩⟩
theorem Reads.below (h : Reads w B size A n xs) (hb : Below B' w w') (hB : B ≤ B') : Reads w' B size A n xs := h.keep fun _ hp => hb.cell (by omega)
theorem Reads.drew (h : Reads w B size A n xs) : Reads w.drew B size A n xs := h
theorem Reads.drewN (h : Reads w B size A n xs) (k : Nat) : Reads (w.drewN k) B size A n xs := h
theorem Reads.alloc (h : Reads w B size A n xs) (hB : B ≤ w.heap.size) (o : Obj) : Reads (w.alloc o) B size A n xs := h.keep fun p hp => zw w o p (by omega)
theorem Reads.setCell (h : Reads w B size A n xs) {p : Addr} (hB : B ≤ p.block) (u : Value) : Reads (w.setCell p u) B size A n xs :=
 h.keep fun q hq => World.cell?_setCell_other w p q u (fun e => by subst e; omega)
theorem Reads.grown (h : Reads w B size A n xs) {row : Option Nat} (hg : w.grownBy w' row) (hB : B ≤ w.heap.size) (hr : ∀ g, row = some g → B ≤ g) : Reads w' B size A n xs :=
 h.keep fun p hp => zq (hg.block p.block (by omega) (fun e => by have := hr _ e.symm; omega))
theorem Reads.cut (h : Reads w B size A n xs) {k cap : Nat} (hk : k ≤ n) (hc : n ≤ cap) :
 Reads w B size (if cap = k then A else A.map (·.add (k * size))) (n - k) (xs.drop (k * size)) := by
 refine ⟨by rw [List.length_drop, h.1, Nat.sub_mul], fun hn => ?_⟩
 obtain ⟨ad, rfl, hb, hcell⟩ := h.2 (by omega)
 rw [if_neg (by omega)]
 refine ⟨ad.add (k * size), rfl, by rw [block_of_add]; exact hb, fun j u hu => ?_⟩
 rw [add_of_add]
 exact hcell _ u (by rw [← hu, List.getElem?_drop])
theorem Reads.of_own {base : Nat} {e : TypeId} {c : Nat} (h : w.ownsRow base e size (.slice A n c) n xs) : Reads w w.heap.size size A n xs := by
 refine ⟨h.1, fun hn => ?_⟩
 obtain ⟨g, cap, hv, _, hlt⟩ := h.form hn
 have hA : A = some ⟨g, 0, none⟩ := by injection hv
 subst hA
 exact ⟨_, rfl, hlt, h.cells (g := g) rfl⟩
end
/-- A text as a value. -/
def strV (x : List UInt8) : Value := .string ⟨x.toArray⟩
/-- Rows of so many cells each, one behind the other. -/
theorem flat_at {α : Type} {f : α → List Value} {n : Nat} (hf : ∀ a, (f a).length = n) (l : List α) (k j : Nat) (hk : k < l.length) (hj : j < n) : (l.flatMap f)[k * n + j]? = (f l[k])[j]? := by
 induction l generalizing k with
 | nil => simp at hk
 | cons a l ih =>
   rw [List.flatMap_cons]
   cases k with
   | zero =>
     rw [List.getElem?_append_left (by rw [hf]; omega)]
     simp
   | succ k =>
     rw [List.getElem?_append_right (by rw [hf, Nat.succ_mul]; omega), hf]
     have : (k + 1) * n + j - n = k * n + j := by rw [Nat.succ_mul]; omega
     rw [this, ih k (by simpa using hk)]
     simp
theorem flat_len {α : Type} {f : α → List Value} {n : Nat} (hf : ∀ a, (f a).length = n) (l : List α) : (l.flatMap f).length = l.length * n := by
 induction l with
 | nil => simp
 | cons a l ih => rw [List.flatMap_cons, List.length_append, hf, ih, List.length_cons, Nat.succ_mul]; omega
theorem info3 : (Try.prog.info? 3).map (fun i => (i.zero, i.size, i.bytes)) = some (some (.int .i64 0), 1, 8) := by kernel_rfl
end Go.Proofs.Ytncbgnpoffolcaa
/-! The kernel in memory: each part has a block of its own; what a change of one part leaves alone. -/
namespace Go.Proofs.Ytncbgnpoffolcaa
open Go.RowKit
/-- The parts of the kernel's memory that have a block of their own. -/
inductive Part where
 | ker | ta | sa | ma | qa | out
 | t (i : Nat) | s (i : Nat) | m (i : Nat) | q (i : Nat) | l (x : Nat) | o (i : Nat) | lp (i : Nat)
deriving DecidableEq
/-- Where they lie. -/
structure Lay where
 b : Part → Nat
 off : Part → Nat
 cap : Part → Nat
 nil : Part → Bool
 opA : Nat → Option Addr
/-- A slice's head. -/
def Lay.hd (L : Lay) (c : Part) (n : Nat) : Value := if L.nil c then .slice none 0 0 else .slice (some ⟨L.b c, L.off c, none⟩) n (L.cap c)
def Lay.ptr (L : Lay) (c : Part) (off : Nat) : Value := .pointer (some ⟨L.b c, off, none⟩)
/-- What a task waits for. -/
def Lay.on (L : Lay) : Option Nat → Value
 | none => .nilIface
 | some x =>
   if x < 40 then .iface 80 (L.ptr (.s (x - 32)) 0) else if x < 48 then .iface 83 (L.ptr (.m (x - 40)) 0)
   else if x < 64 then .iface 126 (L.ptr (.q (x - 56)) 2) else .iface 127 (L.ptr (.q (x - 64)) 3)
def kT (k : Kn.K) (i : Nat) : Kn.T := k.tasks.getD i Kn.noT
def opC (o : Kn.Op) : List Value := [.int .i64 o.kind, .int .i64 o.a, .int .i64 o.b]
def opsC (l : List Kn.Op) : List Value := l.flatMap opC
def kerCells (k : Kn.K) (L : Lay) : Array Value :=
 ([L.hd .ta k.tasks.length, L.hd .sa k.sems.length, L.hd .ma k.owner.length, L.hd .qa k.size.length] ++ (List.range 32).map (fun p => L.hd (.l p) (k.l p).length) ++ [L.hd .out k.out.length, .int .i64 k.ticks, .int .i64 k.ops]).toArray
def taskCells (k : Kn.K) (L : Lay) (i : Nat) : Array Value :=
 #[.slice (L.opA i) (kT k i).ops.length (L.cap (.o i)), .int .i64 (kT k i).base, .int .i64 (kT k i).prio, .int .i64 (kT k i).state, .int .i64 (kT k i).place, .int .i64 (kT k i).answer, .map (some (L.b (.lp i))), L.on (kT k i).on, .int .i64 (kT k i).left, .int .i64 (kT k i).value]
/-- A map's keys: so many at most. -/
def Small (D : DataW Unit) (N : Nat) : Prop := ∃ (l : List (Lit × DataW Unit)) (ks : List Int), D = .map l ∧ l.map (·.1) = ks.map (Lit.int .i64 ·) ∧ ks.Nodup ∧ ∀ z ∈ ks, 0 ≤ z ∧ z < (N : Int)
/-- A map that reads as the counts of loops. -/
def LoopsAre (o : Option Obj) (ls : List Int) : Prop :=
 ∃ (w0 : World) (b n : Nat) (D : DataW Unit), w0.ownsMap Try.prog 3 (plainElem Try.prog 3) b n D ∧ w0.heap[b]? = o ∧ Small D ls.length ∧ ∀ j, j < ls.length → D.atKey (.int .i64 j) (.lit (.int .i64 0)) = .lit (.int .i64 (ls.getD j 0))
def Part.live (k : Kn.K) (L : Lay) : Part → Prop
 | .ker => True
 | .t i => i < k.tasks.length
 | .lp i => i < k.tasks.length
 | .o i => i < k.tasks.length ∧ 0 < (kT k i).ops.length
 | .s i => i < k.sems.length
 | .m i => i < k.owner.length
 | .q i => i < k.size.length
 | .l x => x < 72 ∧ L.nil (.l x) = false
 | .ta => L.nil .ta = false
 | .sa => L.nil .sa = false
 | .ma => L.nil .ma = false
 | .qa => L.nil .qa = false
 | .out => L.nil .out = false
/-- What a block of pointers holds. -/
def Ptrs (o : Option Obj) (ty n cap : Nat) (f : Nat → Value) : Prop := ∃ cur, o = some (.cells cur ty (0, 0)) ∧ n ≤ cap ∧ cap ≤ maxLen ∧ cur.size = cap ∧ ∀ i, i < n → cur[i]? = some (f i)
/-- What a list's block holds. -/
def ListIs (o : Option Obj) (off cap : Nat) (xs : List Int) : Prop := ∃ cur, o = some (.cells cur 3 (0, 0)) ∧ xs.length ≤ cap ∧ off + cap ≤ cur.size ∧ cur.size ≤ maxLen ∧ ∀ (j : Nat) (x : Int), xs[j]? = some x → cur[off + j]? = some (.int .i64 x)
def Part.cont (k : Kn.K) (L : Lay) : Part → Option Obj → Prop
 | .ker, ob => ob = some (.cells (kerCells k L) 68 (0, 0))
 | .t i, ob => ob = some (.cells (taskCells k L i) 74 (0, 0))
 | .s i, ob => ob = some (.cells #[.int .i64 (k.sems.getD i 0), L.hd (.l (32 + i)) (k.l (32 + i)).length] 82 (0, 0))
 | .m i, ob => ob = some (.cells #[.int .i64 (k.owner.getD i 0), L.hd (.l (40 + i)) (k.l (40 + i)).length] 85 (0, 0))
 | .q i, ob => ob = some (.cells #[.int .i64 (k.size.getD i 0), L.hd (.l (48 + i)) (k.l (48 + i)).length, L.hd (.l (56 + i)) (k.l (56 + i)).length, L.hd (.l (64 + i)) (k.l (64 + i)).length] 91 (0, 0))
 | .l x, ob => ListIs ob (L.off (.l x)) (L.cap (.l x)) (k.l x)
 | .o i, ob => L.opA i = some ⟨L.b (.o i), 0, none⟩ ∧ ∃ cur, ob = some (.cells cur 32 (0, 0)) ∧ ∀ (j : Nat) (u : Value), (opsC (kT k i).ops)[j]? = some u → cur[j]? = some u
 | .lp i, ob => LoopsAre ob (kT k i).loops
 | .ta, ob => L.off .ta = 0 ∧ Ptrs ob 69 k.tasks.length (L.cap .ta) (fun i => L.ptr (.t i) 0)
 | .sa, ob => L.off .sa = 0 ∧ Ptrs ob 80 k.sems.length (L.cap .sa) (fun i => L.ptr (.s i) 0)
 | .ma, ob => L.off .ma = 0 ∧ Ptrs ob 83 k.owner.length (L.cap .ma) (fun i => L.ptr (.m i) 0)
 | .qa, ob => L.off .qa = 0 ∧ Ptrs ob 86 k.size.length (L.cap .qa) (fun i => L.ptr (.q i) 0)
 | .out, ob => L.off .out = 0 ∧ ∃ cur, ob = some (.cells cur 5 (0, 0)) ∧ k.out.length ≤ L.cap .out ∧ L.cap .out ≤ maxLen ∧ cur.size = L.cap .out ∧ cur.toList.take k.out.length = k.out.map fun b => Value.int .u8 b.toNat
/-- A head without a block stands for nothing. -/
def Lay.nils (L : Lay) (k : Kn.K) : Prop :=
 (L.nil .ta = true → k.tasks.length = 0) ∧ (L.nil .sa = true → k.sems.length = 0) ∧ (L.nil .ma = true → k.owner.length = 0) ∧ (L.nil .qa = true → k.size.length = 0) ∧ (L.nil .out = true → k.out.length = 0) ∧ ∀ x, L.nil (.l x) = true → k.l x = []
/-- The kernel in memory, from block B on. -/
structure KM (w : World) (B : Nat) (k : Kn.K) (L : Lay) : Prop where
 cont : ∀ c : Part, c.live k L → c.cont k L w.heap[L.b c]?
 apart : ∀ c c' : Part, c.live k L → c'.live k L → L.b c = L.b c' → c = c'
 low : ∀ c : Part, c.live k L → B ≤ L.b c
 nil : L.nils k
 lens : k.lst.length = 72
 few : k.sems.length ≤ 8 ∧ k.owner.length ≤ 8 ∧ k.size.length ≤ 8
theorem ListIs.got {o : Option Obj} {off cap : Nat} {xs : List Int} (h : ListIs o off cap xs) : ∃ c, o = some c := by
 obtain ⟨cur, h, _⟩ := h
 exact ⟨_, h⟩
theorem Ptrs.got {o : Option Obj} {ty n cap : Nat} {f : Nat → Value} (h : Ptrs o ty n cap f) : ∃ c, o = some c := by
 obtain ⟨cur, h, _⟩ := h
 exact ⟨_, h⟩
theorem Part.cont_some {k : Kn.K} {L : Lay} {c : Part} {o : Option Obj} (h : c.cont k L o) : ∃ x, o = some x := by
 cases c with
 | ker => exact ⟨_, h⟩
 | t i => exact ⟨_, h⟩
 | s i => exact ⟨_, h⟩
 | m i => exact ⟨_, h⟩
 | q i => exact ⟨_, h⟩
 | l x => exact ListIs.got h
 | o i => obtain ⟨_, cur, h, _⟩ := h; exact ⟨_, h⟩
 | lp i =>
   obtain ⟨w0, b, n, D, h1, h2, _⟩ := h
   obtain ⟨es, clock, hb, _⟩ := h1
   exact ⟨_, h2.symm.trans hb⟩
 | ta => exact Ptrs.got h.2
 | sa => exact Ptrs.got h.2
 | ma => exact Ptrs.got h.2
 | qa => exact Ptrs.got h.2
 | out => obtain ⟨_, cur, h, _⟩ := h; exact ⟨_, h⟩
section
variable {w w' : World} {B : Nat} {k k' : Kn.K} {L L' : Lay}
theorem KM.lt (h : KM w B k L) {c : Part} (hc : c.live k L) : L.b c < w.heap.size := by
 obtain ⟨x, hx⟩ := Part.cont_some (h.cont c hc)
 exact (Array.getElem?_eq_some_iff.1 hx).1
/-- Nothing of it has turned. -/
theorem KM.same (h : KM w B k L) (hs : ∀ g, B ≤ g → g < w.heap.size → w'.heap[g]? = w.heap[g]?) : KM w' B k L :=
 ⟨fun c hc => by rw [hs _ (h.low c hc) (h.lt hc)]; exact h.cont c hc, h.apart, h.low, h.nil, h.lens, h.few⟩
theorem KM.below (h : KM w B k L) (hb : Below w.heap.size w w') : KM w' B k L := h.same fun g _ hg => hb.block g hg
/-- One part has turned, in its block; the other parts read as before. -/
theorem KM.one (h : KM w B k L) (c0 : Part) (hl : ∀ c : Part, c.live k' L ↔ c.live k L) (hn : L.nils k') (hlen : k'.lst.length = 72) (hfew : k'.sems.length ≤ 8 ∧ k'.owner.length ≤ 8 ∧ k'.size.length ≤ 8)
 (hs : ∀ g, g ≠ L.b c0 → g < w.heap.size → w'.heap[g]? = w.heap[g]?) (h0 : c0.live k L → c0.cont k' L w'.heap[L.b c0]?) (hc : ∀ (c : Part) (o : Option Obj), c ≠ c0 → c.live k L → c.cont k L o → c.cont k' L o) (h00 : c0.live k L) : KM w' B k' L := by
 refine ⟨fun c hcl => ?_, fun c c' h1 h2 => h.apart c c' ((hl c).1 h1) ((hl c').1 h2), fun c h1 => h.low c ((hl c).1 h1), hn, hlen, hfew⟩
 have hcl' := (hl c).1 hcl
 by_cases e : c = c0
 ·subst e
  exact h0 hcl'
 ·rw [hs _ (fun e2 => e (h.apart c c0 hcl' h00 e2)) (h.lt hcl')]
  exact hc c _ e hcl' (h.cont c hcl')
end
end Go.Proofs.Ytncbgnpoffolcaa
/-! Lists of numbers: where one stands, and a list without it. -/
namespace Go.Proofs.Ytncbgnpoffolcaa
open Go.RowKit
def intV (l : List Int) : List Value := l.map fun n => .int .i64 n
/-- Where a number stands first; below 0: nowhere. -/
def idx (l : List Int) (v : Int) : Int := if v ∈ l then (l.idxOf v : Int) else -1
theorem idx_at {l : List Int} {v : Int} {j : Nat} (h : j < l.length) (hv : l[j] = v) (hn : v ∉ l.take j) : idx l v = j := by
 have hm : v ∈ l := by rw [← hv]; exact List.getElem_mem h
 have e : l = l.take j ++ v :: l.drop (j + 1) := by rw [← hv, ← List.drop_eq_getElem_cons h, List.take_append_drop]
 unfold idx
 rw [if_pos hm]
 congr 1
 conv => lhs; rw [e]
 rw [List.idxOf_append, if_neg hn, List.idxOf_cons_self, List.length_take]
 omega
theorem idx_none {l : List Int} {v : Int} (h : v ∉ l) : idx l v = -1 := by unfold idx; rw [if_neg h]
theorem Reads.intAt {w : World} {B : Nat} {A : Option Addr} {l : List Int} (h : Reads w B 1 A l.length (intV l)) {k : Nat} (hk : k < l.length) : ∃ ad, A = some ad ∧ ad.block < B ∧ w.cell? (ad.add k) = some (.int .i64 l[k]) := by
 obtain ⟨ad, u, hA, hb, hu, hc⟩ := h.at_ hk
 refine ⟨ad, hA, hb, ?_⟩
 rw [hc]
 have : (intV l)[k]? = some (.int .i64 l[k]) := by simp [intV, hk]
 rw [this] at hu
 exact hu.symm
set_option maxRecDepth 100000 in
theorem index_any {w : World} {B : Nat} {A : Option Addr} {c : Nat} {l : List Int} (v : Int) (hl : l.length ≤ maxLen) (hr : Reads w B 1 A l.length (intV l)) :
 Calls Try.prog 85 #[.slice A l.length c, .int .i64 v] w fun e w' => e = .returned (.int .i64 (idx l v)) ∧ w = w' := by
 unfold maxLen at hl
 have HR := zh hr
 clear hr
 go_enter Try.func85, Try.ntmps85
 go_wp2_with fail
 go_loopg [8] l.length (fun kk i wr => ∃ (j : Nat), j ≤ l.length ∧ i = .int .i64 j ∧ v ∉ l.take j ∧ wr = w ∧ l.length - j ≤ kk)
 case atStart => exact ⟨0, Nat.zero_le _, rfl, by simp, rfl, by omega⟩
 case round =>
  obtain ⟨j, hj, rfl, hn, rfl, hkk⟩ := hrel
  by_cases hlt : j < l.length
  ·have hlt' : (j : Int) < l.length := by omega
   obtain ⟨ad, eA, hb, hc⟩ := HR.out.intAt hlt
   subst eA
   by_cases hv : v = l[j]
   ·have E := zh (idx_at hlt hv.symm hn)
    have hv2 : (v == l[j]) = true := by simp [hv]
    generalize l[j] = u at *
    go_wp2_with fail
    go_ret
    exact ⟨by rw [E.out]; rfl, rfl⟩
   ·have hv2 : (v == l[j]) = false := by simp [hv]
    have hn2 : v ∉ l.take (j + 1) := by
     intro hm
     rw [List.take_succ_eq_append_getElem hlt] at hm
     rcases List.mem_append.1 hm with hm | hm
     ·exact hn hm
     ·exact hv (List.mem_singleton.1 hm)
    have HN := zh hn2
    clear hn2
    generalize l[j] = u at *
    go_wp2_with fail
    go_roundg (l.length - (j + 1))
    case measure => omega
    case rel => exact ⟨j + 1, by omega, by go_num, HN.out, rfl, zl _⟩
  ·have hge : ¬ (j : Int) < l.length := by omega
   have hjl : l.length = j := by omega
   have E := zh (idx_none (l := l) (v := v) (by rw [← hjl, List.take_length] at hn; exact hn))
   go_wp2_with fail
   go_ret
   exact ⟨by rw [E.out]; rfl, rfl⟩
end Go.Proofs.Ytncbgnpoffolcaa
/-! A list without a number: the walk. -/
namespace Go.Proofs.Ytncbgnpoffolcaa
open Go.RowKit
theorem run_head3 (a : Addr) (n c i : Nat) (h1 : i ≤ c) (W : World) : (Instr.slice 24 (.slice (some a) n c) none (some (.int .i64 i)) (some (.int .i64 i))).run Try.prog W = .ok (.slice (some a) i i) W := by
 have hu := Try.underlying24
 simp [Instr.slice, Instr.sliceBounds, Instr.sliceBound, asIntOf, run_underlying hu, go_sem]
 intro h
 omega
def tailOff (off c i : Nat) : Nat := if c = i + 1 then off else off + (i + 1)
theorem run_tail3 (g off : Nat) (n c i : Nat) (h1 : i + 1 ≤ n) (W : World) : (Instr.slice 24 (.slice (some ⟨g, off, none⟩) n c) (some (.int .i64 ((i : Int) + 1))) none none).run Try.prog W = .ok (.slice (some ⟨g, tailOff off c i, none⟩) (n - (i + 1)) (c - (i + 1))) W := by
 have hu := Try.underlying24
 simp [Instr.slice, Instr.sliceBounds, Instr.sliceBound, asIntOf, run_underlying hu, go_sem]
 rw [if_pos (by omega)]
 unfold tailOff
 by_cases hc : c = i + 1 <;> simp [hc]
/-- A list's head and what lies behind it. -/
def LHead (w : World) (v : Value) (xs : List Int) (g : Option Nat) : Prop :=
 (g = none ∧ v = .slice none 0 0 ∧ xs = []) ∨ ∃ b off cap, g = some b ∧ v = .slice (some ⟨b, off, none⟩) xs.length cap ∧ ListIs w.heap[b]? off cap xs
theorem ListIs.cell {w : World} {b off cap : Nat} {xs : List Int} (h : ListIs w.heap[b]? off cap xs) {j : Nat} (hj : j < xs.length) : w.cell? ⟨b, off + j, none⟩ = some (.int .i64 xs[j]) := by
 obtain ⟨cur, hb, _, _, _, hc⟩ := h
 rw [cell_of_row w b (off + j) cur 3 (0, 0) hb]
 exact hc j xs[j] (by simp [hj])
theorem ListIs.reads {w : World} {b off cap : Nat} {xs : List Int} (h : ListIs w.heap[b]? off cap xs) : Reads w w.heap.size 1 (some ⟨b, off, none⟩) xs.length (intV xs) := by
 refine ⟨by simp [intV], fun _ => ⟨_, rfl, ?_, fun j u hj => ?_⟩⟩
 ·obtain ⟨cur, hb, _⟩ := h
  exact (Array.getElem?_eq_some_iff.1 hb).1
 ·have hjl : j < xs.length := by
   have := (List.getElem?_eq_some_iff.1 hj).1
   simpa [intV] using this
  have hu : u = .int .i64 xs[j] := by
   simp [intV, hjl] at hj
   exact hj.symm
  rw [hu, ← h.cell hjl]
  rw [Addr.add_lit]
theorem ListIs.of_own {w : World} {B n : Nat} {xs : List Int} {v : Value} (h : w.ownsRow B 3 1 v n (intV xs)) (hn : 0 < n) : ∃ g cap, v = .slice (some ⟨g, 0, none⟩) n cap ∧ B ≤ g ∧ ListIs w.heap[g]? 0 cap xs := by
 have hx : xs.length = n := by have := h.1; simpa [intV] using this
 rcases h.2 with ⟨_, h0⟩ | ⟨g, cap, cur, rfl, hb, hg, hnc, hcm, hcs, ht⟩
 ·omega
 ·refine ⟨g, cap, rfl, hb, cur, hg, by omega, by omega, by omega, fun j x hj => ?_⟩
  have hjl := (List.getElem?_eq_some_iff.1 hj).1
  have h1 : (intV xs)[j]? = some (.int .i64 x) := by simp [intV, hj]
  rw [← ht, Nat.mul_one, List.getElem?_take_of_lt (by omega)] at h1
  simpa using h1
def WithoutPost (w : World) (l : List Int) (n : Int) (g : Option Nat) (e : Ending) (w' : World) : Prop :=
 ∃ v' g', e = .returned v' ∧ LHead w' v' (l.erase n) g' ∧ (g' = g ∨ ∃ x, g' = some x ∧ w.heap.size ≤ x) ∧ Below w.heap.size w w'
set_option maxRecDepth 100000 in
set_option maxHeartbeats 2000000 in
theorem without_any {w : World} {v : Value} {l : List Int} {g : Option Nat} (n : Int) (h : LHead w v l g) (hlen : l.length ≤ 1000000) : Calls Try.prog 80 #[v, .int .i64 n] w (WithoutPost w l n g) := by
 rcases h with ⟨rfl, rfl, rfl⟩ | ⟨b, off, cap, rfl, rfl, hL⟩
 ·have C85 := fun W => index_any (w := W) (B := 0) (A := none) (c := 0) (l := []) n (by decide) Reads.none_
  have E : Hid (idx [] n = -1) := idx_none (by simp)
  go_enter Try.func80, Try.ntmps80
  go_wp2_with fail
  refine (C85 _).mono ?_
  rintro e w1 ⟨rfl, rfl⟩
  rw [E.out]
  go_wp2_with fail
  go_ret
  exact ⟨_, none, rfl, .inl ⟨rfl, rfl, by simp⟩, .inl rfl, zr _ _⟩
 ·obtain ⟨i3, hi3, hi30, hi31, hi32⟩ := info_parts info3
  have C85 := index_any (c := cap) (l := l) n (by unfold maxLen; omega) hL.reads
  obtain ⟨cur, hb, hlc, hcs, hcm, hcur⟩ := id hL
  have hcap : cap ≤ maxLen := by omega
  unfold maxLen at hcap
  by_cases hn : n ∈ l
  ·obtain ⟨i, hi⟩ : ∃ i, i = l.idxOf n := ⟨_, rfl⟩
   have hil : i < l.length := by rw [hi]; exact List.idxOf_lt_length_of_mem hn
   have E : Hid (idx l n = i) := by show _ = _; unfold idx; rw [if_pos hn, hi]
   have ER : Hid (l.erase n = l.take i ++ l.drop (i + 1)) := by
    show _ = _
    rw [List.erase_eq_eraseIdx_of_idxOf hi.symm, List.eraseIdx_eq_take_drop_succ]
   have HL := zh hL
   have HC := zh hcur
   obtain ⟨m, hm⟩ : ∃ m, m = l.length := ⟨_, rfl⟩
   rw [← hm] at hlc hil hlen C85 ⊢
   have HMM := zh hm
   have h2 : ¬ (i : Int) < 0 := by omega
   have hw : IntKind.i64.wrap ((i : Int) + 1) = (i : Int) + 1 := by rw [IntKind.wrap_i64]; omega
   have r1 := run_head3 ⟨b, off, none⟩ m cap i (by omega)
   have r2 := run_tail3 b off m cap i (by omega)
   clear hL hi hn hcur hm
   go_enter Try.func80, Try.ntmps80
   go_wp2_with fail
   refine C85.mono ?_
   rintro e w1 ⟨rfl, rfl⟩
   rw [E.out]
   go_wp2_with fail
   refine wp_region_still_tail 8 (by kernel_rfl) (by kernel_rfl) ?_
   simp only [List.take_succ_cons, List.take_zero, List.drop_succ_cons, List.drop_zero]
   change wpStill _ _ (World.drewN _ 1) _ _ _
   repeat still_step
   refine wpStill_nil ?_
   change wpList _ _ _ _ _ (World.drewN _ 1)
   have hlt : b < w.heap.size := (Array.getElem?_eq_some_iff.1 hb).1
   have holds : ∀ (j : Nat) (u : Value), (intV (l.take i))[j]? = some u → (w.drewN 1).cell? ⟨b, off + j, none⟩ = some u := by
    intro j u hj
    have hj2 : j < i := by
     have := (List.getElem?_eq_some_iff.1 hj).1
     simp [intV] at this
     omega
    have := HL.out.cell (j := j) (by have := HMM.out; omega)
    have hjl : j < l.length := by have := HMM.out; omega
    have hu : u = .int .i64 l[j] := by
     simp [intV, hj2, hjl] at hj
     exact hj.symm
    rw [hu]
    exact this
   have hnews : ∀ (j : Nat) (u : Value), (intV (l.drop (i + 1)))[j]? = some u → (w.drewN 1).cell? ((⟨b, tailOff off cap i, none⟩ : Addr).add j) = some u := by
    intro j u hj
    have hj2 : i + 1 + j < l.length := by
     have := (List.getElem?_eq_some_iff.1 hj).1
     simp [intV] at this
     omega
    have hne : cap ≠ i + 1 := by have := HMM.out; omega
    have e1 : tailOff off cap i = off + (i + 1) := by unfold tailOff; rw [if_neg hne]
    have := HL.out.cell hj2
    have hu : u = .int .i64 l[i + 1 + j] := by
     simp [intV, hj2] at hj
     exact hj.symm
    rw [hu, Addr.add_lit, e1, Nat.add_assoc]
    exact this
   have hlo : (intV (l.take i)).length = i * 1 := by simp [intV]; have := HMM.out; omega
   have hln : (intV (l.drop (i + 1))).length = (m - (i + 1)) * 1 := by simp [intV]; have := HMM.out; omega
   refine wpList_append_arg _ rfl _ _ _ rfl 3 i3 _ 1 8 Try.underlying24 hi3 hi30 hi31 hi32 rfl (by decide) b off i i (intV (l.take i)) rfl hlo holds ⟨b, tailOff off cap i, none⟩ (m - (i + 1)) (cap - (i + 1)) (intV (l.drop (i + 1))) rfl hln hnews ?_ ?_ ?_ ?_ ?_ ?_
   ·intro u hu
    obtain ⟨o, _, ho⟩ := List.mem_map.1 hu
    subst ho
    rfl
   ·intro hr j hj
    rw [hln] at hj
    omega
   ·unfold maxLen
    omega
   ·omega
   ·intro hr
    have hm0 : m - (i + 1) = 0 := by omega
    have hd : l.drop (i + 1) = [] := List.drop_eq_nil_of_le (by have := HMM.out; omega)
    have hset : (w.drewN 1).setCells b (off + i * 1) (intV (l.drop (i + 1))) = w.drewN 1 := by rw [hd]; rfl
    rw [hset, hm0]
    go_wp2_with fail
    go_ret
    refine ⟨_, some b, rfl, .inr ⟨b, off, i, rfl, ?_, ?_⟩, .inl rfl, (zr _ _).drewN' 1⟩
    ·rw [ER.out, hd, List.append_nil, List.length_take, Nat.min_eq_left (by have := HMM.out; omega)]
     rfl
    ·rw [ER.out, hd, List.append_nil]
     obtain ⟨cur, hb, hlc, hcs, hcm, hcur⟩ := HL.out
     refine ⟨cur, hb, by rw [List.length_take]; omega, by omega, hcm, fun j x hj => hcur j x ?_⟩
     have hj2 := (List.getElem?_eq_some_iff.1 hj).1
     rw [List.length_take] at hj2
     rw [List.getElem?_take_of_lt (by omega)] at hj
     exact hj
   ·intro hg v' w' hown hgrow
    have ha : intV (l.take i) ++ intV (l.drop (i + 1)) = intV (l.erase n) := by rw [ER.out]; simp [intV]
    rw [ha] at hown
    obtain ⟨g', cap', rfl, hgb, hLI⟩ := ListIs.of_own hown (by omega)
    have hle : (l.erase n).length = i + (m - (i + 1)) := by rw [ER.out, List.length_append, List.length_take, List.length_drop]; have := HMM.out; omega
    have hbw : Below w.heap.size w w' := ((zr w.heap.size w).drewN' 1).grown hgrow (zl _) (fun k hk => by cases hk)
    have HLI := zh hLI
    have HLE := zh hle
    clear hLI hown hgrow hle ha
    go_wp2_with fail
    go_ret
    exact ⟨_, some g', rfl, .inr ⟨g', 0, cap', rfl, by rw [HLE.out]; rfl, HLI.out⟩, .inr ⟨g', rfl, hgb⟩, hbw⟩
  ·have E : Hid (idx l n = -1) := idx_none hn
   have HL := zh hL
   have HE : Hid (l.erase n = l) := List.erase_of_not_mem hn
   clear hL hn hcur
   go_enter Try.func80, Try.ntmps80
   go_wp2_with fail
   refine C85.mono ?_
   rintro e w1 ⟨rfl, rfl⟩
   rw [E.out]
   go_wp2_with fail
   go_ret
   refine ⟨_, some b, rfl, ?_, .inl rfl, zr _ _⟩
   rw [HE.out]
   exact .inr ⟨b, off, cap, rfl, rfl, HL.out⟩
end Go.Proofs.Ytncbgnpoffolcaa
/-! Which task runs. -/
namespace Go.Proofs.Ytncbgnpoffolcaa
open Go.RowKit
section
variable {w : World} {B : Nat} {k : Kn.K} {L : Lay}
theorem KM.ker (h : KM w B k L) : Whole w (L.b .ker) 68 (kerCells k L) := h.cont .ker trivial
theorem kerCells_row (k : Kn.K) (L : Lay) {p : Nat} (hp : p < 32) : (kerCells k L)[4 + p]? = some (L.hd (.l p) (k.l p).length) := by
 unfold kerCells
 simp only [za]
 rw [List.getElem?_append_left (by simp; omega), List.getElem?_append_right (by simp)]
 simp [hp]
theorem KM.row (h : KM w B k L) {p : Nat} (hp : p < 32) : w.cell? ⟨L.b .ker, 4 + p, none⟩ = some (L.hd (.l p) (k.l p).length) := by
 rw [h.ker.cell]
 exact kerCells_row k L hp
theorem KM.head (h : KM w B k L) {x : Nat} (hx : x < 72) : LHead w (L.hd (.l x) (k.l x).length) (k.l x) (if L.nil (.l x) then none else some (L.b (.l x))) := by
 unfold Lay.hd
 rcases hn : L.nil (.l x) with _ | _
 ·exact .inr ⟨_, _, _, rfl, rfl, h.cont (.l x) ⟨hx, hn⟩⟩
 ·exact .inl ⟨rfl, rfl, h.nil.2.2.2.2.2 x hn⟩
end
theorem run_index32 (w : World) (cs : List Value) (hl : cs.length = 32) (j : Nat) (hj : j < 32) : (Instr.index 66 (.agg cs.toArray) (.int .i64 j)).run Try.prog w = .ok (cs.getD j undef) w := by
 have hu := Try.underlying66
 simp [Instr.index, run_underlying hu, go_sem, asIntOf]
 rw [if_pos hj, List.getElem?_eq_getElem (by omega)]
 rfl
theorem first_at {x : Int} {r : List Int} : ∀ (ls : List (List Int)) (j : Nat), (∀ p, p < j → ls.getD p [] = []) → ls.getD j [] = x :: r → Kn.first ls = x
 | [], j, _, h => by simp at h
 | l :: ls, 0, _, h => by
   have h' : l = x :: r := h
   subst h'
   rfl
 | l :: ls, j + 1, hn, h => by
   have h0 : l = [] := hn 0 (by omega)
   subst h0
   exact first_at ls j (fun p hp => hn (p + 1) (by omega)) h
theorem first_none : ∀ (ls : List (List Int)), (∀ p, p < ls.length → ls.getD p [] = []) → Kn.first ls = -1
 | [], _ => rfl
 | l :: ls, hn => by
   have h0 : l = [] := hn 0 (by simp)
   subst h0
   exact first_none ls (fun p hp => hn (p + 1) (by simpa using hp))
theorem take_getD (ls : List (List Int)) {p : Nat} (hp : p < 32) : (ls.take 32).getD p [] = ls.getD p [] := by
 simp [List.getElem?_take_of_lt hp]
theorem running_at {k : Kn.K} {j : Nat} {x : Int} {r : List Int} (hj : j < 32) (hn : ∀ p, p < j → k.l p = []) (h : k.l j = x :: r) : k.running = x :=
 first_at _ j (fun p hp => (take_getD _ (by omega)).trans (hn p hp)) ((take_getD _ hj).trans h)
theorem running_none {k : Kn.K} (hn : ∀ p, p < 32 → k.l p = []) : k.running = -1 :=
 first_none _ fun p hp => by
  have : p < 32 := by rw [List.length_take] at hp; omega
  exact (take_getD _ this).trans (hn p this)
set_option maxRecDepth 100000 in
theorem running_any {w : World} {B : Nat} {k : Kn.K} {L : Lay} (h : KM w B k L) (hlen : ∀ x, (k.l x).length ≤ 1000000) : Calls Try.prog 40 #[L.ptr .ker 0] w fun e w' => e = .returned (.int .i64 k.running) ∧ w = w' := by
 obtain ⟨RW, hRW⟩ : ∃ RW : List Value, RW = (List.range 32).map fun p => L.hd (.l p) (k.l p).length := ⟨_, rfl⟩
 have hRl : RW.length = 32 := by rw [hRW]; simp
 have hRg : ∀ p, p < 32 → RW.getD p undef = L.hd (.l p) (k.l p).length := by
  intro p hp
  rw [hRW]
  simp [hp]
 have hra : w.rangeAt (L.b .ker) 4 RW := by
  intro j v hj
  have hj2 : j < 32 := by rw [← hRl]; exact (List.getElem?_eq_some_iff.1 hj).1
  have := hRg j hj2
  rw [zd, hj] at this
  rw [h.row hj2, ← this]
  rfl
 have hri : (Try.prog.info? 66).map (·.size) = some RW.length := by rw [hRl]; kernel_rfl
 have HRA := zh hra
 have HRI := zh hri
 have hidx := run_index32 (w := w) RW hRl
 have HG := zh hRg
 have HK := zh h
 have HLN := zh hlen
 have HIX := zh hidx
 clear hRW hRg hra hri h hlen hidx
 unfold Lay.ptr
 go_enter Try.func40, Try.ntmps40
 go_wp2_with (refine wpList_load_mid rfl 66 _ rfl (L.b .ker) 4 rfl RW _ HRA.out Try.underlying66 rfl HRI.out ?_)
 go_loopg [9] 32 (fun kk i wr => ∃ (j : Nat), j ≤ 32 ∧ i = .int .i64 j ∧ (∀ p, p < j → k.l p = []) ∧ wr = w ∧ 32 - j ≤ kk)
 case atStart => exact ⟨0, Nat.zero_le _, rfl, by simp, rfl, by omega⟩
 case round =>
  obtain ⟨j, hj, rfl, hn, rfl, hkk⟩ := hrel
  have HN := zh hn
  clear hn
  by_cases hlt : j < 32
  ·have hlt' : (j : Int) < 32 := by omega
   have hix := HIX.out j hlt
   rw [HG.out j hlt] at hix
   rcases hl : k.l j with _ | ⟨x, r⟩
   ·have hn2 : Hid (∀ p, p < j + 1 → k.l p = []) := fun p hp => by
     by_cases e : p = j
     ·rw [e, hl]
     ·exact HN.out p (by omega)
    rw [hl] at hix
    obtain ⟨A, c, hA⟩ : ∃ A c, L.hd (.l j) ([] : List Int).length = .slice A 0 c := by
     unfold Lay.hd
     split
     ·exact ⟨_, _, rfl⟩
     ·exact ⟨_, _, rfl⟩
    rw [hA] at hix
    clear hl hA
    go_wp2_with fail
    go_roundg (32 - (j + 1))
    case measure => omega
    case rel => exact ⟨j + 1, by omega, by go_num, hn2.out, rfl, zl _⟩
   ·have E := zh (running_at hlt HN.out hl)
    rcases HK.out.head (x := j) (by omega) with ⟨_, _, h0⟩ | ⟨b, off, cap, _, hA, hLI⟩
    ·rw [hl] at h0
     cases h0
    ·rw [hl] at hA hLI hix
     rw [hA] at hix
     have hc := hLI.cell (j := 0) (by simp)
     simp at hc
     have hlen' : r.length ≤ 1000000 := by have := HLN.out j; rw [hl] at this; simp at this; omega
     have hpos : (0 : Int) < (r.length : Int) + 1 := by omega
     simp only [List.length_cons] at hix
     clear hA hLI hl
     go_wp2_with fail
     go_ret
     exact ⟨by rw [E.out]; rfl, rfl⟩
  ·have hge : ¬ (j : Int) < 32 := by omega
   have hj32 : j = 32 := by omega
   subst hj32
   have E := zh (running_none HN.out)
   go_wp2_with fail
   go_ret
   exact ⟨by rw [E.out]; rfl, rfl⟩
end Go.Proofs.Ytncbgnpoffolcaa
/-! The best one of those that wait. -/
namespace Go.Proofs.Ytncbgnpoffolcaa
open Go.RowKit
section
variable {w : World} {B : Nat} {k : Kn.K} {L : Lay}
theorem KM.taOk (h : KM w B k L) (hn : 0 < k.tasks.length) : L.nil .ta = false := by
 cases hh : L.nil .ta with
 | false => rfl
 | true => have := h.nil.1 hh; omega
theorem kerCells_0 (k : Kn.K) (L : Lay) : (kerCells k L)[0]? = some (L.hd .ta k.tasks.length) := rfl
/-- The tasks' head, as the kernel's block has it. -/
theorem KM.tasksHead (h : KM w B k L) (hn : 0 < k.tasks.length) : w.cell? ⟨L.b .ker, 0, none⟩ = some (.slice (some ⟨L.b .ta, 0, none⟩) k.tasks.length (L.cap .ta)) := by
 rw [h.ker.cell, kerCells_0]
 unfold Lay.hd
 rw [h.taOk hn]
 have := (h.cont .ta (h.taOk hn)).1
 simp [this]
theorem KM.taskPtr (h : KM w B k L) {i : Nat} (hi : i < k.tasks.length) : w.cell? ⟨L.b .ta, i, none⟩ = some (.pointer (some ⟨L.b (.t i), 0, none⟩)) := by
 obtain ⟨_, cur, hb, _, _, _, hc⟩ := h.cont .ta (h.taOk (by omega))
 rw [cell_of_row w _ i cur 69 (0, 0) hb]
 exact hc i hi
theorem KM.task (h : KM w B k L) {i : Nat} (hi : i < k.tasks.length) : Whole w (L.b (.t i)) 74 (taskCells k L i) := h.cont (.t i) hi
end
/-- A list of tasks' numbers. -/
def Valid (k : Kn.K) (xs : List Int) : Prop := ∀ n ∈ xs, 0 ≤ n ∧ n < k.tasks.length
set_option maxRecDepth 100000 in
set_option maxHeartbeats 2000000 in
theorem best_any {w : World} {B : Nat} {k : Kn.K} {L : Lay} {A : Option Addr} {c : Nat} {xs : List Int} (h : KM w B k L) (hv : Valid k xs) (hr : Reads w w.heap.size 1 A xs.length (intV xs)) (hl : xs.length ≤ 1000000) (hnt : k.tasks.length ≤ 1000000) :
 Calls Try.prog 81 #[L.ptr .ker 0, .slice A xs.length c] w fun e w' => e = .returned (.int .i64 (k.best xs)) ∧ Below w.heap.size w w' := by
 have HK := zh h
 have HV := zh hv
 have HR := zh hr
 clear h hv hr
 unfold Lay.ptr
 go_enter Try.func81, Try.ntmps81
 go_wp2_with fail
 go_loopg [10, 5] xs.length (fun kk i s wr => ∃ (j : Nat) (b : Int), j ≤ xs.length ∧ i = .int .i64 j ∧ s = .int .i64 b ∧ k.best xs = k.bestOf (xs.drop j) b ∧ (b < 0 ∨ 0 ≤ b ∧ b < k.tasks.length) ∧ Below w.heap.size w wr ∧ xs.length - j ≤ kk)
 case atStart => exact ⟨0, -1, Nat.zero_le _, rfl, rfl, rfl, .inl (by decide), zr _ _, by omega⟩
 case round =>
  obtain ⟨j, b, hj, rfl, rfl, hb, hbv, hbe, hkk⟩ := hrel
  have HB := zh hb
  have HBE := zh hbe
  clear hb hbe
  by_cases hlt : j < xs.length
  ·have hlt' : (j : Int) < xs.length := by omega
   have HKr := zh (HK.out.below HBE.out)
   obtain ⟨ad, eA, had, hc⟩ := (HR.out.below HBE.out (zl _)).intAt hlt
   subst eA
   have hnv := HV.out _ (List.getElem_mem hlt)
   have HD : Hid (xs.drop j = xs[j] :: xs.drop (j + 1)) := List.drop_eq_getElem_cons hlt
   generalize xs[j] = n at *
   obtain ⟨m, rfl⟩ := Int.eq_ofNat_of_zero_le hnv.1
   have hm : m < k.tasks.length := by omega
   have h0 := HKr.out.tasksHead (by omega)
   have h1 := HKr.out.taskPtr hm
   have h2 := (HKr.out.task hm).cell 2
   have h2' : wr.cell? ⟨L.b (.t m), 2, none⟩ = some (.int .i64 (kT k m).prio) := h2
   have im : (m : Int) < k.tasks.length := by omega
   have im0 : (0 : Int) ≤ m := by omega
   clear h2
   rcases hbv with hb0 | ⟨hb0, hb1⟩
   ·have hst : Hid (k.bestOf (xs.drop j) b = k.bestOf (xs.drop (j + 1)) m) := by
     show _ = _
     rw [HD.out, Kn.K.bestOf, if_pos (.inl hb0)]
    go_wp2_with fail
    refine zy ?_
    repeat go_big_quiet_step (fail)
    refine wpQuiet_nil ?_
    intro _ hw'
    obtain ⟨nq, hw''⟩ := hw'
    subst hw''
    go_wp2_with fail
    go_roundg (xs.length - (j + 1))
    case measure => omega
    case rel => exact ⟨j + 1, m, by omega, by go_num, rfl, HB.out.trans hst.out, .inr ⟨by omega, by omega⟩, HBE.out.drewN' _, zl _⟩
   ·obtain ⟨q, rfl⟩ := Int.eq_ofNat_of_zero_le hb0
    have hq : q < k.tasks.length := by omega
    have hbn : ¬ (q : Int) < 0 := by omega
    have h3 := HKr.out.taskPtr hq
    have h4 : wr.cell? ⟨L.b (.t q), 2, none⟩ = some (.int .i64 (kT k q).prio) := (HKr.out.task hq).cell 2
    have iq : (q : Int) < k.tasks.length := by omega
    have iq0 : (0 : Int) ≤ q := by omega
    by_cases hp : (kT k m).prio < (kT k q).prio
    ·have hst : Hid (k.bestOf (xs.drop j) q = k.bestOf (xs.drop (j + 1)) m) := by
      show _ = _
      rw [HD.out, Kn.K.bestOf, if_pos (.inr hp)]
     go_wp2_with fail
     have hd : decide ((q : Int) < 0) = false := decide_eq_false (by omega)
     refine zy ?_
     repeat go_big_quiet_step (fail)
     refine wpQuiet_nil ?_
     intro _ hw'
     obtain ⟨nq, hw''⟩ := hw'
     subst hw''
     go_wp2_with fail
     go_roundg (xs.length - (j + 1))
     case measure => omega
     case rel => exact ⟨j + 1, m, by omega, by go_num, rfl, HB.out.trans hst.out, .inr ⟨by omega, by omega⟩, HBE.out.drewN' _, zl _⟩
    ·have hst : Hid (k.bestOf (xs.drop j) q = k.bestOf (xs.drop (j + 1)) q) := by
      show _ = _
      rw [HD.out, Kn.K.bestOf, if_neg (by rintro (h | h); exact hbn h; exact hp h)]
     go_wp2_with fail
     have hd : decide ((q : Int) < 0) = false := decide_eq_false (by omega)
     refine zy ?_
     repeat go_big_quiet_step (fail)
     refine wpQuiet_nil ?_
     intro _ hw'
     obtain ⟨nq, hw''⟩ := hw'
     subst hw''
     go_wp2_with fail
     go_roundg (xs.length - (j + 1))
     case measure => omega
     case rel => exact ⟨j + 1, q, by omega, by go_num, rfl, HB.out.trans hst.out, .inr ⟨by omega, by omega⟩, HBE.out.drewN' _, zl _⟩
  ·have hge : ¬ (j : Int) < xs.length := by omega
   have hjl : j = xs.length := by omega
   have E : Hid (k.best xs = b) := by
    show _ = _
    rw [HB.out, hjl, List.drop_length]
    rfl
   go_wp2_with fail
   go_ret
   exact ⟨by rw [E.out]; rfl, HBE.out⟩
end Go.Proofs.Ytncbgnpoffolcaa
/-! A list of the kernel's has turned: what the memory is then. -/
namespace Go.Proofs.Ytncbgnpoffolcaa
open Go.RowKit
/-- Which part holds a list's head, and at which cell. -/
def holder (x : Nat) : Part := if x < 32 then .ker else if x < 40 then .s (x - 32) else if x < 48 then .m (x - 40) else if x < 56 then .q (x - 48) else if x < 64 then .q (x - 56) else .q (x - 64)
def holdAt (x : Nat) : Nat := if x < 32 then 4 + x else if x < 56 then 1 else if x < 64 then 2 else 3
def Lay.setl (L : Lay) (x : Nat) (g : Option Nat) (off cap : Nat) : Lay :=
 { L with b := fun c => if c = .l x then g.getD 0 else L.b c, off := fun c => if c = .l x then off else L.off c, cap := fun c => if c = .l x then cap else L.cap c, nil := fun c => if c = .l x then g.isNone else L.nil c }
section
variable {k : Kn.K} {L : Lay} {x : Nat} {g : Option Nat} {off cap : Nat} {f : List Int → List Int}
theorem setL_same (hl : k.lst.length = 72) (hx : x < 72) : (k.setL x f).l x = f (k.l x) := by
 unfold Kn.K.setL Kn.K.l
 simp [hl, hx]
theorem setL_other {y : Nat} (h : y ≠ x) : (k.setL x f).l y = k.l y := by
 unfold Kn.K.setL Kn.K.l
 simp [Ne.symm h]
theorem setl_b {c : Part} (h : c ≠ .l x) : (L.setl x g off cap).b c = L.b c := by simp [Lay.setl, h]
theorem setl_hd {c : Part} (h : c ≠ .l x) (n : Nat) : (L.setl x g off cap).hd c n = L.hd c n := by simp [Lay.setl, Lay.hd, h]
theorem setl_ptr {c : Part} (h : c ≠ .l x) (n : Nat) : (L.setl x g off cap).ptr c n = L.ptr c n := by simp [Lay.setl, Lay.ptr, h]
theorem setl_on (o : Option Nat) : (L.setl x g off cap).on o = L.on o := by
 unfold Lay.on
 rcases o with _ | y
 ·rfl
 ·simp only [setl_ptr (show Part.s (y - 32) ≠ .l x by simp), setl_ptr (show Part.m (y - 40) ≠ .l x by simp), setl_ptr (show Part.q (y - 56) ≠ .l x by simp), setl_ptr (show Part.q (y - 64) ≠ .l x by simp)]
theorem setl_row (y : Nat) (h : y ≠ x) : (L.setl x g off cap).hd (.l y) ((k.setL x f).l y).length = L.hd (.l y) (k.l y).length := by
 rw [setL_other h, setl_hd (by simp [h])]
theorem kerCells_far (h : 32 ≤ x) : kerCells (k.setL x f) (L.setl x g off cap) = kerCells k L := by
 unfold kerCells
 have e : (List.range 32).map (fun p => (L.setl x g off cap).hd (.l p) ((k.setL x f).l p).length) = (List.range 32).map (fun p => L.hd (.l p) (k.l p).length) := by
  apply List.map_congr_left
  intro p hp
  have := List.mem_range.1 hp
  exact setl_row p (by omega)
 rw [e]
 simp only [setl_hd (show Part.ta ≠ .l x by simp), setl_hd (show Part.sa ≠ .l x by simp), setl_hd (show Part.ma ≠ .l x by simp), setl_hd (show Part.qa ≠ .l x by simp), setl_hd (show Part.out ≠ .l x by simp)]
 rfl
theorem rows_set (h : x < 32) : (List.range 32).map (fun p => (L.setl x g off cap).hd (.l p) ((k.setL x f).l p).length) = ((List.range 32).map (fun p => L.hd (.l p) (k.l p).length)).set x ((L.setl x g off cap).hd (.l x) ((k.setL x f).l x).length) := by
 apply List.ext_getElem?
 intro i
 rw [List.getElem?_set]
 by_cases e : x = i
 ·subst e
  simp [h]
 ·rw [if_neg e]
  simp only [List.getElem?_map]
  by_cases hi : i < 32
  ·rw [List.getElem?_range hi]
   simp only [Option.map_some]
   rw [setl_row i (by omega)]
  ·rw [List.getElem?_eq_none (by simp; omega)]
   rfl
theorem kerCells_near (h : x < 32) : kerCells (k.setL x f) (L.setl x g off cap) = (kerCells k L).setIfInBounds (4 + x) ((L.setl x g off cap).hd (.l x) ((k.setL x f).l x).length) := by
 unfold kerCells
 rw [rows_set h, List.setIfInBounds_toArray]
 simp only [setl_hd (show Part.ta ≠ .l x by simp), setl_hd (show Part.sa ≠ .l x by simp), setl_hd (show Part.ma ≠ .l x by simp), setl_hd (show Part.qa ≠ .l x by simp), setl_hd (show Part.out ≠ .l x by simp)]
 rw [List.set_append_left _ _ (by simp; omega), List.set_append_right _ _ (by simp)]
 congr 4
 simp
theorem live_other {c : Part} (h : c ≠ .l x) : c.live (k.setL x f) (L.setl x g off cap) ↔ c.live k L := by
 cases c with
 | l y =>
   have hy : y ≠ x := fun e => h (by rw [e])
   simp [Part.live, Lay.setl, hy]
 | ker => exact Iff.rfl
 | t i => exact Iff.rfl
 | s i => exact Iff.rfl
 | m i => exact Iff.rfl
 | q i => exact Iff.rfl
 | o i => exact Iff.rfl
 | lp i => exact Iff.rfl
 | ta => simp [Part.live, Lay.setl]
 | sa => simp [Part.live, Lay.setl]
 | ma => simp [Part.live, Lay.setl]
 | qa => simp [Part.live, Lay.setl]
 | out => simp [Part.live, Lay.setl]
theorem cont_other {c : Part} {ob : Option Obj} (hf : k.sems.length ≤ 8 ∧ k.owner.length ≤ 8 ∧ k.size.length ≤ 8) (hx : x < 72) (h : c ≠ .l x) (hh : c ≠ holder x) (hv : c.live k L) (hc : c.cont k L ob) : c.cont (k.setL x f) (L.setl x g off cap) ob := by
 obtain ⟨f1, f2, f3⟩ := hf
 cases c with
 | l y =>
   have hy : y ≠ x := fun e => h (by rw [e])
   have e1 : (L.setl x g off cap).off (.l y) = L.off (.l y) := by simp [Lay.setl, hy]
   have e2 : (L.setl x g off cap).cap (.l y) = L.cap (.l y) := by simp [Lay.setl, hy]
   show ListIs ob _ _ _
   rw [e1, e2, setL_other hy]
   exact hc
 | ker =>
   have : 32 ≤ x := by
    rcases Nat.lt_or_ge x 32 with h1 | h1
    ·exact absurd (by simp [holder, h1]) hh
    ·exact h1
   show ob = _
   rw [kerCells_far this]
   exact hc
 | t i =>
   show ob = _
   have e : taskCells (k.setL x f) (L.setl x g off cap) i = taskCells k L i := by
    have e2 : (L.setl x g off cap).cap (.o i) = L.cap (.o i) := by simp [Lay.setl]
    unfold taskCells
    rw [setl_on, setl_b (show Part.lp i ≠ .l x by simp), e2]
    rfl
   rw [e]
   exact hc
 | s i =>
   have hi8 : i < 8 := by have : i < k.sems.length := hv; omega
   have hi : 32 + i ≠ x := fun e => hh (by
    subst e
    unfold holder
    rw [if_neg (by omega), if_pos (by omega)]
    congr 1
    omega)
   show ob = _
   rw [setl_row _ hi]
   exact hc
 | m i =>
   have hi8 : i < 8 := by have : i < k.owner.length := hv; omega
   have hi : 40 + i ≠ x := fun e => hh (by
    subst e
    unfold holder
    rw [if_neg (by omega), if_neg (by omega), if_pos (by omega)]
    congr 1
    omega)
   show ob = _
   rw [setl_row _ hi]
   exact hc
 | q i =>
   have hi8 : i < 8 := by have : i < k.size.length := hv; omega
   have h1 : 48 + i ≠ x := fun e => hh (by
    subst e
    unfold holder
    rw [if_neg (by omega), if_neg (by omega), if_neg (by omega), if_pos (by omega)]
    congr 1
    omega)
   have h2 : 56 + i ≠ x := fun e => hh (by
    subst e
    unfold holder
    rw [if_neg (by omega), if_neg (by omega), if_neg (by omega), if_neg (by omega), if_pos (by omega)]
    congr 1
    omega)
   have h3 : 64 + i ≠ x := fun e => hh (by
    subst e
    unfold holder
    rw [if_neg (by omega), if_neg (by omega), if_neg (by omega), if_neg (by omega), if_neg (by omega)]
    congr 1
    omega)
   show ob = _
   rw [setl_row _ h1, setl_row _ h2, setl_row _ h3]
   exact hc
 | o i =>
   obtain ⟨q1, q2⟩ := hc
   refine ⟨?_, q2⟩
   rw [setl_b (by simp)]
   exact q1
 | lp i => exact hc
 | ta =>
   obtain ⟨q1, q2⟩ := hc
   refine ⟨by simpa [Lay.setl] using q1, ?_⟩
   have e : (L.setl x g off cap).cap .ta = L.cap .ta := by simp [Lay.setl]
   rw [e]
   exact q2
 | sa =>
   obtain ⟨q1, q2⟩ := hc
   refine ⟨by simpa [Lay.setl] using q1, ?_⟩
   have e : (L.setl x g off cap).cap .sa = L.cap .sa := by simp [Lay.setl]
   rw [e]
   exact q2
 | ma =>
   obtain ⟨q1, q2⟩ := hc
   refine ⟨by simpa [Lay.setl] using q1, ?_⟩
   have e : (L.setl x g off cap).cap .ma = L.cap .ma := by simp [Lay.setl]
   rw [e]
   exact q2
 | qa =>
   obtain ⟨q1, q2⟩ := hc
   refine ⟨by simpa [Lay.setl] using q1, ?_⟩
   have e : (L.setl x g off cap).cap .qa = L.cap .qa := by simp [Lay.setl]
   rw [e]
   exact q2
 | out =>
   obtain ⟨q1, cur, q2⟩ := hc
   have e : (L.setl x g off cap).cap .out = L.cap .out := by simp [Lay.setl]
   refine ⟨by simpa [Lay.setl] using q1, cur, ?_⟩
   rw [e]
   exact q2
/-- The holder's cells, the head put anew. -/
theorem hold_cont {w : World} (hf : k.sems.length ≤ 8 ∧ k.owner.length ≤ 8 ∧ k.size.length ≤ 8) (hl : k.lst.length = 72) (hx : x < 72) (hv : (holder x).live k L) (hc : (holder x).cont k L w.heap[L.b (holder x)]?) :
 (holder x).cont (k.setL x f) (L.setl x g off cap) (w.setCell ⟨L.b (holder x), holdAt x, none⟩ ((L.setl x g off cap).hd (.l x) (f (k.l x)).length)).heap[L.b (holder x)]? := by
 obtain ⟨f1, f2, f3⟩ := hf
 have e0 : f (k.l x) = (k.setL x f).l x := (setL_same hl hx).symm
 rw [e0]
 have hcases : x < 32 ∨ (∃ i, x = 32 + i ∧ i < 8) ∨ (∃ i, x = 40 + i ∧ i < 8) ∨ (∃ i, x = 48 + i ∧ i < 8) ∨ (∃ i, x = 56 + i ∧ i < 8) ∨ (∃ i, x = 64 + i ∧ i < 8) := by
  by_cases h1 : x < 32
  ·exact .inl h1
  by_cases h2 : x < 40
  ·exact .inr (.inl ⟨x - 32, by omega, by omega⟩)
  by_cases h3 : x < 48
  ·exact .inr (.inr (.inl ⟨x - 40, by omega, by omega⟩))
  by_cases h4 : x < 56
  ·exact .inr (.inr (.inr (.inl ⟨x - 48, by omega, by omega⟩)))
  by_cases h5 : x < 64
  ·exact .inr (.inr (.inr (.inr (.inl ⟨x - 56, by omega, by omega⟩))))
  ·exact .inr (.inr (.inr (.inr (.inr ⟨x - 64, by omega, by omega⟩))))
 rcases hcases with h | ⟨i, rfl, hi⟩ | ⟨i, rfl, hi⟩ | ⟨i, rfl, hi⟩ | ⟨i, rfl, hi⟩ | ⟨i, rfl, hi⟩
 ·have e1 : holder x = .ker := by simp [holder, h]
  have e2 : holdAt x = 4 + x := by simp [holdAt, h]
  rw [e1] at hc ⊢
  rw [e2]
  show _ = _
  rw [kerCells_near h]
  exact Whole.put (w := w) hc _ _
 ·have e1 : holder (32 + i) = .s i := by unfold holder; rw [if_neg (by omega), if_pos (by omega)]; congr 1; omega
  have e2 : holdAt (32 + i) = 1 := by unfold holdAt; rw [if_neg (by omega), if_pos (by omega)]
  rw [e1] at hc ⊢
  rw [e2]
  exact Whole.put (w := w) hc _ _
 ·have e1 : holder (40 + i) = .m i := by unfold holder; rw [if_neg (by omega), if_neg (by omega), if_pos (by omega)]; congr 1; omega
  have e2 : holdAt (40 + i) = 1 := by unfold holdAt; rw [if_neg (by omega), if_pos (by omega)]
  rw [e1] at hc ⊢
  rw [e2]
  exact Whole.put (w := w) hc _ _
 ·have e1 : holder (48 + i) = .q i := by unfold holder; rw [if_neg (by omega), if_neg (by omega), if_neg (by omega), if_pos (by omega)]; congr 1; omega
  have e2 : holdAt (48 + i) = 1 := by unfold holdAt; rw [if_neg (by omega), if_pos (by omega)]
  rw [e1] at hc ⊢
  rw [e2]
  show _ = _
  rw [setl_row (56 + i) (by omega), setl_row (64 + i) (by omega)]
  exact Whole.put (w := w) hc _ _
 ·have e1 : holder (56 + i) = .q i := by unfold holder; rw [if_neg (by omega), if_neg (by omega), if_neg (by omega), if_neg (by omega), if_pos (by omega)]; congr 1; omega
  have e2 : holdAt (56 + i) = 2 := by unfold holdAt; rw [if_neg (by omega), if_neg (by omega), if_pos (by omega)]
  rw [e1] at hc ⊢
  rw [e2]
  show _ = _
  rw [setl_row (48 + i) (by omega), setl_row (64 + i) (by omega)]
  exact Whole.put (w := w) hc _ _
 ·have e1 : holder (64 + i) = .q i := by unfold holder; rw [if_neg (by omega), if_neg (by omega), if_neg (by omega), if_neg (by omega), if_neg (by omega)]; congr 1; omega
  have e2 : holdAt (64 + i) = 3 := by unfold holdAt; rw [if_neg (by omega), if_neg (by omega), if_neg (by omega)]
  rw [e1] at hc ⊢
  rw [e2]
  show _ = _
  rw [setl_row (48 + i) (by omega), setl_row (56 + i) (by omega)]
  exact Whole.put (w := w) hc _ _
theorem holder_ne : holder x ≠ .l x := by
 unfold holder
 split
 ·simp
 split
 ·simp
 split
 ·simp
 split
 ·simp
 split <;> simp
theorem setl_hd_self (n : Nat) : (L.setl x g off cap).hd (.l x) n = match g with | none => .slice none 0 0 | some b => .slice (some ⟨b, off, none⟩) n cap := by
 cases g <;> simp [Lay.setl, Lay.hd]
/-- A list's head is put anew, its numbers lie in its own block or in a new one. -/
theorem KM.setList {w w' : World} {B : Nat} (h : KM w B k L) (hx : x < 72) (hlive : (holder x).live k L) (hv : (g = none ∧ f (k.l x) = []) ∨ ∃ b, g = some b ∧ ListIs w'.heap[b]? off cap (f (k.l x)))
 (hs : ∀ b, b < w.heap.size → (L.nil (.l x) = false → b ≠ L.b (.l x)) → w'.heap[b]? = w.heap[b]?) (hg : ∀ b, g = some b → (L.nil (.l x) = false ∧ b = L.b (.l x)) ∨ w.heap.size ≤ b) (hB : B ≤ w.heap.size) :
 KM (w'.setCell ⟨L.b (holder x), holdAt x, none⟩ ((L.setl x g off cap).hd (.l x) (f (k.l x)).length)) B (k.setL x f) (L.setl x g off cap) := by
 have hnow : ∀ c : Part, c ≠ .l x → c.live k L → L.nil (.l x) = false → L.b c ≠ L.b (.l x) := fun c hc hcl hn e => hc (h.apart c (.l x) hcl ⟨hx, hn⟩ e)
 have hold_lt := h.lt hlive
 have hgb : ∀ b, g = some b → ∀ c : Part, c ≠ .l x → c.live k L → b ≠ L.b c := by
  intro b hb c hc hcl e
  rcases hg b hb with ⟨h1, h2⟩ | h1
  ·exact hnow c hc hcl h1 (by rw [← e, h2])
  ·have := h.lt hcl
   omega
 have hbx : ∀ b, g = some b → (L.setl x g off cap).b (.l x) = b := fun b hb => by simp [Lay.setl, hb]
 have hlx : (Part.l x).live (k.setL x f) (L.setl x g off cap) → ∃ b, g = some b := by
  rintro ⟨_, h2⟩
  cases hgg : g with
  | none => simp [Lay.setl, hgg] at h2
  | some b => exact ⟨b, rfl⟩
 refine ⟨fun c hc => ?_, fun c c' h1 h2 e => ?_, fun c hc => ?_, ?_, ?_, h.few⟩
 ·by_cases ec : c = .l x
  ·subst ec
   obtain ⟨b, hb⟩ := hlx hc
   rw [hbx b hb, zk _ _ _ _ (fun e => hgb b hb (holder x) holder_ne hlive e)]
   rcases hv with ⟨h1, _⟩ | ⟨b', h1, h2⟩
   ·rw [hb] at h1
    cases h1
   ·rw [hb] at h1
    obtain rfl := Option.some.inj h1
    show ListIs _ _ _ _
    rw [setL_same h.lens hx]
    simpa [Lay.setl] using h2
  ·have hcl := (live_other ec).1 hc
   rw [setl_b ec]
   have hsame := hs _ (h.lt hcl) (hnow c ec hcl)
   by_cases eh : c = holder x
   ·subst eh
    have := h.cont _ hcl
    rw [← hsame] at this
    exact hold_cont h.few h.lens hx hlive this
   ·rw [zk _ _ _ _ (fun e => eh (h.apart c (holder x) hcl hlive e)), hsame]
    exact cont_other h.few hx ec eh hcl (h.cont c hcl)
 ·by_cases e1 : c = .l x
  ·by_cases e2 : c' = .l x
   ·rw [e1, e2]
   ·exfalso
    subst e1
    obtain ⟨b, hb⟩ := hlx h1
    rw [hbx b hb, setl_b e2] at e
    exact hgb b hb c' e2 ((live_other e2).1 h2) e
  ·by_cases e2 : c' = .l x
   ·exfalso
    subst e2
    obtain ⟨b, hb⟩ := hlx h2
    rw [hbx b hb, setl_b e1] at e
    exact hgb b hb c e1 ((live_other e1).1 h1) e.symm
   ·rw [setl_b e1, setl_b e2] at e
    exact h.apart c c' ((live_other e1).1 h1) ((live_other e2).1 h2) e
 ·by_cases ec : c = .l x
  ·subst ec
   obtain ⟨b, hb⟩ := hlx hc
   rw [hbx b hb]
   rcases hg b hb with ⟨h1, h2⟩ | h1
   ·rw [h2]
    exact h.low (.l x) ⟨hx, h1⟩
   ·omega
  ·rw [setl_b ec]
   exact h.low c ((live_other ec).1 hc)
 ·obtain ⟨n1, n2, n3, n4, n5, n6⟩ := h.nil
  refine ⟨n1, n2, n3, n4, n5, fun y hy => ?_⟩
  by_cases e : y = x
  ·subst e
   rw [setL_same h.lens hx]
   rcases hv with ⟨_, h2⟩ | ⟨b, h1, _⟩
   ·exact h2
   ·simp [Lay.setl, h1] at hy
  ·rw [setL_other e]
   exact n6 y (by simpa [Lay.setl, e] using hy)
 ·show (k.lst.modify x f).length = 72
  rw [List.length_modify, h.lens]
end
end Go.Proofs.Ytncbgnpoffolcaa
/-! A task out of its row: the walk of leave. -/
namespace Go.Proofs.Ytncbgnpoffolcaa
open Go.RowKit
/-- What stays where it is: all but the lists and what was written. -/
def Part.fixed : Part → Bool
 | .l _ => false
 | .out => false
 | _ => true
def Sam (L L' : Lay) : Prop := ∀ c : Part, c.fixed = true → L'.b c = L.b c
theorem Sam.refl (L : Lay) : Sam L L := fun _ _ => rfl
theorem Sam.trans {L L' L'' : Lay} (h : Sam L L') (h' : Sam L' L'') : Sam L L'' := fun c hc => (h' c hc).trans (h c hc)
theorem Sam.setl (L : Lay) (x : Nat) (g : Option Nat) (off cap : Nat) : Sam L (L.setl x g off cap) := fun c hc => setl_b (by rintro rfl; cases hc)
/-- What may be waited for. -/
def OnOk (k : Kn.K) (x : Nat) : Prop := (∃ i, x = 32 + i ∧ i < k.sems.length) ∨ (∃ i, x = 40 + i ∧ i < k.owner.length) ∨ (∃ i, x = 56 + i ∧ i < k.size.length) ∨ (∃ i, x = 64 + i ∧ i < k.size.length)
/-- The numbers of a kernel's that its walks need. -/
structure Fine (k : Kn.K) (M : Nat) : Prop where
 tasks : k.tasks.length ≤ 1000
 prio : ∀ i, i < k.tasks.length → 0 ≤ (kT k i).prio ∧ (kT k i).prio < 32
 len : ∀ x, (k.l x).length ≤ M
 on : ∀ i x, i < k.tasks.length → (kT k i).on = some x → OnOk k x
 val : ∀ x, x < 48 ∨ 56 ≤ x → Valid k (k.l x)
theorem LHead.slice {w : World} {v : Value} {xs : List Int} {g : Option Nat} (h : LHead w v xs g) : ∃ A c, v = .slice A xs.length c := by
 rcases h with ⟨_, rfl, rfl⟩ | ⟨b, off, cap, _, rfl, _⟩
 ·exact ⟨_, _, rfl⟩
 ·exact ⟨_, _, rfl⟩
/-- A list's new head is stored. -/
theorem KM.putList {w w1 : World} {B : Nat} {k : Kn.K} {L : Lay} {x : Nat} {f : List Int → List Int} {v : Value} {g : Option Nat} (h : KM w B k L) (hx : x < 72) (hlive : (holder x).live k L) (hv : LHead w1 v (f (k.l x)) g)
 (hs : ∀ b, b < w.heap.size → (L.nil (.l x) = false → b ≠ L.b (.l x)) → w1.heap[b]? = w.heap[b]?) (hg : ∀ b, g = some b → (L.nil (.l x) = false ∧ b = L.b (.l x)) ∨ w.heap.size ≤ b) (hB : B ≤ w.heap.size) :
 ∃ L', KM (w1.setCell ⟨L.b (holder x), holdAt x, none⟩ v) B (k.setL x f) L' ∧ Sam L L' := by
 rcases hv with ⟨rfl, rfl, e⟩ | ⟨b, off, cap, rfl, rfl, hl⟩
 ·have k1 := h.setList (f := f) (off := 0) (cap := 0) hx hlive (.inl ⟨rfl, e⟩) hs hg hB
  rw [setl_hd_self] at k1
  exact ⟨_, k1, Sam.setl _ _ _ _ _⟩
 ·have k1 := h.setList (f := f) (off := off) (cap := cap) hx hlive (.inr ⟨b, rfl, hl⟩) hs hg hB
  rw [setl_hd_self] at k1
  exact ⟨_, k1, Sam.setl _ _ _ _ _⟩
theorem holder_row {p : Nat} (h : p < 32) : holder p = .ker ∧ holdAt p = 4 + p := ⟨by simp [holder, h], by simp [holdAt, h]⟩
set_option maxRecDepth 100000 in
set_option maxHeartbeats 2000000 in
theorem leave_any {w : World} {B M : Nat} {k : Kn.K} {L : Lay} {m : Nat} (h : KM w B k L) (hf : Fine k M) (hM : M ≤ 1000000) (hm : m < k.tasks.length) (hB : B ≤ w.heap.size) :
 Calls Try.prog 56 #[L.ptr .ker 0, .int .i64 m] w fun e w' => e = .returned (.tuple #[]) ∧ ∃ L', KM w' B (k.leave m) L' ∧ Sam L L' ∧ Below B w w' := by
 obtain ⟨p0, p1⟩ := hf.prio m hm
 obtain ⟨p, hp⟩ := Int.eq_ofNat_of_zero_le p0
 have hp32 : p < 32 := by omega
 have h0 := h.tasksHead (by omega)
 have h1 := h.taskPtr hm
 have h2 : w.cell? ⟨L.b (.t m), 2, none⟩ = some (.int .i64 (kT k m).prio) := (h.task hm).cell 2
 rw [hp] at h2
 have h3 := h.row hp32
 have im : (m : Int) < k.tasks.length := by omega
 have im0 : (0 : Int) ≤ m := by omega
 have ip : (p : Int) < 32 := by omega
 have hW := without_any (w := w.drew) (m : Int) (h.head (show p < 72 by omega)) (by have := hf.len p; omega)
 have EK : Hid (k.leave m = k.setL p (·.erase (m : Int))) := by
  show _ = _
  unfold Kn.K.leave
  show k.setL ((kT k m).prio).toNat _ = _
  rw [hp]
  rfl
 have HK := zh h
 have HW := zh hW
 generalize hhd : L.hd (.l p) (k.l p).length = V at *
 clear h hW hf p0 p1 hp
 unfold Lay.ptr
 go_enter Try.func56, Try.ntmps56
 go_wp2_with fail
 go_region_with (go_at_call 80; refine HW.out.mono ?_; rintro e w1 ⟨v', g', rfl, hv', hg', hb'⟩; obtain ⟨A', c', e'⟩ := hv'.slice; subst e'; have y1 := (HK.out.ker.same (hb'.block _ HK.out.ker.lt)).cell (4 + p); rw [kerCells_row k L hp32] at y1; have y2 := (HK.out.ker.same (hb'.block _ HK.out.ker.lt)).frozen (4 + p))
 go_wp2_with fail
 go_end0
 obtain ⟨q1, q2⟩ := holder_row hp32
 have hlow := HK.out.low .ker trivial
 obtain ⟨L', k1, k2⟩ := HK.out.putList (f := (·.erase (m : Int))) (show p < 72 by omega) (by rw [q1]; trivial) hv' (fun b hb _ => hb'.block b hb)
  (fun b hb => by
   rcases hg' with h | ⟨x, h, hx⟩
   ·rw [hb] at h
    cases hn : L.nil (.l p) with
    | true => rw [hn, if_pos rfl] at h; cases h
    | false => rw [hn] at h; exact .inl ⟨rfl, by simpa using h⟩
   ·rw [hb] at h
    obtain rfl := Option.some.inj h
    exact .inr hx) hB
 rw [q1, q2] at k1
 rw [EK.out]
 exact ⟨rfl, L', k1, k2, (((zr B w).drew).trans (hb'.mono hB)).setCell hlow _⟩
end Go.Proofs.Ytncbgnpoffolcaa
/-! A task of the kernel's has turned: what the memory is then. -/
namespace Go.Proofs.Ytncbgnpoffolcaa
open Go.RowKit
section
variable {k : Kn.K} {L : Lay} {i : Nat} {f : Kn.T → Kn.T}
theorem kT_set (hi : i < k.tasks.length) : kT (k.setT i f) i = f (kT k i) := by
 unfold kT Kn.K.setT
 simp [hi]
theorem kT_other {j : Nat} (h : j ≠ i) : kT (k.setT i f) j = kT k j := by
 unfold kT Kn.K.setT
 simp [Ne.symm h]
theorem setT_len : (k.setT i f).tasks.length = k.tasks.length := by unfold Kn.K.setT; simp
theorem setT_live (hi : i < k.tasks.length) (ho : (f (kT k i)).ops = (kT k i).ops) (c : Part) : c.live (k.setT i f) L ↔ c.live k L := by
 cases c with
 | t j => simp [Part.live, setT_len]
 | lp j => simp [Part.live, setT_len]
 | o j =>
   simp only [Part.live, setT_len]
   by_cases e : j = i
   ·subst e
    rw [kT_set hi, ho]
   ·rw [kT_other e]
 | ker => exact Iff.rfl
 | s j => exact Iff.rfl
 | m j => exact Iff.rfl
 | q j => exact Iff.rfl
 | l x => exact Iff.rfl
 | ta => exact Iff.rfl
 | sa => exact Iff.rfl
 | ma => exact Iff.rfl
 | qa => exact Iff.rfl
 | out => exact Iff.rfl
theorem setT_cont (hi : i < k.tasks.length) (ho : (f (kT k i)).ops = (kT k i).ops) (hl : (f (kT k i)).loops = (kT k i).loops) {c : Part} {ob : Option Obj} (hne : c ≠ .t i) (hc : c.cont k L ob) : c.cont (k.setT i f) L ob := by
 cases c with
 | t j =>
   have e : j ≠ i := fun e => hne (by rw [e])
   show ob = _
   have e1 : taskCells (k.setT i f) L j = taskCells k L j := by unfold taskCells; rw [kT_other e]
   rw [e1]
   exact hc
 | lp j =>
   show LoopsAre _ _
   by_cases e : j = i
   ·subst e
    rw [kT_set hi, hl]
    exact hc
   ·rw [kT_other e]
    exact hc
 | o j =>
   obtain ⟨q1, cur, q2, q3⟩ := hc
   refine ⟨q1, cur, q2, ?_⟩
   by_cases e : j = i
   ·subst e
    rw [kT_set hi, ho]
    exact q3
   ·rw [kT_other e]
    exact q3
 | ta =>
   obtain ⟨q1, q2⟩ := hc
   refine ⟨q1, ?_⟩
   rw [setT_len]
   exact q2
 | ker =>
   show ob = _
   have e1 : kerCells (k.setT i f) L = kerCells k L := by unfold kerCells; rw [setT_len]; rfl
   rw [e1]
   exact hc
 | s j => exact hc
 | m j => exact hc
 | q j => exact hc
 | l x => exact hc
 | sa => exact hc
 | ma => exact hc
 | qa => exact hc
 | out => exact hc
/-- A task's block is written anew; its operations and its counts of loops stay. -/
theorem KM.setTask {w w' : World} {B : Nat} (h : KM w B k L) (hi : i < k.tasks.length) (ho : (f (kT k i)).ops = (kT k i).ops) (hl : (f (kT k i)).loops = (kT k i).loops)
 (hs : ∀ g, g ≠ L.b (.t i) → g < w.heap.size → w'.heap[g]? = w.heap[g]?) (h0 : Whole w' (L.b (.t i)) 74 (taskCells (k.setT i f) L i)) : KM w' B (k.setT i f) L :=
 h.one (.t i) (setT_live hi ho) (by
  obtain ⟨n1, n2, n3, n4, n5, n6⟩ := h.nil
  exact ⟨fun hh => by rw [setT_len]; exact n1 hh, n2, n3, n4, n5, n6⟩) h.lens h.few hs (fun _ => h0) (fun c o hne _ hc => setT_cont hi ho hl hne hc) hi
end
end Go.Proofs.Ytncbgnpoffolcaa
/-! One number more behind a list. -/
namespace Go.Proofs.Ytncbgnpoffolcaa
open Go.RowKit
/-- What an append leaves. -/
def Aplpost (w : World) (g : Option Nat) (ys : List Int) (v' : Value) (w' : World) : Prop :=
 ∃ g', LHead w' v' ys g' ∧ (g' = g ∨ ∃ x, g' = some x ∧ w.heap.size ≤ x) ∧ (∀ b, b < w.heap.size → g ≠ some b → w'.heap[b]? = w.heap[b]?) ∧ w.grownBy w' g
theorem run_append_list {w : World} {v : Value} {xs : List Int} {g : Option Nat} (h : LHead w v xs g) (hl : xs.length ≤ 1000000) (ty : TypeId) (n : Int) (ad : Addr) (c : Nat) (hn : w.cell? ad = some (.int .i64 n)) :
 ∃ v' w', (Builtin.append_ #[24, 24] ty #[v, .slice (some ad) 1 c]).run Try.prog w = .ok v' w' ∧ Aplpost w g (xs ++ [n]) v' w' := by
 obtain ⟨i3, hi3, hi30, hi31, hi32⟩ := info_parts info3
 have hnews : ∀ (j : Nat) (u : Value), ([.int .i64 n] : List Value)[j]? = some u → w.cell? (ad.add j) = some u := by
  intro j u hj
  rcases j with _ | j
  ·simp at hj
   subst hj
   rw [show ad.add 0 = ad by unfold Addr.add; simp]
   exact hn
  ·simp at hj
 have h1 : ∀ u ∈ ([.int .i64 n] : List Value), u.oneCell' = true := by simp [Value.oneCell']
 have e1 : intV (xs ++ [n]) = intV xs ++ [.int .i64 n] := by simp [intV]
 rcases h with ⟨rfl, rfl, rfl⟩ | ⟨b, off, cap, rfl, rfl, hL⟩
 ·obtain ⟨v', w', hr, h2, h3, _, _⟩ := run_append_own_at (P := Try.prog) w w.heap.size 24 ty 3 i3 _ 1 8 Try.underlying24 hi3 hi30 hi31 hi32 rfl (by decide) (.slice none 0 0) 0 [] (World.ownsRow_nil _ _ _ _) ad 1 c [.int .i64 n] rfl hnews h1 (by decide) (by decide) (zl _)
  obtain ⟨g', cap', rfl, hb, hLI⟩ := ListIs.of_own (xs := [n]) (by simpa [intV] using h2) (by decide)
  exact ⟨_, w', hr, some g', .inr ⟨g', 0, cap', rfl, rfl, hLI⟩, .inr ⟨g', rfl, hb⟩, fun b hb _ => h3.block b hb (by simp [Value.ownBlock]), h3⟩
 ·obtain ⟨cur, hb, hlc, hcs, hcm, hcur⟩ := id hL
  have hbl : b < w.heap.size := (Array.getElem?_eq_some_iff.1 hb).1
  have holds : ∀ (j : Nat) (u : Value), (intV xs)[j]? = some u → w.cell? ⟨b, off + j, none⟩ = some u := by
   intro j u hj
   have hjl : j < xs.length := by
    have := (List.getElem?_eq_some_iff.1 hj).1
    simpa [intV] using this
   have hu : u = .int .i64 xs[j] := by
    simp [intV, hjl] at hj
    exact hj.symm
   rw [hu]
   exact hL.cell hjl
  by_cases hr : xs.length + 1 ≤ cap
  ·have hin : off + xs.length < cur.size := by omega
   have hrun := run_append_room_cells (P := Try.prog) w 24 ty 3 i3 Try.underlying24 hi3 b off xs.length cap ad 1 c [.int .i64 n] (by rw [hi31]; rfl) hnews h1 hr
    (fun j hj => by
     have hj0 : j = 0 := by simpa using hj
     subst hj0
     rw [hi31, cell_of_row w b _ cur 3 (0, 0) hb]
     simp
     omega)
    (fun j hj => by simp [World.frozen?, hb])
   rw [hi31] at hrun
   have hset : w.setCells b (off + xs.length * 1) [.int .i64 n] = w.setCell ⟨b, off + xs.length, none⟩ (.int .i64 n) := by rw [Nat.mul_one]; rfl
   rw [hset] at hrun
   have hw : Whole (w.setCell ⟨b, off + xs.length, none⟩ (.int .i64 n)) b 3 (cur.setIfInBounds (off + xs.length) (.int .i64 n)) := Whole.put (w := w) hb _ _
   refine ⟨_, _, hrun, some b, .inr ⟨b, off, cap, rfl, by simp, ?_⟩, .inl rfl, fun b' hb' hne => zk _ _ _ _ (fun e => hne (by rw [e])), ?_⟩
   ·refine ⟨_, hw, by simpa using hr, by simpa using hcs, by simpa using hcm, fun j x hj => ?_⟩
    by_cases e : j = xs.length
    ·subst e
     simp at hj
     subst hj
     simp [hin]
    ·have hjl : j < xs.length := by
      have := (List.getElem?_eq_some_iff.1 hj).1
      simp at this
      omega
     rw [List.getElem?_append_left hjl] at hj
     rw [Array.getElem?_setIfInBounds_ne (by omega)]
     exact hcur j x hj
   ·exact ⟨rfl, rfl, rfl, by rw [World.size_setCell]; exact zl _, fun k _ hne => zk _ _ _ _ (fun e => hne (by rw [e]))⟩
  ·obtain ⟨v', w', hrun, r1, r2⟩ := run_append_arg_grows (P := Try.prog) w 24 ty 3 i3 _ 1 8 Try.underlying24 hi3 hi30 hi31 hi32 rfl (by decide) ⟨b, off, none⟩ xs.length cap (intV xs) (by simp [intV]) (fun j u hj => by rw [Addr.add_lit]; exact holds j u hj) ad 1 c [.int .i64 n] rfl hnews (by omega) (by unfold maxLen; omega) (by omega)
   rw [← e1] at r1
   obtain ⟨g', cap', rfl, hgb, hLI⟩ := ListIs.of_own r1 (by omega)
   refine ⟨_, w', hrun, some g', .inr ⟨g', 0, cap', rfl, by simp, hLI⟩, .inr ⟨g', rfl, hgb⟩, fun b' hb' _ => r2.block b' hb' (by simp), ⟨r2.os, r2.tape, r2.output, r2.size, fun k hk _ => r2.block k hk (by simp)⟩⟩
theorem wp_append_list {w : World} {o : Oper} {a : Act} {K : Act → World → Prop} {Q : Exit → Act → World → Prop} (s x : Operand) (ho : o.op = .call { callee := .builtin .append, args := #[s, x], argTypes := #[24, 24] })
 {v : Value} {xs : List Int} {g : Option Nat} (hs : a.eval s = v) (h : LHead w v xs g) (hl : xs.length ≤ 1000000) (n : Int) (ad : Addr) (c : Nat) (hx : a.eval x = .slice (some ad) 1 c) (hn : w.cell? ad = some (.int .i64 n))
 (hK : ∀ v' w', Aplpost w g (xs ++ [n]) v' w' → K (a.put o.dst v') w') : o.wp Try.prog a w K Q := by
 obtain ⟨v', w', hrun, hp⟩ := run_append_list h hl o.type n ad c hn
 unfold Oper.wp execOp
 simp only [ho, resolve, invoke, builtin, Sem.run_bind, Sem.run_pure, Result.andThen_ok, List.map_toArray, List.map_cons, List.map_nil, hs, hx, hrun]
 exact hK v' w' hp
theorem wpList_append_list {w : World} {ops : Array Oper} {rest : List Oper} {o : Oper} {a : Act} {Q : Exit → Act → World → Prop} (hgd : o.guard = none) (s x : Operand) (ho : o.op = .call { callee := .builtin .append, args := #[s, x], argTypes := #[24, 24] })
 {v : Value} {xs : List Int} {g : Option Nat} (hs : a.eval s = v) (h : LHead w v xs g) (hl : xs.length ≤ 1000000) (n : Int) (ad : Addr) (c : Nat) (hx : a.eval x = .slice (some ad) 1 c) (hn : w.cell? ad = some (.int .i64 n))
 (hK : ∀ v' w', Aplpost w g (xs ++ [n]) v' w' → wpList Try.prog ops Q rest (a.put o.dst v') w') : wpList Try.prog ops Q (o :: rest) a w :=
 wpList_plain hgd fun _ hK' => wp_append_list s x ho hs h hl n ad c hx hn fun v' w' hp => hK' _ _ (hK v' w' hp)
theorem step_append_list {w : World} {ops : Array Oper} {o : Oper} {a : Act} {K : Act → World → Prop} {Q : Exit → Act → World → Prop} {E : Prop} (hgd : o.guard = none) (s x : Operand) (ho : o.op = .call { callee := .builtin .append, args := #[s, x], argTypes := #[24, 24] })
 {v : Value} {xs : List Int} {g : Option Nat} (hs : a.eval s = v) (h : LHead w v xs g) (hl : xs.length ≤ 1000000) (n : Int) (ad : Addr) (c : Nat) (hx : a.eval x = .slice (some ad) 1 c) (hn : w.cell? ad = some (.int .i64 n))
 (hK : ∀ v' w', Aplpost w g (xs ++ [n]) v' w' → K (a.put o.dst v') w') : if Region.wanted o (yielded ops a.tmps) = true then Oper.wp Try.prog o a w K Q else E := by
 have hw : Region.wanted o (yielded ops a.tmps) = true := by simp [Region.wanted, hgd]
 rw [if_pos hw]
 exact wp_append_list s x ho hs h hl n ad c hx hn hK
/-- A list's head lies where its holder has it. -/
theorem KM.headCell {w : World} {B : Nat} {k : Kn.K} {L : Lay} (h : KM w B k L) {x : Nat} (hx : x < 72) (hlive : (holder x).live k L) : w.cell? ⟨L.b (holder x), holdAt x, none⟩ = some (L.hd (.l x) (k.l x).length) ∧ w.frozen? ⟨L.b (holder x), holdAt x, none⟩ = false := by
 have hcases : x < 32 ∨ (∃ i, x = 32 + i ∧ i < 8) ∨ (∃ i, x = 40 + i ∧ i < 8) ∨ (∃ i, x = 48 + i ∧ i < 8) ∨ (∃ i, x = 56 + i ∧ i < 8) ∨ (∃ i, x = 64 + i ∧ i < 8) := by
  by_cases h1 : x < 32
  ·exact .inl h1
  by_cases h2 : x < 40
  ·exact .inr (.inl ⟨x - 32, by omega, by omega⟩)
  by_cases h3 : x < 48
  ·exact .inr (.inr (.inl ⟨x - 40, by omega, by omega⟩))
  by_cases h4 : x < 56
  ·exact .inr (.inr (.inr (.inl ⟨x - 48, by omega, by omega⟩)))
  by_cases h5 : x < 64
  ·exact .inr (.inr (.inr (.inr (.inl ⟨x - 56, by omega, by omega⟩))))
  ·exact .inr (.inr (.inr (.inr (.inr ⟨x - 64, by omega, by omega⟩))))
 have hc := h.cont _ hlive
 rcases hcases with h1 | ⟨i, rfl, hi⟩ | ⟨i, rfl, hi⟩ | ⟨i, rfl, hi⟩ | ⟨i, rfl, hi⟩ | ⟨i, rfl, hi⟩
 ·obtain ⟨e1, e2⟩ := holder_row h1
  rw [e1, e2]
  exact ⟨h.row h1, h.ker.frozen _⟩
 ·have e1 : holder (32 + i) = .s i := by unfold holder; rw [if_neg (by omega), if_pos (by omega)]; congr 1; omega
  have e2 : holdAt (32 + i) = 1 := by unfold holdAt; rw [if_neg (by omega), if_pos (by omega)]
  rw [e1] at hc ⊢
  rw [e2]
  exact ⟨Whole.cell (w := w) hc 1, Whole.frozen (w := w) hc 1⟩
 ·have e1 : holder (40 + i) = .m i := by unfold holder; rw [if_neg (by omega), if_neg (by omega), if_pos (by omega)]; congr 1; omega
  have e2 : holdAt (40 + i) = 1 := by unfold holdAt; rw [if_neg (by omega), if_pos (by omega)]
  rw [e1] at hc ⊢
  rw [e2]
  exact ⟨Whole.cell (w := w) hc 1, Whole.frozen (w := w) hc 1⟩
 ·have e1 : holder (48 + i) = .q i := by unfold holder; rw [if_neg (by omega), if_neg (by omega), if_neg (by omega), if_pos (by omega)]; congr 1; omega
  have e2 : holdAt (48 + i) = 1 := by unfold holdAt; rw [if_neg (by omega), if_pos (by omega)]
  rw [e1] at hc ⊢
  rw [e2]
  exact ⟨Whole.cell (w := w) hc 1, Whole.frozen (w := w) hc 1⟩
 ·have e1 : holder (56 + i) = .q i := by unfold holder; rw [if_neg (by omega), if_neg (by omega), if_neg (by omega), if_neg (by omega), if_pos (by omega)]; congr 1; omega
  have e2 : holdAt (56 + i) = 2 := by unfold holdAt; rw [if_neg (by omega), if_neg (by omega), if_pos (by omega)]
  rw [e1] at hc ⊢
  rw [e2]
  exact ⟨Whole.cell (w := w) hc 2, Whole.frozen (w := w) hc 2⟩
 ·have e1 : holder (64 + i) = .q i := by unfold holder; rw [if_neg (by omega), if_neg (by omega), if_neg (by omega), if_neg (by omega), if_neg (by omega)]; congr 1; omega
  have e2 : holdAt (64 + i) = 3 := by unfold holdAt; rw [if_neg (by omega), if_neg (by omega), if_neg (by omega)]
  rw [e1] at hc ⊢
  rw [e2]
  exact ⟨Whole.cell (w := w) hc 3, Whole.frozen (w := w) hc 3⟩
end Go.Proofs.Ytncbgnpoffolcaa
/-! A list's head put anew: where the blocks lie then; what is not the kernel's. -/
namespace Go.Proofs.Ytncbgnpoffolcaa
open Go.RowKit
/-- The blocks of the one lie where the other's lay, or are new. -/
def Near (N : Nat) (k : Kn.K) (L : Lay) (k' : Kn.K) (L' : Lay) : Prop := ∀ c : Part, c.live k' L' → (∃ c' : Part, c'.live k L ∧ L.b c' = L'.b c) ∨ N ≤ L'.b c
theorem Near.same {N : Nat} {k k' : Kn.K} {L : Lay} (h : ∀ c : Part, c.live k' L ↔ c.live k L) : Near N k L k' L := fun c hc => .inl ⟨c, (h c).1 hc, rfl⟩
theorem Near.trans {N N' : Nat} {k k' k'' : Kn.K} {L L' L'' : Lay} (h : Near N k L k' L') (h' : Near N' k' L' k'' L'') (hN : N ≤ N') : Near N k L k'' L'' := fun c hc => by
 rcases h' c hc with ⟨c', h1, h2⟩ | h1
 ·rcases h c' h1 with ⟨c2, h3, h4⟩ | h3
  ·exact .inl ⟨c2, h3, h4.trans h2⟩
  ·exact .inr (by rw [← h2]; exact h3)
 ·exact .inr (by omega)
/-- A block that is not the kernel's. -/
def Out (w : World) (k : Kn.K) (L : Lay) (g : Nat) : Prop := g < w.heap.size ∧ ∀ c : Part, c.live k L → L.b c ≠ g
theorem Out.near {w w' : World} {k k' : Kn.K} {L L' : Lay} {g : Nat} (h : Out w k L g) (hn : Near w.heap.size k L k' L') (hz : w.heap.size ≤ w'.heap.size) : Out w' k' L' g :=
 ⟨by have := h.1; omega, fun c hc e => by
  rcases hn c hc with ⟨c', h1, h2⟩ | h1
  ·exact h.2 c' h1 (h2.trans e)
  ·have := h.1
   omega⟩
theorem setl_near {w : World} {k : Kn.K} {L : Lay} {x : Nat} {f : List Int → List Int} {g : Option Nat} {off cap : Nat} (hx : x < 72) (hg : ∀ b, g = some b → (L.nil (.l x) = false ∧ b = L.b (.l x)) ∨ w.heap.size ≤ b) : Near w.heap.size k L (k.setL x f) (L.setl x g off cap) := fun c hc => by
 by_cases ec : c = .l x
 ·subst ec
  obtain ⟨_, h2⟩ := hc
  rcases g with _ | b
  ·simp [Lay.setl] at h2
  ·have e : (L.setl x (some b) off cap).b (.l x) = b := by simp [Lay.setl]
   rw [e]
   rcases hg b rfl with ⟨h3, h4⟩ | h3
   ·exact .inl ⟨.l x, ⟨hx, h3⟩, h4.symm⟩
   ·exact .inr h3
 ·exact .inl ⟨c, (live_other ec).1 hc, by rw [setl_b ec]⟩
/-- A list's new head is stored; where the blocks lie then. -/
theorem KM.putListN {w w1 : World} {B : Nat} {k : Kn.K} {L : Lay} {x : Nat} {f : List Int → List Int} {v : Value} {g : Option Nat} (h : KM w B k L) (hx : x < 72) (hlive : (holder x).live k L) (hv : LHead w1 v (f (k.l x)) g)
 (hs : ∀ b, b < w.heap.size → (L.nil (.l x) = false → b ≠ L.b (.l x)) → w1.heap[b]? = w.heap[b]?) (hg : ∀ b, g = some b → (L.nil (.l x) = false ∧ b = L.b (.l x)) ∨ w.heap.size ≤ b) (hB : B ≤ w.heap.size) :
 ∃ L', KM (w1.setCell ⟨L.b (holder x), holdAt x, none⟩ v) B (k.setL x f) L' ∧ Sam L L' ∧ Near w.heap.size k L (k.setL x f) L' := by
 rcases hv with ⟨rfl, rfl, e⟩ | ⟨b, off, cap, rfl, rfl, hl⟩
 ·have k1 := h.setList (f := f) (off := 0) (cap := 0) hx hlive (.inl ⟨rfl, e⟩) hs hg hB
  rw [setl_hd_self] at k1
  exact ⟨_, k1, Sam.setl _ _ _ _ _, setl_near hx hg⟩
 ·have k1 := h.setList (f := f) (off := off) (cap := cap) hx hlive (.inr ⟨b, rfl, hl⟩) hs hg hB
  rw [setl_hd_self] at k1
  exact ⟨_, k1, Sam.setl _ _ _ _ _, setl_near hx hg⟩
theorem setT_near {N : Nat} {k : Kn.K} {L : Lay} {i : Nat} {f : Kn.T → Kn.T} (hi : i < k.tasks.length) (ho : (f (kT k i)).ops = (kT k i).ops) : Near N k L (k.setT i f) L := Near.same fun c => setT_live hi ho c
end Go.Proofs.Ytncbgnpoffolcaa
