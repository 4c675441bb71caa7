/-
  The document's kernel, plainly: its state and what each of its functions makes of it.
  Lists by number: 0 to 31 the rows, 32 and on what lies in a queue. The document's kernel and the candidate's one do the same: what of the one is what of the other, and what keeps it so. The document's kernel and the candidate's one do the same: the best one of those that wait, all priorities, each operation. The document's kernel and the candidate's one do the same: each operation, a tick, a run. The document's kernel and the candidate's one do the same: the next operation, a tick, a run.
-/
import Derived.Test.YtncbgnpoffolcaaM3
namespace Go.Proofs.Ytncbgnpoffolcaa
namespace Rk
/-- A task as it goes. -/
structure T where
 base : Int
 prio : Int
 ops : List Kn.Op
 place : Nat
 last : Int
 state : Int
 wake : Int
 answer : Int
 on : Int
 id : Int
 value : Int
 since : Nat
 loops : List Int
structure K where
 tasks : List T
 lst : List (List Int)
 sems : List Int
 owner : List Int
 size : List Int
 out : List UInt8
 ticks : Nat
 ops : Nat
 count : Nat
 ran : Int
 most : Nat
 sinceOps : Nat
def noT : T := ⟨0, 0, [], 0, 0, 2, -1, 0, 0, 0, 0, 0, []⟩
def K.t (k : K) (n : Int) : T := k.tasks.getD n.toNat noT
def K.ti (k : K) (i : Nat) : T := k.tasks.getD i noT
def K.setT (k : K) (n : Int) (f : T → T) : K := { k with tasks := k.tasks.modify n.toNat f }
def K.l (k : K) (x : Nat) : List Int := k.lst.getD x []
def K.setL (k : K) (x : Nat) (f : List Int → List Int) : K := { k with lst := k.lst.modify x f }
def K.running (k : K) : Int := Kn.first (k.lst.take 32)
def K.leave (k : K) (n : Int) : K := k.setL (k.t n).prio.toNat (·.filter (· ≠ n))
def K.ready (k : K) (n a : Int) : K :=
 let k1 := k.setT n fun t => { t with state := 0, on := 0, wake := -1, last := a }
 k1.setL (k1.t n).prio.toNat (· ++ [n])
def K.wait (k : K) (n on id value : Int) : K :=
 { (k.leave n).setT n fun t => { t with state := 1, on := on, id := id, value := value, since := k.count + 1 } with count := k.count + 1 }
/-- Does a task wait for this? -/
def Waits (t : T) (on id : Int) : Prop := t.state = 1 ∧ t.on = on ∧ t.id = id
instance (t : T) (on id : Int) : Decidable (Waits t on id) := by unfold Waits; infer_instance
/-- Is a task ahead of another one? -/
def Ahead (a b : T) : Prop := a.prio < b.prio ∨ a.prio = b.prio ∧ a.since < b.since
instance (a b : T) : Decidable (Ahead a b) := by unfold Ahead; infer_instance
def K.bestAt (k : K) (on id : Int) : Nat → Nat → Int → Int
 | 0, _, b => b
 | f + 1, i, b => K.bestAt k on id f (i + 1) (if Waits (k.ti i) on id then if b < 0 ∨ Ahead (k.ti i) (k.t b) then i else b else b)
def K.best (k : K) (on id : Int) : Int := k.bestAt on id k.tasks.length 0 (-1)
def K.free (k : K) (i : Nat) : K :=
 let b := k.best 2 i
 let k1 := { k with owner := k.owner.set i b }
 if 0 ≤ b then k1.ready b 0 else k1
def K.gives (n : Int) : Nat → Nat → K → K
 | 0, _, k => k
 | f + 1, i, k => K.gives n f (i + 1) (if k.owner.getD i (-1) = n then k.free i else k)
def K.fin (k : K) (n : Int) : K :=
 let k1 := (k.leave n).setT n fun t => { t with state := 2 }
 K.gives n k1.owner.length 0 k1
/-- What the priorities hang on, in the candidate's words. -/
def K.kn (k : K) : Kn.K where
 tasks := k.tasks.map fun t => ⟨[], t.base, t.prio, t.state, 0, 0, [], if t.on = 2 then some (40 + t.id.toNat) else none, 0, 0⟩
 lst := []
 sems := []
 owner := k.owner
 size := []
 out := []
 ticks := 0
 ops := 0
def K.moveAt (last : Int) : List Int → Nat → K → K
 | [], _, k => k
 | p :: r, i, k =>
   let t := k.ti i
   let k' :=
    if p = t.prio then k
    else if t.state ≠ 0 then k.setT i fun t => { t with prio := p }
    else
     let k1 := (k.leave i).setT i fun t => { t with prio := p }
     if (i : Int) = last then k1.setL p.toNat ((i : Int) :: ·) else k1.setL p.toNat (· ++ [(i : Int)])
   K.moveAt last r (i + 1) k'
def K.priorities (k : K) : K := K.moveAt k.ran k.kn.priorities 0 k
def K.say (k : K) (n a : Int) : K := k.setT n fun t => { t with last := a }
def K.back (k : K) (n : Int) : K := ((k.say n 0).leave n).setL (k.t n).prio.toNat (· ++ [n])
def K.put (k : K) (a : Int) : K := { k with out := k.out ++ [UInt8.ofNat a.toNat] }
def K.till (k : K) (n ticks a : Int) : K := k.setT n fun t => { t with wake := k.ticks + ticks, answer := a }
def K.delay (k : K) (n : Int) (o : Kn.Op) : K := if o.a = 0 then k.back n else (k.wait n 0 0 0).till n o.a 0
def K.take (k : K) (n : Int) (o : Kn.Op) : K :=
 if k.sems.length ≤ o.a.toNat then k.say n 2
 else if 0 < k.sems.getD o.a.toNat 0 then ({ k with sems := k.sems.modify o.a.toNat (· - 1) }).say n 0
 else if o.b = 0 then k.say n 1
 else if 0 < o.b then (k.wait n 1 o.a 0).till n o.b 1
 else k.wait n 1 o.a 0
def K.give1 (k : K) (n : Int) (a : Nat) (b : Int) : K :=
 if 0 ≤ b then k.ready b 0
 else if 100 ≤ k.sems.getD a 0 then k.say n 4
 else { k with sems := k.sems.modify a (· + 1) }
def K.give (k : K) (n : Int) (o : Kn.Op) : K :=
 if k.sems.length ≤ o.a.toNat then k.say n 2
 else (k.say n 0).give1 n o.a.toNat ((k.say n 0).best 1 o.a)
def K.lock (k : K) (n : Int) (o : Kn.Op) : K :=
 if k.owner.length ≤ o.a.toNat then k.say n 2
 else if k.owner.getD o.a.toNat 0 = -1 then ({ k with owner := k.owner.set o.a.toNat n }).say n 0
 else if k.owner.getD o.a.toNat 0 = n then k.say n 3
 else k.wait n 2 o.a 0
def K.unlock (k : K) (n : Int) (o : Kn.Op) : K :=
 if k.owner.length ≤ o.a.toNat then k.say n 2
 else if k.owner.getD o.a.toNat 0 ≠ n then k.say n 3
 else (k.say n 0).free o.a.toNat
def K.send1 (k : K) (n : Int) (o : Kn.Op) (b : Int) : K :=
 if 0 ≤ b then (k.ready b o.b).say n 0
 else if ((k.l (32 + o.a.toNat)).length : Int) < k.size.getD o.a.toNat 0 then (k.setL (32 + o.a.toNat) (· ++ [o.b])).say n 0
 else k.wait n 3 o.a o.b
def K.send (k : K) (n : Int) (o : Kn.Op) : K :=
 if k.size.length ≤ o.a.toNat then k.say n 2
 else k.send1 n o (k.best 4 o.a)
def K.recv2 (k : K) (a : Nat) (b : Int) : K :=
 if 0 ≤ b then (k.setL (32 + a) (· ++ [(k.t b).value])).ready b 0 else k
def K.recv1 (k : K) (n : Int) (o : Kn.Op) (x : Int) (r : List Int) : K :=
 ((k.say n x).setL (32 + o.a.toNat) (fun _ => r)).recv2 o.a.toNat (((k.say n x).setL (32 + o.a.toNat) (fun _ => r)).best 3 o.a)
def K.recv (k : K) (n : Int) (o : Kn.Op) : K :=
 if k.size.length ≤ o.a.toNat then k.say n 2
 else match k.l (32 + o.a.toNat) with
  | [] => k.wait n 4 o.a 0
  | x :: r => k.recv1 n o x r
def K.show_ (k : K) (n : Int) : K := k.put (97 + (k.t n).last.tmod 26)
def K.loop (k : K) (n : Int) (o : Kn.Op) : K :=
 if (k.t n).loops.getD ((k.t n).place - 1) 0 < o.b then k.setT n fun t => { t with loops := t.loops.modify ((k.t n).place - 1) (· + 1), place := o.a.toNat }
 else k.setT n fun t => { t with loops := t.loops.set ((k.t n).place - 1) 0 }
def K.setBase (k : K) (n : Int) (o : Kn.Op) : K := (k.setT n fun t => { t with base := o.a }).say n 0
/-- A task's operation. -/
def K.act (k : K) (n : Int) (o : Kn.Op) : K :=
 if o.kind = 0 then k.put o.a
 else if o.kind = 1 then k.back n
 else if o.kind = 2 then k.delay n o
 else if o.kind = 3 then k.take n o
 else if o.kind = 4 then k.give n o
 else if o.kind = 5 then k.lock n o
 else if o.kind = 6 then k.unlock n o
 else if o.kind = 7 then k.send n o
 else if o.kind = 8 then k.recv n o
 else if o.kind = 9 then k.show_ n
 else if o.kind = 10 then k.loop n o
 else if o.kind = 11 then k.say n 5
 else if o.kind = 12 then (k.put 33).fin n
 else if o.kind = 13 then k.setBase n o
 else k.say n n
def K.do_ (k : K) (n : Int) : K :=
 let t := k.t n
 (k.setT n fun t => { t with place := t.place + 1 }).act n (t.ops.getD t.place ⟨0, 0, 0⟩)
def K.timed (k : K) : Bool := k.tasks.any fun t => decide (t.state = 1 ∧ 0 ≤ t.wake)
def K.wakeAt : Nat → Nat → K → K
 | 0, _, k => k
 | f + 1, i, k => K.wakeAt f (i + 1) (if (k.ti i).state = 1 ∧ (k.ti i).wake = k.ticks then k.ready i (k.ti i).answer else k)
def K.tick (k : K) : K := ({ K.wakeAt k.tasks.length 0 { k with ticks := k.ticks + 1, sinceOps := 0 } with ran := -1 }).priorities
def K.step (k : K) (n : Int) : K := { k with ops := k.ops + 1, sinceOps := k.sinceOps + 1, most := if k.most < k.sinceOps + 1 then k.sinceOps + 1 else k.most, ran := n }
def K.run (ticks ops : Nat) : Nat → K → K
 | 0, k => k
 | f + 1, k =>
   let n := k.running
   if n < 0 then
    if k.timed = false ∨ ticks ≤ k.ticks then k else K.run ticks ops f k.tick
   else if ops ≤ k.ops then k
   else if (k.t n).ops.length ≤ (k.t n).place then K.run ticks ops f (({ k with ran := n }).fin n).priorities
   else K.run ticks ops f ((k.step n).do_ n).priorities
def rowsOf : List Kn.Task → Nat → List (List Int) → List (List Int)
 | [], _, l => l
 | x :: r, i, l => rowsOf r (i + 1) (l.modify x.prio.toNat (· ++ [(i : Int)]))
def begin (t : Kn.Table) : K :=
 { tasks := t.tasks.map fun x => ⟨x.prio, x.prio, x.ops, 0, 0, 0, -1, 0, 0, 0, 0, 0, x.ops.map fun _ => 0⟩,
   lst := rowsOf t.tasks 0 (List.replicate 40 []), sems := t.sems, owner := List.replicate t.mutexes.toNat (-1), size := t.queues, out := [], ticks := 0, ops := 0, count := 0, ran := -1, most := 0, sinceOps := 0 }
/-- A table that may be, run. -/
def runT (t : Kn.Table) (ticks ops : Nat) : K := K.run ticks ops (ticks + ops + t.tasks.length + 1) (begin t)
end Rk
end Go.Proofs.Ytncbgnpoffolcaa
namespace Go.Proofs.Ytncbgnpoffolcaa
namespace Rk
open Kn (TL Should Ok Inv Mono)
section
variable {k : K}
theorem ti_setT {i j : Nat} {f : T → T} (hi : i < k.tasks.length) : (k.setT i f).ti j = if j = i then f (k.ti i) else k.ti j := by
 unfold K.setT K.ti
 by_cases e : j = i
 ·subst e
  simp [hi]
 ·simp [e, Ne.symm e]
theorem t_nat (i : Nat) : k.t (i : Int) = k.ti i := rfl
theorem len_setT {i : Int} {f : T → T} : (k.setT i f).tasks.length = k.tasks.length := by simp [K.setT]
theorem l_setL {x y : Nat} {f : List Int → List Int} (hl : k.lst.length = 40) (hx : x < 40) : (k.setL x f).l y = if y = x then f (k.l x) else k.l y := by
 unfold K.setL K.l
 by_cases e : y = x
 ·subst e
  simp [hl, hx]
 ·simp [e, Ne.symm e]
end
/-- What is waited for, in the candidate's words. -/
def On (o : Option Nat) (on id : Int) : Prop :=
 match o with
 | none => on = 0
 | some x => (32 ≤ x ∧ x < 40 ∧ on = 1 ∧ id = (x : Int) - 32) ∨ (40 ≤ x ∧ x < 48 ∧ on = 2 ∧ id = (x : Int) - 40) ∨ (56 ≤ x ∧ x < 64 ∧ on = 3 ∧ id = (x : Int) - 56) ∨ (64 ≤ x ∧ x < 72 ∧ on = 4 ∧ id = (x : Int) - 64)
theorem On.inj {x : Nat} {o : Option Nat} {on id : Int} (h : On (some x) on id) : o = some x ↔ (∃ on' id', On o on' id' ∧ on' = on ∧ id' = id) := by
 constructor
 ·rintro rfl
  exact ⟨on, id, h, rfl, rfl⟩
 ·rintro ⟨_, _, h', rfl, rfl⟩
  cases o with
  | none => unfold On at h h'; simp only at h h'; omega
  | some y => unfold On at h h'; simp only at h h'; congr 1; omega
/-- A task of the one and of the other, at a time. -/
structure TR (now : Nat) (t : Kn.T) (r : T) : Prop where
 base : r.base = t.base
 prio : r.prio = t.prio
 ops : r.ops = t.ops
 place : r.place = t.place
 last : r.last = t.answer
 state : r.state = t.state
 loops : r.loops = t.loops
 on : t.state = 1 → On t.on r.on r.id
 time : t.state = 1 → 0 < t.left → r.wake = now + t.left ∧ r.answer = if t.on = none then 0 else 1
 wake : t.state ≠ 1 ∨ t.left = 0 → r.wake = -1
 value : t.state = 1 → r.on = 3 → r.value = t.value
theorem TR.now {a b : Nat} {t : Kn.T} {r : T} (h : TR a t r) (hs : t.state ≠ 1 ∨ t.left = 0) : TR b t r :=
 ⟨h.base, h.prio, h.ops, h.place, h.last, h.state, h.loops, h.on, fun h1 h2 => by omega, h.wake, h.value⟩
/-- The one and the other. -/
structure Rel (τ : Nat → Nat) (k : Kn.K) (r : K) : Prop where
 len : r.tasks.length = k.tasks.length
 task : ∀ i, i < k.tasks.length → TR (τ i) (k.ti i) (r.ti i)
 lens : r.lst.length = 40
 rows : ∀ p, p < 32 → r.l p = k.l p
 ques : ∀ i, i < 8 → r.l (32 + i) = k.l (48 + i)
 sems : r.sems = k.sems
 owner : r.owner = k.owner
 size : r.size = k.size
 out : r.out = k.out
 ticks : r.ticks = k.ticks
 ops : r.ops = k.ops
 since : ∀ i, i < k.tasks.length → (r.ti i).since ≤ r.count
 ord : ∀ x, TL x → 32 ≤ x → (k.l x).Pairwise fun a b => (r.t a).since < (r.t b).since
section
variable {k : Kn.K} {r : K} {τ : Nat → Nat} {i : Nat}
theorem Rel.setT {f : Kn.T → Kn.T} {g : T → T} (h : Rel τ k r) (hi : i < k.tasks.length) (ht : TR (τ i) (f (k.ti i)) (g (r.ti i))) (hs : (g (r.ti i)).since = (r.ti i).since) : Rel τ (k.setT i f) (r.setT i g) := by
 have hri : i < r.tasks.length := by rw [h.len]; exact hi
 have es : ∀ j, ((r.setT i g).ti j).since = (r.ti j).since := fun j => by
  rw [ti_setT hri]
  split
  ·rename_i e; rw [hs, e]
  ·rfl
 refine ⟨by rw [len_setT, Kn.len_setT]; exact h.len, fun j hj => ?_, h.lens, h.rows, h.ques, h.sems, h.owner, h.size, h.out, h.ticks, h.ops, fun j hj => ?_, fun x h1 h2 => ?_⟩
 ·rw [Kn.len_setT] at hj
  rw [ti_setT hri, Kn.ti_setT hi]
  by_cases e : j = i
  ·rw [if_pos e, if_pos e, e]; exact ht
  ·rw [if_neg e, if_neg e]; exact h.task j hj
 ·rw [Kn.len_setT] at hj
  rw [es]
  exact h.since j hj
 ·rw [Kn.l_setT]
  refine (h.ord x h1 h2).imp fun {a b} hab => ?_
  show ((r.setT i g).ti a.toNat).since < ((r.setT i g).ti b.toNat).since
  rw [es, es]
  exact hab
theorem Rel.row {x : Nat} {f g : List Int → List Int} (h : Rel τ k r) (hl : k.lst.length = 72) (hx : x < 32) (e : g (k.l x) = f (k.l x)) : Rel τ (k.setL x f) (r.setL x g) := by
 refine ⟨h.len, fun j hj => h.task j hj, by rw [← h.lens]; simp [K.setL], fun p hp => ?_, fun a ha => ?_, h.sems, h.owner, h.size, h.out, h.ticks, h.ops, h.since, fun y h1 h2 => ?_⟩
 ·rw [l_setL h.lens (by omega), Kn.l_setL' hl (by omega), h.rows x hx, h.rows p hp, e]
 ·rw [l_setL h.lens (by omega), Kn.l_setL' hl (by omega), if_neg (by omega), if_neg (by omega)]
  exact h.ques a ha
 ·rw [Kn.l_setL' hl (by omega), if_neg (by omega)]
  exact h.ord y h1 h2
theorem Rel.que {a : Nat} {f : List Int → List Int} (h : Rel τ k r) (hl : k.lst.length = 72) (ha : a < 8) : Rel τ (k.setL (48 + a) f) (r.setL (32 + a) f) := by
 refine ⟨h.len, fun j hj => h.task j hj, by rw [← h.lens]; simp [K.setL], fun p hp => ?_, fun b hb => ?_, h.sems, h.owner, h.size, h.out, h.ticks, h.ops, h.since, fun y h1 h2 => ?_⟩
 ·rw [l_setL h.lens (by omega), Kn.l_setL' hl (by omega), if_neg (by omega), if_neg (by omega)]
  exact h.rows p hp
 ·rw [l_setL h.lens (by omega), Kn.l_setL' hl (by omega), h.ques a ha, h.ques b hb]
  by_cases e : b = a
  ·rw [if_pos (by omega), if_pos (by omega)]
  ·rw [if_neg (by omega), if_neg (by omega)]
 ·unfold TL at h1
  rw [Kn.l_setL' hl (by omega), if_neg (by omega)]
  exact h.ord y (by unfold TL; omega) h2
/-- A list of those that wait loses one. -/
theorem Rel.lose {x : Nat} {n : Int} (h : Rel τ k r) (hl : k.lst.length = 72) (hx : TL x) (h32 : 32 ≤ x) : Rel τ (k.setL x (·.erase n)) r := by
 have hx2 : x < 48 ∨ 56 ≤ x ∧ x < 72 := hx
 refine ⟨h.len, fun j hj => h.task j hj, h.lens, fun p hp => ?_, fun a ha => ?_, h.sems, h.owner, h.size, h.out, h.ticks, h.ops, h.since, fun y h1 h2 => ?_⟩
 ·rw [Kn.l_setL' hl (by omega), if_neg (by omega)]
  exact h.rows p hp
 ·rw [Kn.l_setL' hl (by omega), if_neg (by omega)]
  exact h.ques a ha
 ·rw [Kn.l_setL' hl (by omega)]
  by_cases e : y = x
  ·rw [if_pos e]
   exact (h.ord x hx h32).sublist List.erase_sublist
  ·rw [if_neg e]
   exact h.ord y h1 h2
theorem filter_erase {l : List Int} {n : Int} (h : l.Nodup) : l.filter (· ≠ n) = l.erase n := by
 rw [h.erase_eq_filter]
 congr 1
 funext a
 by_cases e : a = n
 ·simp [e]
 ·simp [e]
theorem Rel.leave (h : Rel τ k r) (hk : Inv k) (hi : i < k.tasks.length) : Rel τ (k.leave i) (r.leave i) := by
 obtain ⟨p1, p2⟩ := hk.prioRow hi
 unfold Kn.K.leave K.leave
 rw [Kn.t_nat, t_nat, (h.task i hi).prio]
 exact h.row hk.lens p1 (filter_erase (hk.nodup _ (Kn.row_TL p1)))
theorem Rel.push (h : Rel τ k r) (hk : Inv k) (hi : i < k.tasks.length) (n : Int) : Rel τ (k.setL (k.ti i).prio.toNat (· ++ [n])) (r.setL (r.ti i).prio.toNat (· ++ [n])) := by
 obtain ⟨p1, p2⟩ := hk.prioRow hi
 rw [(h.task i hi).prio]
 exact h.row hk.lens p1 rfl
theorem Rel.say {a : Int} (h : Rel τ k r) (hi : i < k.tasks.length) : Rel τ (k.say i a) (r.say i a) := by
 have t := h.task i hi
 exact h.setT hi ⟨t.base, t.prio, t.ops, t.place, rfl, t.state, t.loops, t.on, t.time, t.wake, t.value⟩ rfl
theorem Rel.wake1 {a : Int} (h : Rel τ k r) (hl : k.lst.length = 72) (hi : i < k.tasks.length) (hp : (k.ti i).prio.toNat < 32) :
 Rel τ ((k.setT i fun t => { t with state := 0, answer := a, on := none, left := 0 }).setL (k.ti i).prio.toNat (· ++ [(i : Int)])) (r.ready i a) := by
 have t1 := h.task i hi
 have h2 := h.setT (f := fun t => { t with state := 0, answer := a, on := none, left := 0 }) (g := fun t => { t with state := 0, on := 0, wake := -1, last := a }) hi
  ⟨t1.base, t1.prio, t1.ops, t1.place, rfl, rfl, t1.loops, fun e => absurd (show (0 : Int) = 1 from e) (by decide), fun e => absurd (show (0 : Int) = 1 from e) (by decide), fun _ => rfl, fun e => absurd (show (0 : Int) = 1 from e) (by decide)⟩ rfl
 have hri : i < r.tasks.length := by rw [h.len]; exact hi
 unfold K.ready
 simp only [t_nat]
 rw [ti_setT hri, if_pos rfl]
 show Rel τ _ (K.setL _ (r.ti i).prio.toNat _)
 rw [t1.prio]
 exact h2.row hl hp rfl
theorem Rel.wake {a : Int} (h : Rel τ k r) (hk : Inv k) (hi : i < k.tasks.length) : Rel τ (k.wake i a) (r.ready i a) := by
 obtain ⟨p1, p2⟩ := hk.prioRow hi
 unfold Kn.K.wake
 simp only [Kn.t_nat]
 cases ho : (k.ti i).on with
 | none =>
   rw [Kn.ti_setT hi, if_pos rfl]
   exact h.wake1 hk.lens hi p1
 | some x =>
   obtain ⟨q1, q2⟩ := (hk.on i x hi ho).2.lt hk.few
   have h1 := h.lose (n := (i : Int)) hk.lens q1 q2
   have hi1 : i < (k.setL x (·.erase (i : Int))).tasks.length := hi
   have := h1.wake1 (a := a) (by rw [Kn.lst_setL]; exact hk.lens) hi1 p1
   simp only []
   rw [Kn.ti_setT hi1, if_pos rfl]
   exact this
theorem Rel.wait {o : Option Nat} {left on id value : Int} (h : Rel τ k r) (hk : Inv k) (hi : i < k.tasks.length) (hs : (k.ti i).state = 0) (ho : On o on id) (hx : ∀ x, o = some x → k.OnOk x) (hl : left = 0) (hv : on = 3 → value = (k.ti i).value) :
 Rel τ (k.wait i o left) (r.wait i on id value) := by
 subst hl
 have h1 := h.leave hk hi
 have t := h.task i hi
 have hri : i < r.tasks.length := by rw [h.len]; exact hi
 have hl1 : (k.leave i).lst.length = 72 := by unfold Kn.K.leave; rw [Kn.lst_setL]; exact hk.lens
 -- the task
 have h2 : Rel τ ((k.leave i).setT i fun t => { t with state := 1, on := o, left := 0 }) (r.wait i on id value) := by
  have es : ∀ j, j ≠ i → (r.wait i on id value).ti j = r.ti j := fun j hj => by
   show ((r.leave i).setT i _).ti j = _
   rw [ti_setT (k := r.leave i) hri, if_neg hj]
   rfl
  have ei : (r.wait i on id value).ti i = { r.ti i with state := 1, on := on, id := id, value := value, since := r.count + 1 } := by
   show ((r.leave i).setT i _).ti i = _
   rw [ti_setT (k := r.leave i) hri, if_pos rfl]
   rfl
  refine ⟨by show ((r.leave i).setT i _).tasks.length = _; rw [len_setT, Kn.len_setT]; exact h1.len, fun j hj => ?_, h1.lens, h1.rows, h1.ques, h1.sems, h1.owner, h1.size, h1.out, h1.ticks, h1.ops, fun j hj => ?_, fun x a1 a2 => ?_⟩
  ·rw [Kn.len_setT] at hj
   rw [Kn.ti_setT (k := k.leave i) hi]
   by_cases e : j = i
   ·subst e
    rw [if_pos rfl, ei]
    exact ⟨t.base, t.prio, t.ops, t.place, t.last, rfl, t.loops, fun _ => ho, fun _ e => absurd (show (0 : Int) < 0 from e) (by decide), fun _ => t.wake (.inl (by omega)), fun _ e => hv e⟩
   ·rw [if_neg e, es j e]
    exact h1.task j hj
  ·rw [Kn.len_setT] at hj
   show _ ≤ r.count + 1
   by_cases e : j = i
   ·subst e; rw [ei]; exact zl _
   ·rw [es j e]; have := h.since j hj; omega
  ·rw [Kn.l_setT]
   have hm : (i : Int) ∉ (k.leave i).l x := by
    unfold Kn.K.leave
    obtain ⟨p1, p2⟩ := hk.prioRow hi
    rw [Kn.t_nat, Kn.l_setL' hk.lens (by omega), if_neg (by omega)]
    intro hm
    rcases (hk.mem x a1 i hi).1 hm with q | q
    ·omega
    ·omega
   have hv2 : ∀ z ∈ (k.leave i).l x, 0 ≤ z := by
    unfold Kn.K.leave
    obtain ⟨p1, p2⟩ := hk.prioRow hi
    rw [Kn.t_nat, Kn.l_setL' hk.lens (by omega), if_neg (by omega)]
    exact fun z hz => (hk.val x a1 z hz).1
   refine ((h1.ord x a1 a2).imp_of_mem fun {a b} ha hb hab => ?_)
   have ea : a.toNat ≠ i := fun e => hm (by have := hv2 a ha; exact (show a = (i : Int) by omega) ▸ ha)
   have eb : b.toNat ≠ i := fun e => hm (by have := hv2 b hb; exact (show b = (i : Int) by omega) ▸ hb)
   show ((r.wait i on id value).ti a.toNat).since < ((r.wait i on id value).ti b.toNat).since
   rw [es _ ea, es _ eb]
   exact hab
 unfold Kn.K.wait
 cases o with
 | none => exact h2
 | some x =>
   obtain ⟨q1, q2⟩ := (hx x rfl).lt hk.few
   have q3 : x < 48 ∨ 56 ≤ x ∧ x < 72 := q1
   have hl2 : ((k.leave i).setT i fun t => { t with state := 1, on := some x, left := 0 }).lst.length = 72 := hl1
   show Rel τ (Kn.K.setL ((k.leave i).setT i fun t => { t with state := 1, on := some x, left := 0 }) x (· ++ [(i : Int)])) _
   refine ⟨h2.len, h2.task, h2.lens, fun p hp => ?_, fun a ha => ?_, h2.sems, h2.owner, h2.size, h2.out, h2.ticks, h2.ops, h2.since, fun y a1 a2 => ?_⟩
   ·rw [Kn.l_setL' hl2 (by omega), if_neg (by omega)]
    exact h2.rows p hp
   ·rw [Kn.l_setL' hl2 (by omega), if_neg (by omega)]
    exact h2.ques a ha
   ·rw [Kn.l_setL' hl2 (by omega)]
    by_cases e : y = x
    ·subst e
     rw [if_pos rfl]
     refine List.pairwise_append.2 ⟨h2.ord y a1 a2, List.pairwise_singleton _ _, fun a ha b hb => ?_⟩
     rw [List.mem_singleton] at hb
     subst hb
     have ha2 : a ∈ k.l y := by
      have : ((k.leave i).setT i fun t => { t with state := 1, on := some y, left := 0 }).l y = k.l y := by
       obtain ⟨p1, p2⟩ := hk.prioRow hi
       rw [Kn.l_setT]
       unfold Kn.K.leave
       rw [Kn.t_nat, Kn.l_setL' hk.lens (by omega), if_neg (by omega)]
      rw [this] at ha
      exact ha
     obtain ⟨v1, v2⟩ := hk.val y a1 a ha2
     have ea : a.toNat ≠ i := fun e => by
      have : a = (i : Int) := by omega
      rw [this] at ha2
      rcases (hk.mem y a1 i hi).1 ha2 with q | q <;> omega
     show (((r.leave i).setT i _).ti a.toNat).since < (((r.leave i).setT i _).ti i).since
     rw [ti_setT (k := r.leave i) hri, if_neg ea, ti_setT (k := r.leave i) hri, if_pos rfl]
     show (r.ti a.toNat).since < r.count + 1
     have := h.since a.toNat (by omega)
     omega
    ·rw [if_neg e]
     exact h2.ord y a1 a2
end
end Rk
end Go.Proofs.Ytncbgnpoffolcaa
namespace Go.Proofs.Ytncbgnpoffolcaa
namespace Rk
open Kn (TL Should Ok Inv Mono)
theorem On.det {o : Option Nat} {a b c d : Int} (h : On o a b) (h' : On o c d) (hn : o ≠ none) : a = c ∧ b = d := by
 cases o with
 | none => exact absurd rfl hn
 | some x => unfold On at h h'; simp only at h h'; omega
section
variable {k : Kn.K} {r : K} {τ : Nat → Nat} {i x : Nat} {on id : Int}
theorem Rel.waits (h : Rel τ k r) (hk : Inv k) (hx : TL x) (h32 : 32 ≤ x) (ho : On (some x) on id) (hi : i < k.tasks.length) : (i : Int) ∈ k.l x ↔ Waits (r.ti i) on id := by
 have t := h.task i hi
 rw [hk.mem x hx i hi]
 unfold Should Waits
 rw [t.state]
 constructor
 ·rintro (⟨h1, _⟩ | ⟨_, h1, h2⟩)
  ·omega
  ·have q := t.on h1
   rw [h2] at q
   obtain ⟨e1, e2⟩ := q.det ho (by simp)
   exact ⟨h1, e1, e2⟩
 ·rintro ⟨h1, h2, h3⟩
  exact .inr ⟨h32, h1, ho.inj.2 ⟨_, _, t.on h1, h2, h3⟩⟩
def IsBest (r : K) (n : Nat) (on id b : Int) : Prop :=
 (b = -1 ∧ ∀ j, j < n → ¬ Waits (r.ti j) on id) ∨ ∃ i : Nat, b = i ∧ i < n ∧ Waits (r.ti i) on id ∧ ∀ j, j < n → Waits (r.ti j) on id → j ≠ i → Ahead (r.ti i) (r.ti j)
theorem IsBest.one {n : Nat} {b c : Int} (h : IsBest r n on id b) (h' : IsBest r n on id c) : b = c := by
 rcases h with ⟨e, h⟩ | ⟨i, e, hi, hw, h⟩ <;> rcases h' with ⟨e', h'⟩ | ⟨j, e', hj, hw', h'⟩
 ·omega
 ·exact absurd hw' (h j hj)
 ·exact absurd hw (h' i hi)
 ·by_cases e2 : i = j
  ·omega
  ·have a := h j hj hw' (Ne.symm e2)
   have b := h' i hi hw e2
   unfold Ahead at a b
   omega
theorem bestAt_is (hd : ∀ i j, i < r.tasks.length → j < r.tasks.length → Waits (r.ti i) on id → Waits (r.ti j) on id → i ≠ j → (r.ti i).since ≠ (r.ti j).since) :
 ∀ (f i : Nat) (b : Int), i + f = r.tasks.length → IsBest r i on id b → IsBest r r.tasks.length on id (r.bestAt on id f i b)
 | 0, i, b, e, h => by
   have : i = r.tasks.length := by omega
   subst this
   exact h
 | f + 1, i, b, e, h => by
   unfold K.bestAt
   refine bestAt_is hd f (i + 1) _ (by omega) ?_
   by_cases hw : Waits (r.ti i) on id
   ·rw [if_pos hw]
    rcases h with ⟨eb, h⟩ | ⟨q, eb, hq, hwq, h⟩
    ·rw [if_pos (.inl (by omega))]
     refine .inr ⟨i, rfl, by omega, hw, fun j hj hwj hne => absurd hwj (h j (by omega))⟩
    ·subst eb
     rw [t_nat]
     by_cases ha : Ahead (r.ti i) (r.ti q)
     ·rw [if_pos (.inr ha)]
      refine .inr ⟨i, rfl, by omega, hw, fun j hj hwj hne => ?_⟩
      by_cases e2 : j = q
      ·rw [e2]; exact ha
      ·have := h j (by omega) hwj e2
       unfold Ahead at this ha ⊢
       omega
     ·rw [if_neg (by rintro (h | h); omega; exact ha h)]
      refine .inr ⟨q, rfl, by omega, hwq, fun j hj hwj hne => ?_⟩
      by_cases e2 : j = i
      ·subst e2
       have := hd j q (by omega) (by omega) hw hwq hne
       unfold Ahead at ha ⊢
       omega
      ·exact h j (by omega) hwj hne
   ·rw [if_neg hw]
    rcases h with ⟨eb, h⟩ | ⟨q, eb, hq, hwq, h⟩
    ·refine .inl ⟨eb, fun j hj hwj => ?_⟩
     by_cases e2 : j = i
     ·rw [e2] at hwj; exact hw hwj
     ·exact h j (by omega) hwj
    ·refine .inr ⟨q, eb, by omega, hwq, fun j hj hwj hne => ?_⟩
     by_cases e2 : j = i
     ·rw [e2] at hwj; exact absurd hwj hw
     ·exact h j (by omega) hwj hne
def BestL (r : K) (ys : List Int) (b : Int) : Prop := (b = -1 ∧ ys = []) ∨ (0 ≤ b ∧ b ∈ ys ∧ ∀ z ∈ ys, z ≠ b → Ahead (r.t b) (r.t z))
theorem bestOf_is (hp : ∀ n : Int, 0 ≤ n ∧ n < k.tasks.length → (k.t n).prio = (r.t n).prio) :
 ∀ (xs ys : List Int) (b : Int), (∀ z ∈ ys ++ xs, 0 ≤ z ∧ z < k.tasks.length) → (ys ++ xs).Pairwise (fun a b => (r.t a).since < (r.t b).since) → BestL r ys b → BestL r (ys ++ xs) (k.bestOf xs b)
 | [], ys, b, _, _, h => by
   rw [List.append_nil]
   exact h
 | n :: xs, ys, b, hv, hs, h => by
   unfold Kn.K.bestOf
   have e : ys ++ n :: xs = (ys ++ [n]) ++ xs := by simp
   rw [e] at hv hs ⊢
   refine bestOf_is hp xs (ys ++ [n]) _ hv hs ?_
   have hvn := hv n (by simp)
   have hsn : ∀ z ∈ ys, (r.t z).since < (r.t n).since := fun z hz => (List.pairwise_append.1 (List.pairwise_append.1 hs).1).2.2 z hz n (by simp)
   rcases h with ⟨eb, h⟩ | ⟨hb, hm, h⟩
   ·subst h
    rw [if_pos (.inl (by omega))]
    refine .inr ⟨hvn.1, by simp, fun z hz hne => absurd (by simpa using hz) hne⟩
   ·have hvb := hv b (by simp [hm])
    rw [hp n hvn, hp b hvb]
    have hsb := hsn b hm
    by_cases hlt : (r.t n).prio < (r.t b).prio
    ·rw [if_pos (.inr hlt)]
     refine .inr ⟨hvn.1, by simp, fun z hz hne => ?_⟩
     have hz2 : z ∈ ys := by
      rcases List.mem_append.1 hz with hz | hz
      ·exact hz
      ·exact absurd (by simpa using hz) hne
     by_cases e2 : z = b
     ·rw [e2]; exact .inl hlt
     ·have := h z hz2 e2
      unfold Ahead at this ⊢
      omega
    ·rw [if_neg (by rintro (h | h); omega; exact hlt h)]
     refine .inr ⟨hb, by simp [hm], fun z hz hne => ?_⟩
     rcases List.mem_append.1 hz with hz | hz
     ·exact h z hz hne
     ·rw [List.mem_singleton.1 hz]
      unfold Ahead
      omega
theorem pw_ne {f : Int → Nat} : ∀ {l : List Int} {a b : Int}, l.Pairwise (fun a b => f a < f b) → a ∈ l → b ∈ l → a ≠ b → f a ≠ f b
 | [], _, _, _, h, _, _ => by cases h
 | x :: l, a, b, h, ha, hb, hne => by
   obtain ⟨h1, h2⟩ := List.pairwise_cons.1 h
   rcases List.mem_cons.1 ha with ea | ha'
   ·rcases List.mem_cons.1 hb with eb | hb'
    ·exact absurd (ea.trans eb.symm) hne
    ·rw [ea]; exact Nat.ne_of_lt (h1 b hb')
   ·rcases List.mem_cons.1 hb with eb | hb'
    ·rw [eb]; exact Nat.ne_of_gt (h1 a ha')
    ·exact pw_ne h2 ha' hb' hne
theorem Rel.best (h : Rel τ k r) (hk : Inv k) (hx : TL x) (h32 : 32 ≤ x) (ho : On (some x) on id) : r.best on id = k.best (k.l x) := by
 have hp : ∀ n : Int, 0 ≤ n ∧ n < k.tasks.length → (k.t n).prio = (r.t n).prio := fun n hn => (h.task n.toNat (by omega)).prio.symm
 have hb := bestOf_is (r := r) hp (k.l x) [] (-1) (hk.val x hx) (h.ord x hx h32) (.inl ⟨rfl, rfl⟩)
 rw [List.nil_append] at hb
 have hd : ∀ i j, i < r.tasks.length → j < r.tasks.length → Waits (r.ti i) on id → Waits (r.ti j) on id → i ≠ j → (r.ti i).since ≠ (r.ti j).since := by
  intro i j hi hj hwi hwj hne
  rw [h.len] at hi hj
  have m1 := (h.waits hk hx h32 ho hi).2 hwi
  have m2 := (h.waits hk hx h32 ho hj).2 hwj
  have hpw := h.ord x hx h32
  have hne2 : (i : Int) ≠ j := by omega
  exact pw_ne hpw m1 m2 hne2
 have ha := bestAt_is (r := r) (on := on) (id := id) hd r.tasks.length 0 (-1) (by omega) (.inl ⟨rfl, fun j hj => by omega⟩)
 refine ha.one ?_
 show IsBest r r.tasks.length on id (k.bestOf (k.l x) (-1))
 rw [h.len]
 rcases hb with ⟨e, h0⟩ | ⟨h0, hm, hall⟩
 ·refine .inl ⟨e, fun j hj hw => ?_⟩
  have := (h.waits hk hx h32 ho hj).2 hw
  rw [h0] at this
  cases this
 ·obtain ⟨v1, v2⟩ := hk.val x hx _ hm
  obtain ⟨i, hi⟩ := Int.eq_ofNat_of_zero_le v1
  rw [hi] at hm v2 hall ⊢
  refine .inr ⟨i, rfl, by omega, (h.waits hk hx h32 ho (by omega)).1 hm, fun j hj hw hne => hall j ((h.waits hk hx h32 ho hj).2 hw) (by omega)⟩
end
/-! All priorities. -/
section
variable {k : Kn.K} {r : K} {τ : Nat → Nat}
theorem pass_same {a b : Kn.K} : ∀ (ts us : List Kn.T) (i : Nat) (l : List Int) (g : Bool), ts.length = us.length →
 (∀ j (h : j < ts.length) (h' : j < us.length), ts[j].state = us[j].state ∧ (us[j].state = 1 → a.ownerOf ts[j] = b.ownerOf us[j])) → a.pass ts i l g = b.pass us i l g
 | [], [], _, _, _, _, _ => rfl
 | [], _ :: _, _, _, _, e, _ => by simp at e
 | _ :: _, [], _, _, _, e, _ => by simp at e
 | t :: ts, u :: us, i, l, g, e, h => by
   unfold Kn.K.pass
   obtain ⟨h1, h2⟩ := h 0 (by simp) (by simp)
   simp only [List.getElem_cons_zero] at h1 h2
   have ih := fun l g => pass_same ts us (i + 1) l g (by simpa using e) (fun j hj hj' => h (j + 1) (by simpa using hj) (by simpa using hj'))
   rw [h1]
   simp only [ih]
   by_cases hs : u.state = 1
   ·rw [h2 hs]
   ·simp [hs]
theorem prios_same {a b : Kn.K} (h : ∀ l g, a.pass a.tasks 0 l g = b.pass b.tasks 0 l g) : ∀ (f : Nat) (l : List Int), a.prios f l = b.prios f l
 | 0, _ => rfl
 | f + 1, l => by
   unfold Kn.K.prios
   rw [h]
   have ih := prios_same h f
   cases hh : (b.pass b.tasks 0 l false) with
   | mk l' g => cases g <;> simp [ih]
theorem Rel.kn (h : Rel τ k r) (_hk : Inv k) : r.kn.priorities = k.priorities := by
 have hl : r.kn.tasks.length = k.tasks.length := by show (r.tasks.map _).length = _; rw [List.length_map]; exact h.len
 have hp : ∀ l g, r.kn.pass r.kn.tasks 0 l g = k.pass k.tasks 0 l g := fun l g => by
  refine pass_same _ _ 0 l g hl fun j hj hj' => ?_
  have t := h.task j hj'
  have er : r.ti j = r.tasks[j]'(by rw [h.len]; exact hj') := by unfold K.ti; simp [h.len, hj']
  have ek : k.ti j = k.tasks[j] := Kn.ti_get hj'
  have e1 : r.kn.tasks[j] = ⟨[], (r.ti j).base, (r.ti j).prio, (r.ti j).state, 0, 0, [], if (r.ti j).on = 2 then some (40 + (r.ti j).id.toNat) else none, 0, 0⟩ := by
   rw [er]
   simp [K.kn]
  rw [e1, ← ek]
  refine ⟨t.state, fun hs => ?_⟩
  have ho := t.on hs
  unfold Kn.K.ownerOf
  have eo : r.kn.owner = k.owner := h.owner
  simp only []
  cases hon : (k.ti j).on with
  | none =>
    rw [hon] at ho
    have : (r.ti j).on = 0 := ho
    simp [this]
  | some x =>
    rw [hon] at ho
    unfold On at ho
    simp only at ho
    by_cases e2 : (r.ti j).on = 2
    ·have hx : 40 ≤ x ∧ x < 48 ∧ (r.ti j).id = (x : Int) - 40 := by omega
     have e3 : 40 + (r.ti j).id.toNat = x := by omega
     rw [if_pos e2, e3, eo]
    ·rw [if_neg e2]
     have : ¬ (40 ≤ x ∧ x < 48) := by omega
     simp [this]
 unfold Kn.K.priorities
 rw [hl]
 have eb : r.kn.tasks.map (·.base) = k.tasks.map (·.base) := by
  apply List.ext_getElem
  ·rw [List.length_map, List.length_map, hl]
  ·intro j h1 h2
   have hj : j < k.tasks.length := by rw [List.length_map] at h2; exact h2
   have t := h.task j hj
   have er : r.ti j = r.tasks[j]'(by rw [h.len]; exact hj) := by unfold K.ti; simp [h.len, hj]
   have ek : k.ti j = k.tasks[j] := Kn.ti_get hj
   have := t.base
   rw [er, ek] at this
   simpa [K.kn] using this
 rw [eb]
 exact prios_same hp _ _
theorem Rel.moveAt {last : Int} : ∀ (ps : List Int) (i : Nat) (k : Kn.K) (r : K), Rel τ k r → Ok k → i + ps.length ≤ k.tasks.length → (∀ z ∈ ps, 0 ≤ z ∧ z < 32) → Rel τ (Kn.K.anewAt last ps i k) (K.moveAt last ps i r)
 | [], _, _, _, h, _, _, _ => h
 | p :: ps, i, k, r, h, hk, hi, hp => by
   have hi0 : i < k.tasks.length := by simp at hi; omega
   obtain ⟨q1, q2⟩ := Kn.Ok.anewAt last [p] i k hk (by simp; omega) (fun z hz => hp z (by simp at hz; simp [hz]))
   unfold Kn.K.anewAt K.moveAt
   have hz : ∀ z ∈ ps, 0 ≤ z ∧ z < 32 := fun z hz => hp z (by simp [hz])
   have hp0 := hp p (by simp)
   have t := h.task i hi0
   have hstep : Rel τ (Kn.K.anewAt last [p] i k) (K.moveAt last [p] i r) := by
    unfold Kn.K.anewAt K.moveAt Kn.K.anewAt K.moveAt
    simp only []
    have tp : TR (τ i) { k.ti i with prio := p } { r.ti i with prio := p } := ⟨t.base, rfl, t.ops, t.place, t.last, t.state, t.loops, t.on, t.time, t.wake, t.value⟩
    have ep := t.prio
    have es := t.state
    by_cases e : p = (k.ti i).prio
    ·rw [if_pos (show p = (k.t (i : Int)).prio from e), if_pos (show p = (r.ti i).prio by rw [ep]; exact e)]; exact h
    ·rw [if_neg (show ¬ p = (k.t (i : Int)).prio from e), if_neg (show ¬ p = (r.ti i).prio by rw [ep]; exact e)]
     by_cases e2 : (k.ti i).state ≠ 0
     ·rw [if_pos (show (k.t (i : Int)).state ≠ 0 from e2), if_pos (show (r.ti i).state ≠ 0 by rw [es]; exact e2)]
      exact h.setT (f := fun t => { t with prio := p }) (g := fun t => { t with prio := p }) hi0 tp rfl
     ·rw [if_neg (show ¬ (k.t (i : Int)).state ≠ 0 from e2), if_neg (show ¬ (r.ti i).state ≠ 0 by rw [es]; exact e2)]
      have h1 := h.leave hk.inv hi0
      have h2 := h1.setT (i := i) (f := fun t => { t with prio := p }) (g := fun t => { t with prio := p }) hi0 tp rfl
      have hl : ((k.leave i).setT i fun t => { t with prio := p }).lst.length = 72 := by
       show (k.leave i).lst.length = 72
       unfold Kn.K.leave; rw [Kn.lst_setL]; exact hk.inv.lens
      by_cases e3 : (i : Int) = last
      ·rw [if_pos e3, if_pos e3]
       exact h2.row hl (by omega) rfl
      ·rw [if_neg e3, if_neg e3]
       exact h2.row hl (by omega) rfl
   refine Rel.moveAt ps (i + 1) _ _ hstep q1 ?_ hz
   have := q2.tasks
   show i + 1 + ps.length ≤ (Kn.K.anewAt last [p] i k).tasks.length
   rw [this]
   simp at hi
   omega
theorem Rel.anew (h : Rel τ k r) (hk : Ok k) {last : Int} (hl : r.ran = last) : Rel τ (k.anew last) r.priorities := by
 unfold Kn.K.anew K.priorities
 rw [h.kn hk.inv, hl]
 have q := hk.good.priorities
 exact Rel.moveAt k.priorities 0 k r h hk (by rw [q.1]; omega) q.2
end
end Rk
end Go.Proofs.Ytncbgnpoffolcaa
namespace Go.Proofs.Ytncbgnpoffolcaa
namespace Rk
open Kn (TL Should Ok Inv Mono)
theorem on1 {a : Int} (h0 : 0 ≤ a) (h : a < 8) : On (some (32 + a.toNat)) 1 a := .inl ⟨by omega, by omega, rfl, by omega⟩
theorem on2 {a : Int} (h0 : 0 ≤ a) (h : a < 8) : On (some (40 + a.toNat)) 2 a := .inr (.inl ⟨by omega, by omega, rfl, by omega⟩)
theorem on3 {a : Int} (h0 : 0 ≤ a) (h : a < 8) : On (some (56 + a.toNat)) 3 a := .inr (.inr (.inl ⟨by omega, by omega, rfl, by omega⟩))
theorem on4 {a : Int} (h0 : 0 ≤ a) (h : a < 8) : On (some (64 + a.toNat)) 4 a := .inr (.inr (.inr ⟨by omega, by omega, rfl, by omega⟩))
section
variable {k : Kn.K} {r : K} {τ : Nat → Nat} {i x : Nat} {on id : Int}
theorem Rel.setK {f : Kn.T → Kn.T} (h : Rel τ k r) (hi : i < k.tasks.length) (ht : TR (τ i) (f (k.ti i)) (r.ti i)) : Rel τ (k.setT i f) r := by
 have := h.setT (f := f) (g := fun t => t) hi ht rfl
 have e : r.setT i (fun t => t) = r := by
  unfold K.setT
  rw [show (fun t : T => t) = _root_.id from rfl, List.modify_id]
 rwa [e] at this
theorem setT_setT (k : Kn.K) (n : Int) (f g : Kn.T → Kn.T) : (k.setT n f).setT n g = k.setT n (g ∘ f) := by
 unfold Kn.K.setT
 simp only [List.modify_modify_eq]
theorem wait_left (k : Kn.K) (n : Int) (o : Option Nat) (left : Int) : k.wait n o left = (k.wait n o 0).setT n fun t => { t with left := left } := by
 unfold Kn.K.wait
 cases o with
 | none =>
   simp only [setT_setT]
   rfl
 | some x =>
   show Kn.K.setL (Kn.K.setT _ _ _) x _ = Kn.K.setL (Kn.K.setT (Kn.K.setT (k.leave n) _ _) _ _) x _
   rw [setT_setT]
   rfl
theorem Rel.till {L A : Int} (h : Rel τ k r) (hi : i < k.tasks.length) (hs : (k.ti i).state = 1) (hL : 0 < L) (hτ : τ i = r.ticks) (hA : A = if (k.ti i).on = none then 0 else 1) : Rel τ (k.setT i fun t => { t with left := L }) (r.till i L A) := by
 have t := h.task i hi
 unfold K.till
 refine h.setT (f := fun t => { t with left := L }) (g := fun t => { t with wake := r.ticks + L, answer := A }) hi ⟨t.base, t.prio, t.ops, t.place, t.last, t.state, t.loops, t.on, fun _ _ => ⟨?_, hA⟩, fun e => ?_, t.value⟩ rfl
 ·show (r.ticks : Int) + L = (τ i : Int) + L
  rw [hτ]
 ·rcases e with e | e
  ·exact absurd hs e
  ·exact absurd (show L = 0 from e) (by omega)
theorem wait_ti {o : Option Nat} {left : Int} (hi : i < k.tasks.length) : ((k.wait i o left).ti i).state = 1 ∧ ((k.wait i o left).ti i).on = o ∧ (k.wait i o left).tasks.length = k.tasks.length := by
 unfold Kn.K.wait
 have e : ((k.leave i).setT i fun t => { t with state := 1, on := o, left := left }).ti i = { k.ti i with state := 1, on := o, left := left } := by
  rw [Kn.ti_setT (k := k.leave i) hi, if_pos rfl]
  rfl
 cases o with
 | none => exact ⟨by rw [e], by rw [e], Kn.len_setT⟩
 | some x =>
   refine ⟨?_, ?_, ?_⟩
   ·show (((k.leave i).setT i _).ti i).state = 1
    rw [e]
   ·show (((k.leave i).setT i _).ti i).on = _
    rw [e]
   ·exact Kn.len_setT
theorem Rel.waitFor {o : Option Nat} {L on id : Int} (h : Rel τ k r) (hk : Inv k) (hi : i < k.tasks.length) (hs : (k.ti i).state = 0) (ho : On o on id) (hx : ∀ x, o = some x → k.OnOk x) (hn : on ≠ 3) (hL : 0 < L) (hτ : τ i = r.ticks) (A : Int) (hA : A = if o = none then 0 else 1) :
 Rel τ (k.wait i o L) ((r.wait i on id 0).till i L A) := by
 have h1 := h.wait hk hi hs ho hx rfl (value := 0) (fun e => absurd e hn)
 obtain ⟨e1, e2, e3⟩ := wait_ti (k := k) (i := i) (o := o) (left := 0) hi
 rw [wait_left]
 exact h1.till (by rw [e3]; exact hi) e1 hL hτ (by rw [e2]; exact hA)
theorem Rel.back (h : Rel τ k r) (hk : Inv k) (hi : i < k.tasks.length) : Rel τ (k.yield i) (r.back i) := by
 obtain ⟨p1, p2⟩ := hk.prioRow hi
 have t := h.task i hi
 unfold Kn.K.yield K.back
 have h0 := h.say (a := 0) hi
 have e1 : k.yield i = (((k.say i 0).leave i).setL (k.t i).prio.toNat (· ++ [(i : Int)])) := by
  have e : (k.say (i : Int) 0).leave i = (k.leave i).say i 0 := by
   unfold Kn.K.leave Kn.K.say
   have : ((k.setT (i : Int) fun t => { t with answer := 0 }).t (i : Int)).prio = (k.t (i : Int)).prio := by
    rw [Kn.t_nat, Kn.t_nat, Kn.ti_setT hi, if_pos rfl]
   rw [this]
   rfl
  rw [e]
  rfl
 show Rel τ (k.yield i) _
 rw [e1]
 have hk0 : Inv (k.say i 0) := by
  refine ⟨hk.lens, by rw [Kn.K.say, Kn.len_setT]; exact hk.tasks, hk.few, fun j hj => ?_, fun j hj => ?_, fun j y hj => ?_, fun y hy z hz => ?_, fun y hy j hj => ?_, hk.nodup⟩
  all_goals (try rw [Kn.K.say, Kn.len_setT] at hj)
  ·obtain ⟨a1, a2, a3⟩ := Kn.say_ti (k := k) (i := i) (j := j) (a := 0) hi
   rw [a3]; exact hk.prio j hj
  ·obtain ⟨a1, a2, a3⟩ := Kn.say_ti (k := k) (i := i) (j := j) (a := 0) hi
   rw [a1]; exact hk.state j hj
  ·obtain ⟨a1, a2, a3⟩ := Kn.say_ti (k := k) (i := i) (j := j) (a := 0) hi
   rw [a1, a2]; exact hk.on j y hj
  ·rw [Kn.K.say, Kn.len_setT]; exact hk.val y hy z hz
  ·obtain ⟨a1, a2, a3⟩ := Kn.say_ti (k := k) (i := i) (j := j) (a := 0) hi
   unfold Should
   rw [a1, a2, a3]
   exact hk.mem y hy j hj
 have hi0 : i < (k.say i 0).tasks.length := by rw [Kn.K.say, Kn.len_setT]; exact hi
 have h1 := h0.leave hk0 hi0
 rw [Kn.t_nat, t_nat, t.prio]
 exact h1.row (by unfold Kn.K.leave; rw [Kn.lst_setL]; exact hk0.lens) p1 rfl
theorem Rel.put (h : Rel τ k r) (a : Int) : Rel τ (k.put a) (r.put a) :=
 ⟨h.len, h.task, h.lens, h.rows, h.ques, h.sems, h.owner, h.size, by show r.out ++ _ = k.out ++ _; rw [h.out], h.ticks, h.ops, h.since, h.ord⟩
theorem Rel.semsMod (h : Rel τ k r) (a : Nat) (f : Int → Int) : Rel τ { k with sems := k.sems.modify a f } { r with sems := r.sems.modify a f } :=
 ⟨h.len, h.task, h.lens, h.rows, h.ques, by show r.sems.modify a f = k.sems.modify a f; rw [h.sems], h.owner, h.size, h.out, h.ticks, h.ops, h.since, h.ord⟩
theorem Rel.own (h : Rel τ k r) (a : Nat) (b : Int) : Rel τ { k with owner := k.owner.set a b } { r with owner := r.owner.set a b } :=
 ⟨h.len, h.task, h.lens, h.rows, h.ques, h.sems, by show r.owner.set a b = k.owner.set a b; rw [h.owner], h.size, h.out, h.ticks, h.ops, h.since, h.ord⟩
theorem Rel.delay {o : Kn.Op} (h : Rel τ k r) (hk : Ok k) (hi : i < k.tasks.length) (hs : (k.ti i).state = 0) (hτ : τ i = r.ticks) (hb : 0 ≤ o.a) : Rel τ (k.delay i o) (r.delay i o) := by
 unfold Kn.K.delay K.delay
 by_cases e : o.a = 0
 ·rw [if_pos e, if_pos e]; exact h.back hk.inv hi
 ·rw [if_neg e, if_neg e]
  exact h.waitFor hk.inv hi hs (show On none 0 0 from rfl) (fun x hx => by cases hx) (by decide) (by omega) hτ 0 rfl
theorem Rel.take {o : Kn.Op} (h : Rel τ k r) (hk : Ok k) (hi : i < k.tasks.length) (hs : (k.ti i).state = 0) (hτ : τ i = r.ticks) (ha : 0 ≤ o.a) : Rel τ (k.take i o) (r.take i o) := by
 have hfew := hk.inv.few
 unfold Kn.K.take K.take
 rw [h.sems]
 by_cases e1 : k.sems.length ≤ o.a.toNat
 ·rw [if_pos e1, if_pos e1]; exact h.say hi
 rw [if_neg e1, if_neg e1]
 by_cases e2 : 0 < k.sems.getD o.a.toNat 0
 ·rw [if_pos e2, if_pos e2]
  have := h.semsMod o.a.toNat (· - 1)
  rw [h.sems] at this
  exact this.say hi
 rw [if_neg e2, if_neg e2]
 by_cases e3 : o.b = 0
 ·rw [if_pos e3, if_pos e3]; exact h.say hi
 rw [if_neg e3, if_neg e3]
 have ho : On (some (32 + o.a.toNat)) 1 o.a := on1 ha (by omega)
 have hx : ∀ x, some (32 + o.a.toNat) = some x → k.OnOk x := fun x hx => by
  injection hx with hx
  exact .inl ⟨_, hx.symm, by omega⟩
 by_cases e4 : 0 < o.b
 ·rw [if_pos e4, if_pos (by omega)]
  exact h.waitFor hk.inv hi hs ho hx (by decide) e4 hτ 1 rfl
 ·rw [if_neg e4, if_neg (by omega)]
  exact h.wait hk.inv hi hs ho hx rfl (fun e => absurd e (by decide))
theorem Rel.give {o : Kn.Op} (h : Rel τ k r) (hk : Ok k) (hi : i < k.tasks.length) (ha : 0 ≤ o.a) : Rel τ (k.give i o) (r.give i o) := by
 have hfew := hk.inv.few
 unfold Kn.K.give K.give
 rw [h.sems]
 by_cases e1 : k.sems.length ≤ o.a.toNat
 ·rw [if_pos e1, if_pos e1]; exact h.say hi
 rw [if_neg e1, if_neg e1]
 obtain ⟨k1, m1⟩ := hk.say (i := i) (a := 0) hi
 have h1 := h.say (a := 0) hi
 have ho : On (some (32 + o.a.toNat)) 1 o.a := on1 ha (by omega)
 have hT : TL (32 + o.a.toNat) := by unfold TL; omega
 rw [h1.best k1.inv hT (by omega) ho]
 show Rel τ (Kn.K.give1 _ _ _ (Kn.K.best _ ((k.say i 0).l (32 + o.a.toNat)))) _
 unfold Kn.K.give1 K.give1
 rcases k1.inv.best hT (by omega) with e | ⟨j, e, hj, hsj, _⟩
 ·rw [e, if_neg (show ¬ ((0 : Int) ≤ -1) by omega), if_neg (show ¬ ((0 : Int) ≤ -1) by omega)]
  have es : (r.say i 0).sems = (k.say i 0).sems := h1.sems
  by_cases e2 : 100 ≤ (k.say i 0).sems.getD o.a.toNat 0
  ·rw [if_pos e2, if_pos (by rw [es]; exact e2)]
   exact h1.say (by rw [m1.tasks]; exact hi)
  ·rw [if_neg e2, if_neg (by rw [es]; exact e2)]
   exact h1.semsMod _ _
 ·rw [e, if_pos (show (0 : Int) ≤ (j : Int) by omega), if_pos (show (0 : Int) ≤ (j : Int) by omega)]
  exact h1.wake k1.inv hj
theorem Rel.free {a : Nat} (h : Rel τ k r) (hk : Ok k) (ha : a < 8) : Rel τ (k.release a) (r.free a) := by
 unfold Kn.K.release K.free
 simp only []
 have ho : On (some (40 + a)) 2 a := .inr (.inl ⟨by omega, by omega, rfl, by omega⟩)
 have hT : TL (40 + a) := by unfold TL; omega
 rw [h.best hk.inv hT (by omega) ho]
 rcases hk.inv.best hT (by omega) with e | ⟨j, e, hj, hsj, _⟩
 ·rw [e, if_neg (show ¬ ((0 : Int) ≤ -1) by omega), if_neg (show ¬ ((0 : Int) ≤ -1) by omega)]
  exact h.own _ _
 ·rw [e, if_pos (show (0 : Int) ≤ (j : Int) by omega), if_pos (show (0 : Int) ≤ (j : Int) by omega)]
  obtain ⟨k1, m1⟩ := hk.own (i := a) (b := (j : Int)) (by omega)
  exact (h.own a j).wake k1.inv hj
theorem Rel.gives (n : Int) : ∀ (f i : Nat) (k : Kn.K) (r : K), Rel τ k r → Ok k → i + f ≤ 8 → Rel τ (Kn.K.gives n f i k) (K.gives n f i r)
 | 0, _, _, _, h, _, _ => h
 | f + 1, i, k, r, h, hk, hf => by
   unfold Kn.K.gives K.gives
   rw [h.owner]
   by_cases e : k.owner.getD i (-1) = n
   ·rw [if_pos e, if_pos e]
    exact Rel.gives n f (i + 1) _ _ (h.free hk (by omega)) (hk.release (by omega)).1 (by omega)
   ·rw [if_neg e, if_neg e]
    exact Rel.gives n f (i + 1) _ _ h hk (by omega)
theorem Rel.fin (h : Rel τ k r) (hk : Ok k) (hi : i < k.tasks.length) (hs : (k.ti i).state = 0) : Rel τ (k.fin i) (r.fin i) := by
 unfold Kn.K.fin K.fin
 simp only []
 obtain ⟨k1, m1⟩ := hk.out hi hs
 have h1 := h.leave hk.inv hi
 have t := h.task i hi
 have h2 := h1.setT (i := i) (f := fun t => { t with state := 2 }) (g := fun t => { t with state := 2 }) hi
  ⟨t.base, t.prio, t.ops, t.place, t.last, rfl, t.loops, fun e => absurd (show (2 : Int) = 1 from e) (by decide), fun e => absurd (show (2 : Int) = 1 from e) (by decide), fun _ => t.wake (.inl (by omega)), fun e => absurd (show (2 : Int) = 1 from e) (by decide)⟩ rfl
 rw [h2.owner]
 exact Rel.gives _ _ _ _ _ h2 k1 (by have := k1.inv.few; omega)
theorem Rel.lock {o : Kn.Op} (h : Rel τ k r) (hk : Ok k) (hi : i < k.tasks.length) (hs : (k.ti i).state = 0) (ha : 0 ≤ o.a) : Rel τ (k.lock i o) (r.lock i o) := by
 have hfew := hk.inv.few
 unfold Kn.K.lock K.lock
 rw [h.owner]
 by_cases e1 : k.owner.length ≤ o.a.toNat
 ·rw [if_pos e1, if_pos e1]; exact h.say hi
 rw [if_neg e1, if_neg e1]
 by_cases e2 : k.owner.getD o.a.toNat 0 = -1
 ·rw [if_pos e2, if_pos e2]
  have := h.own o.a.toNat i
  rw [h.owner] at this
  exact this.say hi
 rw [if_neg e2, if_neg e2]
 by_cases e3 : k.owner.getD o.a.toNat 0 = i
 ·rw [if_pos e3, if_pos e3]; exact h.say hi
 rw [if_neg e3, if_neg e3]
 exact h.wait hk.inv hi hs (on2 ha (by omega)) (fun x hx => by
  injection hx with hx
  exact .inr (.inl ⟨_, hx.symm, by omega⟩)) rfl (fun e => absurd e (by decide))
theorem Rel.unlock {o : Kn.Op} (h : Rel τ k r) (hk : Ok k) (hi : i < k.tasks.length) : Rel τ (k.unlock i o) (r.unlock i o) := by
 have hfew := hk.inv.few
 unfold Kn.K.unlock K.unlock
 rw [h.owner]
 by_cases e1 : k.owner.length ≤ o.a.toNat
 ·rw [if_pos e1, if_pos e1]; exact h.say hi
 rw [if_neg e1, if_neg e1]
 by_cases e2 : k.owner.getD o.a.toNat 0 ≠ i
 ·rw [if_pos e2, if_pos e2]; exact h.say hi
 ·rw [if_neg e2, if_neg e2]
  exact (h.say hi).free (hk.say hi).1 (by omega)
theorem Rel.send {o : Kn.Op} (h : Rel τ k r) (hk : Ok k) (hi : i < k.tasks.length) (hs : (k.ti i).state = 0) (ha : 0 ≤ o.a) : Rel τ (k.send i o) (r.send i o) := by
 have hfew := hk.inv.few
 unfold Kn.K.send K.send
 rw [h.size]
 by_cases e1 : k.size.length ≤ o.a.toNat
 ·rw [if_pos e1, if_pos e1]; exact h.say hi
 rw [if_neg e1, if_neg e1]
 have ho : On (some (64 + o.a.toNat)) 4 o.a := on4 ha (by omega)
 have hT : TL (64 + o.a.toNat) := by unfold TL; omega
 rw [h.best hk.inv hT (by omega) ho]
 unfold Kn.K.send1 K.send1
 rw [h.ques _ (by omega), h.size]
 rcases hk.inv.best hT (by omega) with e | ⟨j, e, hj, hsj, _⟩
 ·rw [e, if_neg (show ¬ ((0 : Int) ≤ -1) by omega), if_neg (show ¬ ((0 : Int) ≤ -1) by omega)]
  by_cases e2 : ((k.l (48 + o.a.toNat)).length : Int) < k.size.getD o.a.toNat 0
  ·rw [if_pos e2, if_pos e2]
   exact (h.que hk.inv.lens (by omega)).say hi
  ·rw [if_neg e2, if_neg e2]
   obtain ⟨k1, m1⟩ := hk.value (i := i) (v := o.b) hi
   have t := h.task i hi
   have h1 := h.setK (i := i) (f := fun t => { t with value := o.b }) hi ⟨t.base, t.prio, t.ops, t.place, t.last, t.state, t.loops, t.on, t.time, t.wake, fun e => absurd (show (k.ti i).state = 1 from e) (by omega)⟩
   have e3 : (k.setT i fun t => { t with value := o.b }).ti i = { k.ti i with value := o.b } := by rw [Kn.ti_setT hi, if_pos rfl]
   exact h1.wait k1.inv (by rw [m1.tasks]; exact hi) (by rw [e3]; exact hs) (on3 ha (by omega)) (fun x hx => by
    injection hx with hx
    exact .inr (.inr (.inl ⟨_, hx.symm, by show o.a.toNat < k.size.length; omega⟩))) rfl (fun _ => by rw [e3])
 ·rw [e, if_pos (show (0 : Int) ≤ (j : Int) by omega), if_pos (show (0 : Int) ≤ (j : Int) by omega)]
  obtain ⟨k1, m1⟩ := hk.wake (i := j) (a := o.b) hj hsj
  exact (h.wake hk.inv hj).say (by rw [m1.tasks]; exact hi)
theorem Rel.recv {o : Kn.Op} (h : Rel τ k r) (hk : Ok k) (hi : i < k.tasks.length) (hs : (k.ti i).state = 0) (ha : 0 ≤ o.a) : Rel τ (k.recv i o) (r.recv i o) := by
 have hfew := hk.inv.few
 unfold Kn.K.recv K.recv
 rw [h.size]
 by_cases e1 : k.size.length ≤ o.a.toNat
 ·rw [if_pos e1, if_pos e1]; exact h.say hi
 rw [if_neg e1, if_neg e1, h.ques _ (by omega)]
 cases hl : k.l (48 + o.a.toNat) with
 | nil =>
   exact h.wait hk.inv hi hs (on4 ha (by omega)) (fun x hx => by
    injection hx with hx
    exact .inr (.inr (.inr ⟨_, hx.symm, by omega⟩))) rfl (fun e => absurd e (by decide))
 | cons x q =>
   have hq := hk.good.que (48 + o.a.toNat) (by omega) (by omega)
   rw [hl, List.length_cons] at hq
   obtain ⟨k0, m0⟩ := hk.say (i := i) (a := x) hi
   obtain ⟨k1, m1⟩ := k0.queSet (a := o.a.toNat) (f := fun _ => q) (by omega) (by show q.length ≤ 16; omega)
   have h1 := (h.say (a := x) hi).que (a := o.a.toNat) (f := fun _ => q) k0.inv.lens (by omega)
   have hl1 : ((k.say i x).setL (48 + o.a.toNat) fun _ => q).l (48 + o.a.toNat) = q := by rw [Kn.l_setL' k0.inv.lens (by omega), if_pos rfl]
   have hl2 : ((k.say i x).setL (48 + o.a.toNat) fun _ => q).l (56 + o.a.toNat) = k.l (56 + o.a.toNat) := by rw [Kn.l_setL' k0.inv.lens (by omega), if_neg (by omega)]; rfl
   have ho : On (some (56 + o.a.toNat)) 3 o.a := on3 ha (by omega)
   have hT : TL (56 + o.a.toNat) := by unfold TL; omega
   show Rel τ (Kn.K.recv1 _ _ _ _ _) (K.recv1 _ _ _ _ _)
   unfold Kn.K.recv1 K.recv1 Kn.K.recv2 K.recv2
   rw [← hl2, h1.best k1.inv hT (by omega) ho]
   rcases k1.inv.best hT (by omega) with e | ⟨j, e, hj, hsj, hoj⟩
   ·rw [e, if_neg (show ¬ ((0 : Int) ≤ -1) by omega), if_neg (show ¬ ((0 : Int) ≤ -1) by omega)]
    exact h1
   ·rw [e, if_pos (show (0 : Int) ≤ (j : Int) by omega), if_pos (show (0 : Int) ≤ (j : Int) by omega)]
    have tj := h1.task j hj
    have hon := tj.on hsj
    rw [hoj] at hon
    have ev := tj.value hsj (by unfold On at hon ho; simp only at hon ho; omega)
    rw [t_nat, Kn.t_nat, ev]
    obtain ⟨k2, m2⟩ := k1.queSet (a := o.a.toNat) (f := (· ++ [(((k.say i x).setL (48 + o.a.toNat) fun _ => q).ti j).value])) (by omega) (by
     show (_ ++ [_]).length ≤ 16
     rw [hl1]
     simp
     omega)
    exact (h1.que k1.inv.lens (by omega)).wake k2.inv hj
theorem Rel.loop {o : Kn.Op} (h : Rel τ k r) (hi : i < k.tasks.length) : Rel τ (k.loop i o) (r.loop i o) := by
 have t := h.task i hi
 unfold Kn.K.loop K.loop
 rw [Kn.t_nat, t_nat, t.loops, t.place]
 by_cases e : (k.ti i).loops.getD ((k.ti i).place - 1) 0 < o.b
 ·rw [if_pos e, if_pos e]
  exact h.setT (f := fun t => { t with loops := t.loops.modify ((k.ti i).place - 1) (· + 1), place := o.a.toNat }) (g := fun t => { t with loops := t.loops.modify ((k.ti i).place - 1) (· + 1), place := o.a.toNat }) hi
   ⟨t.base, t.prio, t.ops, rfl, t.last, t.state, by show (r.ti i).loops.modify _ _ = (k.ti i).loops.modify _ _; rw [t.loops], t.on, t.time, t.wake, t.value⟩ rfl
 ·rw [if_neg e, if_neg e]
  exact h.setT (f := fun t => { t with loops := t.loops.set ((k.ti i).place - 1) 0 }) (g := fun t => { t with loops := t.loops.set ((k.ti i).place - 1) 0 }) hi
   ⟨t.base, t.prio, t.ops, t.place, t.last, t.state, by show (r.ti i).loops.set _ _ = (k.ti i).loops.set _ _; rw [t.loops], t.on, t.time, t.wake, t.value⟩ rfl
theorem Rel.setBase {o : Kn.Op} (h : Rel τ k r) (hi : i < k.tasks.length) : Rel τ (k.setBase i o) (r.setBase i o) := by
 have t := h.task i hi
 have h1 := h.setT (f := fun t => { t with base := o.a }) (g := fun t => { t with base := o.a }) hi
  ⟨rfl, t.prio, t.ops, t.place, t.last, t.state, t.loops, t.on, t.time, t.wake, t.value⟩ rfl
 exact h1.say (by rw [Kn.len_setT]; exact hi)
theorem Rel.act {o : Kn.Op} (h : Rel τ k r) (hk : Ok k) (hi : i < k.tasks.length) (hs : (k.ti i).state = 0) (hτ : τ i = r.ticks) (ho : k.out.length < k.ops) (hf : o.fits (((k.ti i).place - 1 : Nat) : Int) = true) : Rel τ (k.act i o) (r.act i o) := by
 have hc := Kn.fits_cases hf
 unfold Kn.K.act K.act
 by_cases k0 : o.kind = 0
 ·rw [if_pos k0, if_pos k0]; exact h.put _
 rw [if_neg k0, if_neg k0]
 by_cases k1 : o.kind = 1
 ·rw [if_pos k1, if_pos k1]; exact h.back hk.inv hi
 rw [if_neg k1, if_neg k1]
 by_cases k2 : o.kind = 2
 ·rw [if_pos k2, if_pos k2]; exact h.delay hk hi hs hτ (by omega)
 rw [if_neg k2, if_neg k2]
 by_cases k3 : o.kind = 3
 ·rw [if_pos k3, if_pos k3]; exact h.take hk hi hs hτ (by omega)
 rw [if_neg k3, if_neg k3]
 by_cases k4 : o.kind = 4
 ·rw [if_pos k4, if_pos k4]; exact h.give hk hi (by omega)
 rw [if_neg k4, if_neg k4]
 by_cases k5 : o.kind = 5
 ·rw [if_pos k5, if_pos k5]; exact h.lock hk hi hs (by omega)
 rw [if_neg k5, if_neg k5]
 by_cases k6 : o.kind = 6
 ·rw [if_pos k6, if_pos k6]; exact h.unlock hk hi
 rw [if_neg k6, if_neg k6]
 by_cases k7 : o.kind = 7
 ·rw [if_pos k7, if_pos k7]; exact h.send hk hi hs (by omega)
 rw [if_neg k7, if_neg k7]
 by_cases k8 : o.kind = 8
 ·rw [if_pos k8, if_pos k8]; exact h.recv hk hi hs (by omega)
 rw [if_neg k8, if_neg k8]
 by_cases k9 : o.kind = 9
 ·rw [if_pos k9, if_pos k9]
  unfold Kn.K.show_ K.show_
  rw [Kn.t_nat, t_nat, (h.task i hi).last]
  exact h.put _
 rw [if_neg k9, if_neg k9]
 by_cases k10 : o.kind = 10
 ·rw [if_pos k10, if_pos k10]; exact h.loop hi
 rw [if_neg k10, if_neg k10]
 by_cases k11 : o.kind = 11
 ·rw [if_pos k11, if_pos k11]; exact h.say hi
 rw [if_neg k11, if_neg k11]
 by_cases k12 : o.kind = 12
 ·rw [if_pos k12, if_pos k12]; exact (h.put 33).fin (hk.put ho 33).1 hi hs
 rw [if_neg k12, if_neg k12]
 by_cases k13 : o.kind = 13
 ·rw [if_pos k13, if_pos k13]; exact h.setBase hi
 rw [if_neg k13, if_neg k13]
 exact h.say hi
end
end Rk
end Go.Proofs.Ytncbgnpoffolcaa
namespace Go.Proofs.Ytncbgnpoffolcaa
namespace Rk
open Kn (TL Should Ok Inv Mono)
section
variable {k : Kn.K} {r : K} {τ : Nat → Nat} {i : Nat}
theorem Rel.do_ (h : Rel τ k r) (hk : Ok k) (hi : i < k.tasks.length) (hs : (k.ti i).state = 0) (hτ : τ i = r.ticks) (ho : k.out.length < k.ops) (hp : (k.ti i).place < (k.ti i).ops.length) : Rel τ (k.do_ i) (r.do_ i) := by
 have t := h.task i hi
 have g := hk.good.task i hi
 obtain ⟨k1, m1⟩ := hk.task (k' := k.setT i fun t => { t with place := t.place + 1 }) (f := fun t => { t with place := t.place + 1 }) hi rfl rfl rfl rfl rfl rfl rfl ⟨rfl, rfl, rfl⟩ ⟨g.base, g.left, g.few, g.fits, g.loops, g.loop, by show (k.ti i).place + 1 ≤ (k.ti i).ops.length; omega⟩
 have h1 := h.setT (f := fun t => { t with place := t.place + 1 }) (g := fun t => { t with place := t.place + 1 }) hi
  ⟨t.base, t.prio, t.ops, by show (r.ti i).place + 1 = (k.ti i).place + 1; rw [t.place], t.last, t.state, t.loops, t.on, t.time, t.wake, t.value⟩ rfl
 have e : (k.setT i fun t => { t with place := t.place + 1 }).ti i = { k.ti i with place := (k.ti i).place + 1 } := by rw [Kn.ti_setT hi, if_pos rfl]
 rw [Kn.do_eq, Kn.t_nat]
 show Rel τ _ ((r.setT i fun t => { t with place := t.place + 1 }).act i ((r.t (i : Int)).ops.getD (r.t (i : Int)).place ⟨0, 0, 0⟩))
 rw [t_nat, t.ops, t.place]
 exact h1.act k1 (by rw [m1.tasks]; exact hi) (by rw [e]; exact hs) hτ ho (by
  rw [e]
  show ((k.ti i).ops.getD (k.ti i).place ⟨0, 0, 0⟩).fits ((((k.ti i).place + 1) - 1 : Nat) : Int) = true
  rw [Nat.add_sub_cancel, zd, List.getElem?_eq_getElem hp]
  exact g.fits _ hp)
/-- What a task's waking makes of its time does not hang on the time. -/
theorem wake_left {a : Int} (hi : i < k.tasks.length) : (k.setT i fun t => { t with left := t.left - 1 }).wake i a = k.wake i a := by
 unfold Kn.K.wake
 simp only [Kn.t_nat]
 have e : (k.setT i fun t => { t with left := t.left - 1 }).ti i = { k.ti i with left := (k.ti i).left - 1 } := by rw [Kn.ti_setT hi, if_pos rfl]
 rw [e]
 simp only []
 cases ho : (k.ti i).on with
 | none =>
   simp only []
   rw [setT_setT, Kn.ti_setT hi, Kn.ti_setT hi, if_pos rfl, if_pos rfl]
   rfl
 | some x =>
   simp only []
   have e2 : ((k.setT i fun t => { t with left := t.left - 1 }).setL x (·.erase (i : Int))) = (k.setL x (·.erase (i : Int))).setT i fun t => { t with left := t.left - 1 } := rfl
   have hi2 : i < (k.setL x (·.erase (i : Int))).tasks.length := hi
   rw [e2, setT_setT, Kn.ti_setT hi2, Kn.ti_setT hi2, if_pos rfl, if_pos rfl]
   rfl
theorem woken_ti {a : Int} (hi : i < k.tasks.length) : ((k.wake i a).ti i).state = 0 := by
 unfold Kn.K.wake
 cases ho : (k.t (i : Int)).on with
 | none =>
   show ((k.setT i _).ti i).state = 0
   rw [Kn.ti_setT hi, if_pos rfl]
 | some x =>
   have hi2 : i < (k.setL x (·.erase (i : Int))).tasks.length := hi
   show (((k.setL x (·.erase (i : Int))).setT i _).ti i).state = 0
   rw [Kn.ti_setT hi2, if_pos rfl]
theorem wakeAt_ticks : ∀ (f i : Nat) (r : K), (K.wakeAt f i r).ticks = r.ticks
 | 0, _, _ => rfl
 | f + 1, i, r => by
   unfold K.wakeAt
   rw [wakeAt_ticks]
   split <;> rfl
/-- A tick's round over the tasks. -/
theorem Rel.wakeAt {T : Nat} : ∀ (f i : Nat) (k : Kn.K) (r : K), Rel (fun j => if j < i then T + 1 else T) k r → Ok k → r.ticks = T + 1 → i + f = k.tasks.length → Rel (fun _ => T + 1) (Kn.K.tickAt f i k) (K.wakeAt f i r)
 | 0, i, k, r, h, _, _, e => by
   refine ⟨h.len, fun j hj => ?_, h.lens, h.rows, h.ques, h.sems, h.owner, h.size, h.out, h.ticks, h.ops, h.since, h.ord⟩
   have hj' : j < k.tasks.length := hj
   have := h.task j hj'
   rw [if_pos (by omega)] at this
   exact this
 | f + 1, i, k, r, h, hk, hT, e => by
   have hi : i < k.tasks.length := by omega
   have t := h.task i hi
   have g := hk.good.task i hi
   rw [if_neg (by omega)] at t
   obtain ⟨q1, q2⟩ := Kn.Ok.tickAt 1 i k hk (by omega)
   have up : ∀ {k' : Kn.K} {r' : K}, Rel (fun j => if j < i then T + 1 else T) k' r' → TR (T + 1) (k'.ti i) (r'.ti i) → Rel (fun j => if j < i + 1 then T + 1 else T) k' r' := fun {k' r'} h' t' =>
    ⟨h'.len, fun j hj => by
     by_cases ej : j = i
     ·rw [if_pos (by omega), ej]; exact t'
     ·have := h'.task j hj
      by_cases ej2 : j < i
      ·rw [if_pos ej2] at this; rw [if_pos (by omega)]; exact this
      ·rw [if_neg ej2] at this; rw [if_neg (by omega)]; exact this, h'.lens, h'.rows, h'.ques, h'.sems, h'.owner, h'.size, h'.out, h'.ticks, h'.ops, h'.since, h'.ord⟩
   have step : Rel (fun j => if j < i + 1 then T + 1 else T) (Kn.K.tickAt 1 i k) (K.wakeAt 1 i r) := by
    unfold Kn.K.tickAt K.wakeAt Kn.K.tickAt K.wakeAt
    simp only []
    by_cases c : (k.ti i).state ≠ 1 ∨ (k.ti i).left = 0
    ·rw [if_pos (show (k.t (i : Int)).state ≠ 1 ∨ (k.t (i : Int)).left = 0 from c), if_neg (show ¬ ((r.ti i).state = 1 ∧ (r.ti i).wake = (r.ticks : Int)) from by
      rintro ⟨h1, h2⟩
      rw [t.wake c] at h2
      omega)]
     exact up h (t.now c)
    ·have hs : (k.ti i).state = 1 := Decidable.byContradiction fun q => c (.inl q)
     have hl0 : 0 < (k.ti i).left := by have := g.left; have : (k.ti i).left ≠ 0 := fun q => c (.inr q); omega
     obtain ⟨w1, w2⟩ := t.time hs hl0
     rw [if_neg (show ¬ ((k.t (i : Int)).state ≠ 1 ∨ (k.t (i : Int)).left = 0) from c)]
     have t1 : ∀ τ', (0 < (k.ti i).left - 1 → τ' = T + 1) → TR τ' { k.ti i with left := (k.ti i).left - 1 } (r.ti i) ∨ (k.ti i).left - 1 = 0 := fun τ' hτ => by
      by_cases hl1 : 0 < (k.ti i).left - 1
      ·exact .inl ⟨t.base, t.prio, t.ops, t.place, t.last, t.state, t.loops, t.on, fun _ _ => ⟨by show (r.ti i).wake = (τ' : Int) + ((k.ti i).left - 1); rw [w1, hτ hl1]; omega, w2⟩, fun q => by
        rcases q with q | q
        ·exact absurd hs q
        ·exact absurd (show (k.ti i).left - 1 = 0 from q) (by omega), t.value⟩
      ·exact .inr (by omega)
     obtain ⟨k1, m1⟩ := hk.task (k' := k.setT i fun t => { t with left := t.left - 1 }) (f := fun t => { t with left := t.left - 1 }) hi rfl rfl rfl rfl rfl rfl rfl ⟨rfl, rfl, rfl⟩ ⟨g.base, by show (0 : Int) ≤ (k.ti i).left - 1 ∧ (k.ti i).left - 1 ≤ 1000; have := g.left; omega, g.few, g.fits, g.loops, g.loop, g.place⟩
     have e1 : (k.setT i fun t => { t with left := t.left - 1 }).ti i = { k.ti i with left := (k.ti i).left - 1 } := by rw [Kn.ti_setT hi, if_pos rfl]
     by_cases hl1 : 0 < (k.ti i).left - 1
     ·rw [if_pos (show 0 < (k.t (i : Int)).left - 1 from hl1), if_neg (show ¬ ((r.ti i).state = 1 ∧ (r.ti i).wake = (r.ticks : Int)) from by
       rintro ⟨h1, h2⟩
       rw [w1, hT] at h2
       omega)]
      rcases t1 (T + 1) (fun _ => rfl) with t2 | t2
      ·refine ⟨by rw [Kn.len_setT]; exact h.len, fun j hj => ?_, h.lens, h.rows, h.ques, h.sems, h.owner, h.size, h.out, h.ticks, h.ops, fun j hj => h.since j (by rwa [Kn.len_setT] at hj), h.ord⟩
       rw [Kn.len_setT] at hj
       by_cases ej : j = i
       ·rw [if_pos (by omega), ej, e1]; exact t2
       ·rw [Kn.ti_setT hi, if_neg ej]
        have := h.task j hj
        by_cases ej2 : j < i
        ·rw [if_pos ej2] at this; rw [if_pos (by omega)]; exact this
        ·rw [if_neg ej2] at this; rw [if_neg (by omega)]; exact this
      ·omega
     ·have hl1' : (k.ti i).left = 1 := by omega
      rw [if_neg (show ¬ 0 < (k.t (i : Int)).left - 1 from hl1), if_pos (show (r.ti i).state = 1 ∧ (r.ti i).wake = (r.ticks : Int) from ⟨t.state.trans hs, by rw [w1, hT]; omega⟩)]
      -- the rest of the relation does not look at the time of this task: as if its wake were none
      have hq : Rel (fun j => if j < i then T + 1 else T) k r := h
      have hw := hq.wake (a := (r.ti i).answer) hk.inv hi
      have ek : ((k.setT i fun t => { t with left := t.left - 1 }).wake (i : Int) (if (k.t (i : Int)).on = none then 0 else 1)) = k.wake i (r.ti i).answer := by
       rw [w2]
       exact wake_left hi
      rw [ek]
      refine up hw ?_
      have ew : ((k.wake i (r.ti i).answer).ti i).state = 0 := woken_ti hi
      have := hw.task i (by rw [show (k.wake (i : Int) (r.ti i).answer).tasks.length = k.tasks.length from (hk.wake hi hs).2.tasks]; exact hi)
      rw [if_neg (by omega)] at this
      exact this.now (.inl (by omega))
   have ek : Kn.K.tickAt (f + 1) i k = Kn.K.tickAt f (i + 1) (Kn.K.tickAt 1 i k) := rfl
   have er : K.wakeAt (f + 1) i r = K.wakeAt f (i + 1) (K.wakeAt 1 i r) := rfl
   rw [ek, er]
   exact Rel.wakeAt f (i + 1) _ _ step q1 (by rw [wakeAt_ticks]; exact hT) (by rw [q2.tasks]; omega)
theorem Rel.tick (h : Rel (fun _ => k.ticks) k r) (hk : Ok k) : Rel (fun _ => k.ticks + 1) k.tick r.tick := by
 unfold Kn.K.tick K.tick
 obtain ⟨h0, m0⟩ := hk.nums (k' := { k with ticks := k.ticks + 1 }) rfl (fun _ _ => rfl) hk.inv.lens rfl rfl rfl hk.good.sems hk.good.owner hk.good.que hk.good.out
 obtain ⟨h1, m1⟩ := Ok.tickAt k.tasks.length 0 _ h0 (by show 0 + k.tasks.length ≤ k.tasks.length; omega)
 have hr : Rel (fun j => if j < 0 then k.ticks + 1 else k.ticks) { k with ticks := k.ticks + 1 } { r with ticks := r.ticks + 1, sinceOps := 0 } :=
  ⟨h.len, fun j hj => by rw [if_neg (by omega)]; exact h.task j hj, h.lens, h.rows, h.ques, h.sems, h.owner, h.size, h.out, by show r.ticks + 1 = k.ticks + 1; rw [h.ticks], h.ops, h.since, h.ord⟩
 have hw := Rel.wakeAt (T := k.ticks) k.tasks.length 0 _ _ hr h0 (by show r.ticks + 1 = _; rw [h.ticks]) (by show 0 + k.tasks.length = k.tasks.length; omega)
 rw [h.len]
 exact Rel.anew (r := { K.wakeAt k.tasks.length 0 { r with ticks := r.ticks + 1, sinceOps := 0 } with ran := -1 }) ⟨hw.len, hw.task, hw.lens, hw.rows, hw.ques, hw.sems, hw.owner, hw.size, hw.out, hw.ticks, hw.ops, hw.since, hw.ord⟩ h1 rfl
/-! Who ran last stays. -/
theorem free_ran (r : K) (i : Nat) : (r.free i).ran = r.ran := by
 unfold K.free
 simp only []
 split <;> rfl
theorem gives_ran (n : Int) : ∀ (f i : Nat) (r : K), (K.gives n f i r).ran = r.ran
 | 0, _, _ => rfl
 | f + 1, i, r => by
   unfold K.gives
   rw [gives_ran n f]
   split
   ·exact free_ran r i
   ·rfl
theorem fin_ran (r : K) (n : Int) : (r.fin n).ran = r.ran := gives_ran n _ _ _
theorem ite_ran {c : Prop} [Decidable c] {a b : K} {x : Int} (ha : a.ran = x) (hb : b.ran = x) : (if c then a else b).ran = x := by
 by_cases h : c
 ·rw [if_pos h]; exact ha
 ·rw [if_neg h]; exact hb
theorem act_ran (r : K) (n : Int) (o : Kn.Op) : (r.act n o).ran = r.ran := by
 have h8 : (r.recv n o).ran = r.ran := by
  refine ite_ran rfl ?_
  cases r.l (32 + o.a.toNat) with
  | nil => rfl
  | cons x q => exact ite_ran rfl rfl
 have h3 : (r.take n o).ran = r.ran := ite_ran rfl (ite_ran rfl (ite_ran rfl (ite_ran rfl rfl)))
 have h4 : (r.give n o).ran = r.ran := ite_ran rfl (ite_ran rfl (ite_ran rfl rfl))
 have h5 : (r.lock n o).ran = r.ran := ite_ran rfl (ite_ran rfl (ite_ran rfl rfl))
 have h6 : (r.unlock n o).ran = r.ran := ite_ran rfl (ite_ran rfl (free_ran _ _))
 have h7 : (r.send n o).ran = r.ran := ite_ran rfl (ite_ran rfl (ite_ran rfl rfl))
 have h10 : (r.loop n o).ran = r.ran := ite_ran rfl rfl
 have h12 : ((r.put 33).fin n).ran = r.ran := fin_ran _ _
 have h2 : (r.delay n o).ran = r.ran := ite_ran rfl rfl
 exact ite_ran rfl (ite_ran rfl (ite_ran h2 (ite_ran h3 (ite_ran h4 (ite_ran h5 (ite_ran h6 (ite_ran h7 (ite_ran h8 (ite_ran rfl (ite_ran h10 (ite_ran rfl (ite_ran h12 (ite_ran rfl rfl)))))))))))))
theorem do_ran (r : K) (n : Int) : (r.do_ n).ran = r.ran := act_ran _ _ _
/-! A run. -/
theorem Rel.now (h : Rel τ k r) {σ : Nat → Nat} (e : ∀ i, i < k.tasks.length → τ i = σ i) : Rel σ k r :=
 ⟨h.len, fun j hj => by rw [← e j hj]; exact h.task j hj, h.lens, h.rows, h.ques, h.sems, h.owner, h.size, h.out, h.ticks, h.ops, h.since, h.ord⟩
theorem Rel.running (h : Rel τ k r) (hk : Inv k) : r.running = k.running := by
 unfold K.running Kn.K.running
 have e : r.lst.take 32 = k.lst.take 32 := by
  apply List.ext_getElem
  ·rw [List.length_take, List.length_take, h.lens, hk.lens]
   rfl
  ·intro j h1 h2
   rw [List.length_take] at h2
   have hj : j < 32 := by omega
   have := h.rows j hj
   unfold K.l Kn.K.l at this
   simp only [List.getElem_take]
   have a1 : j < r.lst.length := by rw [h.lens]; omega
   have a2 : j < k.lst.length := by rw [hk.lens]; omega
   simpa [zd, a1, a2] using this
 rw [e]
theorem Rel.timed (h : Rel τ k r) (hk : Ok k) : r.timed = k.timed := by
 have key : ∀ i, i < k.tasks.length → (((r.ti i).state = 1 ∧ 0 ≤ (r.ti i).wake) ↔ ((k.ti i).state = 1 ∧ 0 < (k.ti i).left)) := fun i hi => by
  have t := h.task i hi
  have g := (hk.good.task i hi).left
  rw [t.state]
  constructor
  ·rintro ⟨h1, h2⟩
   refine ⟨h1, ?_⟩
   have : (k.ti i).left ≠ 0 := fun e => by rw [t.wake (.inr e)] at h2; omega
   omega
  ·rintro ⟨h1, h2⟩
   refine ⟨h1, ?_⟩
   rw [(t.time h1 h2).1]
   omega
 unfold K.timed Kn.K.timed
 rw [Bool.eq_iff_iff, List.any_eq_true, List.any_eq_true]
 simp only [decide_eq_true_eq]
 constructor
 ·rintro ⟨t, ht, hc⟩
  obtain ⟨j, hj, rfl⟩ := List.mem_iff_getElem.1 ht
  have hj' : j < k.tasks.length := by rw [← h.len]; exact hj
  have e1 : r.ti j = r.tasks[j] := by unfold K.ti; simp [hj]
  refine ⟨k.tasks[j], List.getElem_mem hj', ?_⟩
  rw [← Kn.ti_get hj']
  rw [← e1] at hc
  exact (key j hj').1 hc
 ·rintro ⟨t, ht, hc⟩
  obtain ⟨j, hj, rfl⟩ := List.mem_iff_getElem.1 ht
  have hj' : j < r.tasks.length := by rw [h.len]; exact hj
  have e1 : r.ti j = r.tasks[j] := by unfold K.ti; simp [hj']
  refine ⟨r.tasks[j], List.getElem_mem hj', ?_⟩
  rw [← e1]
  rw [← Kn.ti_get hj] at hc
  exact (key j hj).2 hc
theorem Rel.run (ticks ops : Nat) : ∀ (f : Nat) (k : Kn.K) (r : K), Rel (fun _ => k.ticks) k r → Ok k → ∃ τ, Rel τ (Kn.K.run ticks ops f k) (K.run ticks ops f r)
 | 0, _, _, h, _ => ⟨_, h⟩
 | f + 1, k, r, h, hk => by
   unfold Kn.K.run K.run
   simp only []
   rw [h.running hk.inv, h.timed hk]
   rcases hk.inv.running with e | ⟨i, e, hi, hs⟩
   ·rw [e]
    rw [if_pos (show (-1 : Int) < 0 by decide), if_pos (show (-1 : Int) < 0 by decide)]
    by_cases c : k.timed = false ∨ ticks ≤ k.ticks
    ·rw [if_pos c, if_pos (show k.timed = false ∨ ticks ≤ r.ticks by rw [h.ticks]; exact c)]; exact ⟨_, h⟩
    ·rw [if_neg c, if_neg (show ¬ (k.timed = false ∨ ticks ≤ r.ticks) by rw [h.ticks]; exact c)]
     exact Rel.run ticks ops f k.tick r.tick ((h.tick hk).now fun _ _ => (Kn.tick_nums k).1.symm) hk.tick.1
   ·rw [e]
    have hneg : ¬ ((i : Int) < 0) := by omega
    rw [if_neg hneg, if_neg hneg]
    by_cases c : ops ≤ k.ops
    ·rw [if_pos c, if_pos (show ops ≤ r.ops by rw [h.ops]; exact c)]; exact ⟨_, h⟩
    rw [if_neg c, if_neg (show ¬ ops ≤ r.ops by rw [h.ops]; exact c)]
    have t := h.task i hi
    rw [t_nat, Kn.t_nat, t.ops, t.place]
    by_cases c2 : (k.ti i).ops.length ≤ (k.ti i).place
    ·rw [if_pos c2, if_pos c2]
     have h0 : Rel (fun _ => k.ticks) k { r with ran := (i : Int) } := ⟨h.len, h.task, h.lens, h.rows, h.ques, h.sems, h.owner, h.size, h.out, h.ticks, h.ops, h.since, h.ord⟩
     obtain ⟨k1, m1, _⟩ := hk.fin hi hs
     have h1 := (h0.fin hk hi hs).anew k1 (last := (i : Int)) (fin_ran _ _)
     refine Rel.run ticks ops f _ _ (h1.now fun _ _ => ?_) (k1.anew _).1
     rw [(Kn.anew_nums _ _).1, (Kn.fin_nums _ _).1]
    ·rw [if_neg c2, if_neg c2]
     have h0 : Rel (fun _ => k.ticks) { k with ops := k.ops + 1 } (r.step i) := ⟨h.len, h.task, h.lens, h.rows, h.ques, h.sems, h.owner, h.size, h.out, h.ticks, by show r.ops + 1 = k.ops + 1; rw [h.ops], h.since, h.ord⟩
     have k0 : Ok { k with ops := k.ops + 1 } := (hk.nums (k' := { k with ops := k.ops + 1 }) rfl (fun _ _ => rfl) hk.inv.lens rfl rfl rfl hk.good.sems hk.good.owner hk.good.que (by show k.out.length ≤ k.ops + 1; have := hk.good.out; omega)).1
     have ho : k.out.length < k.ops + 1 := by have := hk.good.out; omega
     obtain ⟨k1, m1⟩ := k0.do_ (i := i) hi hs ho (by show (k.ti i).place < (k.ti i).ops.length; omega)
     have hd := h0.do_ k0 (i := i) hi hs h.ticks.symm ho (by show (k.ti i).place < (k.ti i).ops.length; omega)
     have h1 := hd.anew k1 (last := (i : Int)) (do_ran _ _)
     refine Rel.run ticks ops f _ _ (h1.now fun _ _ => ?_) (k1.anew _).1
     rw [(Kn.anew_nums _ _).1, (Kn.do_nums _ _).1]
end
end Rk
end Go.Proofs.Ytncbgnpoffolcaa
