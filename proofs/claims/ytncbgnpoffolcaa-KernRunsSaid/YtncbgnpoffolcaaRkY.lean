/-
  The document's kernel in memory: an empty one; one more task, one more queue, more semaphores and owners.
-/
import Derived.Test.YtncbgnpoffolcaaRkX
import Derived.Test.YtncbgnpoffolcaaM17
namespace Go.Proofs.Ytncbgnpoffolcaa
open Go.RowKit
namespace Rk
theorem flat_congr {f g : Nat → List Value} {l : List Nat} (h : ∀ i ∈ l, f i = g i) : l.flatMap f = l.flatMap g := by
 rw [List.flatMap_def, List.flatMap_def, List.map_congr_left h]
/-- A kernel without anything. -/
def k0 : K := { tasks := [], lst := List.replicate 40 [], sems := [], owner := [], size := [], out := [], ticks := 0, ops := 0, count := 0, ran := -1, most := 0, sinceOps := 0 }
def L0 (g : Nat) : Ly := ⟨g, fun _ => .slice none 0 0, fun _ => .slice none 0 0⟩
def ker0 : Array Value := #[.slice none 0 0, .slice none 0 0, .slice none 0 0, .slice none 0 0, .slice none 0 0, .slice none 0 0, .slice none 0 0, .slice none 0 0, .slice none 0 0, .slice none 0 0, .slice none 0 0, .slice none 0 0, .slice none 0 0, .slice none 0 0, .slice none 0 0, .slice none 0 0, .slice none 0 0, .slice none 0 0, .slice none 0 0, .slice none 0 0, .slice none 0 0, .slice none 0 0, .slice none 0 0, .slice none 0 0, .slice none 0 0, .slice none 0 0, .slice none 0 0, .slice none 0 0, .slice none 0 0, .slice none 0 0, .slice none 0 0, .slice none 0 0, .slice none 0 0, .slice none 0 0, .slice none 0 0, .slice none 0 0, .slice none 0 0, .int .i64 0, .int .i64 0, .int .i64 0, .int .i64 (-1), .int .i64 0, .int .i64 0]
theorem ker0_eq (g : Nat) : (kerC k0 (L0 g)).toArray = ker0 := rfl
theorem l0_nil (x : Nat) : k0.l x = [] := by
 show (List.replicate 40 ([] : List Int)).getD x [] = []
 rw [zd, List.getElem?_replicate]
 split <;> rfl
theorem RM.base {w : World} {B g : Nat} (h : Whole w g 98 ker0) (hB : B ≤ g) : RM w B k0 (L0 g) := by
 refine ⟨h, hB, fun p => ?_, fun p q b _ e => (by cases e), rfl, by decide, fun i hi => absurd hi (Nat.not_lt_zero _)⟩
 have e1 : p.len k0 = 0 := by
  cases p with
  | l x => show (k0.l x).length = 0; rw [l0_nil]; rfl
  | _ => rfl
 have e2 : p.cells k0 (L0 g) = [] := by
  cases p with
  | l x => show intV (k0.l x) = []; rw [l0_nil]; rfl
  | _ => rfl
 rw [e1, e2]
 exact World.ownsRow_nil _ _ _ _
section
variable {w w' w1 : World} {B : Nat} {r r' : K} {L : Ly}
def Ly.task (L : Ly) (n : Nat) (v u ov : Value) : Ly := ⟨L.b, fun p => if p = .ta then v else if p = .lp n then u else L.V p, fun i => if i = n then ov else L.O i⟩
theorem ti_app {t : T} (i : Nat) : ({ r with tasks := r.tasks ++ [t] } : K).ti i = if i = r.tasks.length then t else r.ti i := by
 show (r.tasks ++ [t]).getD i noT = _
 rw [zd]
 by_cases e : i = r.tasks.length
 ·subst e
  simp
 ·rw [if_neg e]
  by_cases e2 : i < r.tasks.length
  ·rw [List.getElem?_append_left e2]; rfl
  ·rw [List.getElem?_eq_none (by simp; omega)]
   show noT = r.tasks.getD i noT
   rw [zd, List.getElem?_eq_none (by omega)]; rfl
def taskV (t : T) (ov u : Value) : List Value := [.int .i64 t.base, .int .i64 t.prio, ov, .int .i64 t.place, .int .i64 t.last, .int .i64 t.state, .int .i64 t.wake, .int .i64 t.answer, .int .i64 t.on, .int .i64 t.id, .int .i64 t.value, .int .i64 t.since, u]
theorem tasksC_app {t : T} {v u ov : Value} : tasksC { r with tasks := r.tasks ++ [t] } (L.task r.tasks.length v u ov) = tasksC r L ++ taskV t ov u := by
 unfold tasksC
 rw [show ({ r with tasks := r.tasks ++ [t] } : K).tasks.length = r.tasks.length + 1 by simp, List.range_succ, List.flatMap_append]
 congr 1
 ·apply flat_congr
  intro i hi
  have hi := List.mem_range.1 hi
  rw [ti_app, if_neg (by omega)]
  unfold taskC Ly.task
  simp only []
  rw [if_neg (by omega : ¬ i = r.tasks.length), if_neg (by simp), if_neg (by simp; omega)]
 ·rw [List.flatMap_singleton, ti_app, if_pos rfl]
  unfold taskC taskV Ly.task
  simp
/-- One more task. -/
theorem RM.addTask (h : RM w B r L) {t : T} {v u ov : Value} (hlp : w1.ownsRow B 3 1 u t.loops.length (intV t.loops)) (hu : ∀ b, u.ownBlock = some b → w.heap.size ≤ b ∧ v.ownBlock ≠ some b)
 (hv : w1.ownsRow B 100 13 v (r.tasks.length + 1) (tasksC r L ++ taskV t ov u)) (hb : Br w w1 L .ta) (hg : ∀ b, v.ownBlock = some b → (L.V .ta).ownBlock = some b ∨ w.heap.size ≤ b)
 (ho : ∃ A c, ov = .slice A t.ops.length c ∧ Reads w B 3 A t.ops.length (opsC t.ops)) :
 RM (w1.setCell ⟨L.b, 0, none⟩ v) B { r with tasks := r.tasks ++ [t] } (L.task r.tasks.length v u ov) := by
 have hlow := h.low
 have hlt := h.lt
 have V0 : (L.task r.tasks.length v u ov).V .ta = v := rfl
 have V1 : (L.task r.tasks.length v u ov).V (.lp r.tasks.length) = u := by simp [Ly.task]
 have V2 : ∀ p, p ≠ .ta → p ≠ .lp r.tasks.length → (L.task r.tasks.length v u ov).V p = L.V p := fun p h1 h2 => by simp [Ly.task, h1, h2]
 have hvb : v.ownBlock ≠ some L.b := fun e => by
  rcases hg _ e with e1 | e1
  ·exact h.ne _ e1
  ·omega
 have hub : u.ownBlock ≠ some L.b := fun e => by have := (hu _ e).1; omega
 have hker : kerC { r with tasks := r.tasks ++ [t] } (L.task r.tasks.length v u ov) = (kerC r L).set 0 v := rfl
 refine ⟨?_, h.low, fun p => ?_, fun p q g hpq h1 h2 => ?_, h.lens, h.few, fun i hi => ?_⟩
 ·rw [hker]
  have := (h.ker.same (hb.block _ h.lt (h.ne .ta))).put 0 v
  rwa [List.setIfInBounds_toArray] at this
 ·by_cases e0 : p = .ta
  ·subst e0
   rw [V0]
   show World.ownsRow _ B 100 13 v (r.tasks ++ [t]).length (tasksC _ _)
   rw [tasksC_app, List.length_append]
   exact ownsRow_setCell_other hv (a := ⟨L.b, 0, none⟩) hvb v
  ·by_cases e1 : p = .lp r.tasks.length
   ·subst e1
    rw [V1]
    show World.ownsRow _ B 3 1 u (({ r with tasks := r.tasks ++ [t] } : K).ti r.tasks.length).loops.length (intV (({ r with tasks := r.tasks ++ [t] } : K).ti r.tasks.length).loops)
    rw [ti_app, if_pos rfl]
    exact ownsRow_setCell_other hlp (a := ⟨L.b, 0, none⟩) hub v
   ·rw [V2 p e0 e1]
    have el : p.len { r with tasks := r.tasks ++ [t] } = p.len r ∧ p.cells { r with tasks := r.tasks ++ [t] } (L.task r.tasks.length v u ov) = p.cells r L := by
     cases p with
     | ta => exact absurd rfl e0
     | lp i =>
       have e2 : i ≠ r.tasks.length := fun e => e1 (by rw [e])
       show (({ r with tasks := r.tasks ++ [t] } : K).ti i).loops.length = _ ∧ intV (({ r with tasks := r.tasks ++ [t] } : K).ti i).loops = _
       rw [ti_app, if_neg e2]
       exact ⟨rfl, rfl⟩
     | _ => exact ⟨rfl, rfl⟩
    rw [el.1, el.2]
    refine ownsRow_setCell_other (row_same (h.row p) fun k hk => hb.block k ((h.row p).lt k hk).2 (fun e3 => h.apart p .ta k e0 hk e3)) (a := ⟨L.b, 0, none⟩) (h.ne p) v
 ·have sep : ∀ p q g, p ≠ q → p = .ta ∨ p = .lp r.tasks.length → ((L.task r.tasks.length v u ov).V p).ownBlock = some g → ((L.task r.tasks.length v u ov).V q).ownBlock = some g → False := by
   intro p q g hpq hp h1 h2
   have e4 : q = .ta ∨ q = .lp r.tasks.length ∨ (q ≠ .ta ∧ q ≠ .lp r.tasks.length) := by
    by_cases a : q = .ta
    ·exact .inl a
    ·by_cases b : q = .lp r.tasks.length
     ·exact .inr (.inl b)
     ·exact .inr (.inr ⟨a, b⟩)
   rcases hp with rfl | rfl
   ·rw [V0] at h1
    rcases e4 with rfl | rfl | ⟨a, b⟩
    ·exact hpq rfl
    ·rw [V1] at h2
     exact (hu _ h2).2 h1
    ·rw [V2 q a b] at h2
     rcases hg _ h1 with e | e
     ·exact h.apart q .ta g a h2 e
     ·have := (h.rowLt h2).2; omega
   ·rw [V1] at h1
    rcases e4 with rfl | rfl | ⟨a, b⟩
    ·rw [V0] at h2
     exact (hu _ h1).2 h2
    ·exact hpq rfl
    ·rw [V2 q a b] at h2
     have := (h.rowLt h2).2
     have := (hu _ h1).1
     omega
  by_cases a : p = .ta ∨ p = .lp r.tasks.length
  ·exact sep p q g hpq a h1 h2
  ·by_cases b : q = .ta ∨ q = .lp r.tasks.length
   ·exact sep q p g (Ne.symm hpq) b h2 h1
   ·rw [V2 p (fun e => a (.inl e)) (fun e => a (.inr e))] at h1
    rw [V2 q (fun e => b (.inl e)) (fun e => b (.inr e))] at h2
    exact h.apart p q g hpq h1 h2
 ·have hi' : i < r.tasks.length + 1 := by simpa using hi
  have hsm : ∀ q : Addr, q.block < B → (w1.setCell ⟨L.b, 0, none⟩ v).cell? q = w.cell? q := fun q hq => zq ((zk _ _ _ _ (by show q.block ≠ L.b; omega)).trans (hb.block _ (by omega) (fun e => by have := (h.rowLt e).1; omega)))
  rw [ti_app]
  by_cases e : i = r.tasks.length
  ·obtain ⟨A, c, e1, hr⟩ := ho
   rw [if_pos e]
   exact ⟨A, c, by simp [Ly.task, e, e1], hr.keep hsm⟩
  ·obtain ⟨A, c, e1, hr⟩ := h.ops i (by omega)
   rw [if_neg e]
   exact ⟨A, c, by simp [Ly.task, e, e1], hr.keep hsm⟩
theorem quesC_app {s : Int} {v : Value} (hq : L.V (.l (32 + r.size.length)) = .slice none 0 0) : quesC { r with size := r.size ++ [s] } (L.set .qa v) = quesC r L ++ [.slice none 0 0, .int .i64 s] := by
 unfold quesC
 rw [show ({ r with size := r.size ++ [s] } : K).size.length = r.size.length + 1 by simp, List.range_succ, List.flatMap_append]
 congr 1
 ·apply flat_congr
  intro i hi
  have hi := List.mem_range.1 hi
  unfold queC
  rw [set_ne (by simp)]
  show [_, Value.int .i64 ((r.size ++ [s]).getD i 0)] = _
  rw [zd, List.getElem?_append_left hi, zd]
 ·rw [List.flatMap_singleton]
  unfold queC
  rw [set_ne (by simp), hq]
  show [_, Value.int .i64 ((r.size ++ [s]).getD r.size.length 0)] = _
  simp
/-- One more queue. -/
theorem RM.addQueue (h : RM w B r L) {s : Int} {v : Value} (hq : L.V (.l (32 + r.size.length)) = .slice none 0 0) (h8 : r.size.length < 8) (hv : w1.ownsRow B 102 2 v (r.size.length + 1) (quesC r L ++ [.slice none 0 0, .int .i64 s]))
 (hb : Br w w1 L .qa) (hg : ∀ b, v.ownBlock = some b → (L.V .qa).ownBlock = some b ∨ w.heap.size ≤ b) : RM (w1.setCell ⟨L.b, 35, none⟩ v) B { r with size := r.size ++ [s] } (L.set .qa v) := by
 have hlow := h.low
 have hlt := h.lt
 have hvb : v.ownBlock ≠ some L.b := fun e => by
  rcases hg _ e with e1 | e1
  ·exact h.ne _ e1
  ·omega
 refine ⟨?_, h.low, fun p => ?_, fun p q g hpq h1 h2 => ?_, h.lens, by show (r.size ++ [s]).length ≤ 8; rw [List.length_append, List.length_singleton]; omega, fun i hi => ?_⟩
 ·rw [kerC_set (r' := { r with size := r.size ++ [s] }) (.inr (.inr (.inr (.inr (.inl ⟨rfl, rfl⟩))))) rfl]
  have := (h.ker.same (hb.block _ h.lt (h.ne .qa))).put 35 v
  rwa [List.setIfInBounds_toArray] at this
 ·by_cases e : p = .qa
  ·subst e
   rw [set_self]
   show World.ownsRow _ B 102 2 v (r.size ++ [s]).length (quesC _ _)
   rw [quesC_app hq, List.length_append]
   exact ownsRow_setCell_other hv (a := ⟨L.b, 35, none⟩) hvb v
  ·rw [set_ne e]
   have el : p.len { r with size := r.size ++ [s] } = p.len r ∧ p.cells { r with size := r.size ++ [s] } (L.set .qa v) = p.cells r L := by
    cases p with
    | qa => exact absurd rfl e
    | ta =>
      refine ⟨rfl, ?_⟩
      show (List.range _).flatMap _ = (List.range _).flatMap _
      congr 1
    | _ => exact ⟨rfl, rfl⟩
   rw [el.1, el.2]
   refine ownsRow_setCell_other (row_same (h.row p) fun k hk => hb.block k ((h.row p).lt k hk).2 (fun e3 => h.apart p .qa k e hk e3)) (a := ⟨L.b, 35, none⟩) (h.ne p) v
 ·by_cases e1 : p = .qa
  ·have e2 : q ≠ .qa := fun e2 => hpq (e1.trans e2.symm)
   subst e1
   rw [set_self] at h1
   rw [set_ne e2] at h2
   rcases hg g h1 with h3 | h3
   ·exact h.apart q .qa g e2 h2 h3
   ·have := (h.rowLt h2).2; omega
  ·rw [set_ne e1] at h1
   by_cases e2 : q = .qa
   ·subst e2
    rw [set_self] at h2
    rcases hg g h2 with h3 | h3
    ·exact h.apart p .qa g e1 h1 h3
    ·have := (h.rowLt h1).2; omega
   ·rw [set_ne e2] at h2
    exact h.apart p q g hpq h1 h2
 ·obtain ⟨A, c, e1, hr⟩ := h.ops i hi
  exact ⟨A, c, e1, hr.keep fun q hq => zq ((zk _ _ _ _ (by show q.block ≠ L.b; omega)).trans (hb.block _ (by omega) (fun e => by have := (h.rowLt e).1; omega)))⟩
/-- The semaphores, all at once; one more owner. -/
theorem RM.addSems (h : RM w B r L) {l : List Int} {v : Value} (hv : w1.ownsRow B 3 1 v l.length (intV l)) (hb : Br w w1 L .sa) (hg : ∀ b, v.ownBlock = some b → (L.V .sa).ownBlock = some b ∨ w.heap.size ≤ b) :
 RM (w1.setCell ⟨L.b, 33, none⟩ v) B { r with sems := l } (L.set .sa v) :=
 h.anewK (r' := { r with sems := l }) (.inr (.inl ⟨rfl, rfl⟩)) rfl hv hb hg ⟨rfl, fun _ => rfl, rfl, rfl⟩ (fun p hp => by cases p <;> first | rfl | exact absurd rfl hp) (fun p hp => by cases p <;> first | rfl | exact absurd rfl hp)
theorem RM.setOwners (h : RM w B r L) {l : List Int} {v : Value} (hv : w1.ownsRow B 3 1 v l.length (intV l)) (hb : Br w w1 L .ow) (hg : ∀ b, v.ownBlock = some b → (L.V .ow).ownBlock = some b ∨ w.heap.size ≤ b) :
 RM (w1.setCell ⟨L.b, 34, none⟩ v) B { r with owner := l } (L.set .ow v) :=
 h.anewK (r' := { r with owner := l }) (.inr (.inr (.inl ⟨rfl, rfl⟩))) rfl hv hb hg ⟨rfl, fun _ => rfl, rfl, rfl⟩ (fun p hp => by cases p <;> first | rfl | exact absurd rfl hp) (fun p hp => by cases p <;> first | rfl | exact absurd rfl hp)
end
/-- A task that is made. -/
def mkT (x : Kn.Task) : T := ⟨x.prio, x.prio, x.ops, 0, 0, 0, -1, 0, 0, 0, 0, 0, x.ops.map fun _ => 0⟩
theorem rows_snoc' (x : Kn.Task) : ∀ (l : List Kn.Task) (i : Nat) (lst : List (List Int)), rowsOf (l ++ [x]) i lst = (rowsOf l i lst).modify x.prio.toNat (· ++ [((i + l.length : Nat) : Int)])
 | [], _, _ => rfl
 | y :: r, i, lst => by
   show rowsOf (r ++ [x]) (i + 1) _ = _
   rw [rows_snoc' x r (i + 1), List.length_cons, show i + 1 + r.length = i + (r.length + 1) by omega]
   rfl
theorem rows_len : ∀ (l : List Kn.Task) (i : Nat) (lst : List (List Int)) (p : Nat), ((rowsOf l i lst).getD p []).length ≤ (lst.getD p []).length + l.length
 | [], _, _, _ => by simp [rowsOf]
 | x :: r, i, lst, p => by
   have ih := rows_len r (i + 1) (lst.modify x.prio.toNat (· ++ [(i : Int)])) p
   have h : ((lst.modify x.prio.toNat (· ++ [(i : Int)])).getD p []).length ≤ (lst.getD p []).length + 1 := by
    rw [zd, zd, List.getElem?_modify]
    rcases lst[p]? with _ | l
    ·simp
    ·by_cases e : x.prio.toNat = p <;> simp [e]
   rw [List.length_cons]
   show ((rowsOf r (i + 1) (lst.modify x.prio.toNat (· ++ [(i : Int)]))).getD p []).length ≤ _
   omega
/-- The kernel when the first tasks are in it. -/
def k1 (l : List Kn.Task) : K := { k0 with tasks := l.map mkT, lst := rowsOf l 0 (List.replicate 40 []) }
theorem k1_snoc (l : List Kn.Task) (x : Kn.Task) : k1 (l ++ [x]) = ({ k1 l with tasks := (k1 l).tasks ++ [mkT x] } : K).setL x.prio.toNat (· ++ [(l.length : Int)]) := by
 unfold k1 K.setL
 simp only [List.map_append, List.map_cons, List.map_nil, rows_snoc', Nat.zero_add]
theorem k1_len (l : List Kn.Task) : (k1 l).tasks.length = l.length := by simp [k1]
theorem k1_l (l : List Kn.Task) (p : Nat) : ((k1 l).l p).length ≤ l.length := by
 have := rows_len l 0 (List.replicate 40 []) p
 have e := l0_nil p
 have e2 : (List.replicate 40 ([] : List Int)).getD p [] = [] := e
 rw [e2] at this
 exact zt this (by rw [List.length_nil]; omega)
end Rk
end Go.Proofs.Ytncbgnpoffolcaa
