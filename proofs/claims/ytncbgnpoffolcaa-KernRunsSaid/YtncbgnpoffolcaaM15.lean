/-
  A table in memory, to be read; may an operation be at a place?
  Is a table one? The walk of the given Check.
  The kernel laid: a semaphore, a mutex, a queue more.
  The kernel laid: a task more. Operations copied: the walk of Clone.
-/
import Derived.Test.YtncbgnpoffolcaaM14
import Derived.Test.YtncbgnpoffolcaaM3
import Derived.Laws.OwnMore
import Derived.Laws.Cover3
/-! A table in memory, to be read; may an operation be at a place? -/
namespace Go.Proofs.Ytncbgnpoffolcaa
open Go.RowKit
/-- A table that can be read, below block B. -/
structure TabRd (w : World) (B : Nat) (A1 A2 A3 : Option Addr) (t : Kn.Table) : Prop where
 task : ∀ i (h : i < t.tasks.length), ∃ ad A c, A1 = some ad ∧ ad.block < B ∧ w.cell? (ad.add (i * 2)) = some (.int .i64 t.tasks[i].prio) ∧ w.cell? (ad.add (i * 2 + 1)) = some (.slice A t.tasks[i].ops.length c) ∧
  Reads w B 3 A t.tasks[i].ops.length (opsC t.tasks[i].ops) ∧ t.tasks[i].ops.length ≤ maxLen
 sems : Reads w B 1 A2 t.sems.length (intV t.sems)
 queues : Reads w B 1 A3 t.queues.length (intV t.queues)
 tasksL : t.tasks.length ≤ maxLen
 semsL : t.sems.length ≤ maxLen
 queuesL : t.queues.length ≤ maxLen
section
variable {w w' : World} {B B' : Nat} {A1 A2 A3 : Option Addr} {t : Kn.Table}
theorem TabRd.keep (h : TabRd w B A1 A2 A3 t) (hk : ∀ p : Addr, p.block < B → w'.cell? p = w.cell? p) : TabRd w' B A1 A2 A3 t :=
 ⟨fun i hi => by
  obtain ⟨ad, A, c, e, hb, h1, h2, h3, h4⟩ := h.task i hi
  exact ⟨ad, A, c, e, hb, (hk _ (by rw [block_of_add]; exact hb)).trans h1, (hk _ (by rw [block_of_add]; exact hb)).trans h2, h3.keep hk, h4⟩,
  h.sems.keep hk, h.queues.keep hk, h.tasksL, h.semsL, h.queuesL⟩
theorem TabRd.more (h : TabRd w B A1 A2 A3 t) (hB : B ≤ B') : TabRd w B' A1 A2 A3 t :=
 ⟨fun i hi => by
  obtain ⟨ad, A, c, e, hb, h1, h2, h3, h4⟩ := h.task i hi
  exact ⟨ad, A, c, e, by omega, h1, h2, h3.more hB, h4⟩,
  h.sems.more hB, h.queues.more hB, h.tasksL, h.semsL, h.queuesL⟩
theorem TabRd.below (h : TabRd w B A1 A2 A3 t) (hb : Below B' w w') (hB : B ≤ B') : TabRd w' B A1 A2 A3 t := h.keep fun _ hp => hb.cell (by omega)
end
theorem Reads.op {w : World} {B : Nat} {A : Option Addr} {l : List Kn.Op} (h : Reads w B 3 A l.length (opsC l)) {k : Nat} (hk : k < l.length) :
 ∃ ad, A = some ad ∧ ad.block < B ∧ w.cell? (ad.add (k * 3)) = some (.int .i64 l[k].kind) ∧ w.cell? (ad.add (k * 3 + 1)) = some (.int .i64 l[k].a) ∧ w.cell? (ad.add (k * 3 + 2)) = some (.int .i64 l[k].b) := by
 obtain ⟨ad, e, hb, hc⟩ := h.2 (by omega)
 exact ⟨ad, e, hb, hc _ _ (opsC_at l k 0 hk (by omega)), hc _ _ (opsC_at l k 1 hk (by omega)), hc _ _ (opsC_at l k 2 hk (by omega))⟩
theorem Reads.int {w : World} {B : Nat} {A : Option Addr} {l : List Int} (h : Reads w B 1 A l.length (intV l)) {k : Nat} (hk : k < l.length) :
 ∃ ad, A = some ad ∧ ad.block < B ∧ w.cell? (ad.add k) = some (.int .i64 l[k]) := by
 obtain ⟨ad, u, e, hb, hu, hc⟩ := h.at_ hk
 refine ⟨ad, e, hb, ?_⟩
 rw [hc]
 simp [intV, hk] at hu
 rw [hu]
/-! What may be. -/
def within (n lo hi : Int) : Bool := decide (lo ≤ n ∧ n ≤ hi)
theorem within_any (n lo hi : Int) (w : World) : Calls Try.prog 37 #[.int .i64 n, .int .i64 lo, .int .i64 hi] w fun e w' => e = .returned (.bool (within n lo hi)) ∧ w = w' := by
 go_enter Try.func37, Try.ntmps37
 go_wp2
 all_goals
  go_ret
  exact ⟨ret_bool (by rw [Bool.eq_iff_iff]; simp [within]; try omega), rfl⟩
/-- The greatest a of an operation at a place. -/
def mostA (k : Nat) (hk : k < 15) (i : Int) : Int := if k = 10 then i - 1 else (shapes[k]'hk).a
theorem bounds_k (k : Nat) (hk : k < 15) (i : Int) : Kn.bounds k i = some (mostA k hk i, (shapes[k]'hk).low, (shapes[k]'hk).b) := by
 have hk' : k = 0 ∨ k = 1 ∨ k = 2 ∨ k = 3 ∨ k = 4 ∨ k = 5 ∨ k = 6 ∨ k = 7 ∨ k = 8 ∨ k = 9 ∨ k = 10 ∨ k = 11 ∨ k = 12 ∨ k = 13 ∨ k = 14 := by omega
 rcases hk' with rfl | rfl | rfl | rfl | rfl | rfl | rfl | rfl | rfl | rfl | rfl | rfl | rfl | rfl | rfl <;> rfl
theorem bounds_none (k i : Int) (hk : k < 0 ∨ 15 ≤ k) : Kn.bounds k i = none := by
 unfold Kn.bounds
 repeat rw [if_neg (by omega)]
theorem fits_k (o : Kn.Op) (k : Nat) (hk : k < 15) (h : o.kind = k) (i : Int) : o.fits i = (within o.a 0 (mostA k hk i) && within o.b (shapes[k]'hk).low (shapes[k]'hk).b) := by
 unfold Kn.Op.fits
 rw [h, bounds_k k hk]
 unfold within
 rw [Bool.eq_iff_iff]
 simp
 omega
theorem fits_none (o : Kn.Op) (i : Int) (hk : o.kind < 0 ∨ 15 ≤ o.kind) : o.fits i = false := by
 unfold Kn.Op.fits
 rw [bounds_none _ _ hk]
set_option maxRecDepth 100000 in
set_option maxHeartbeats 4000000 in
theorem right_any (o : Kn.Op) (i : Nat) (hi : (i : Int) ≤ maxLen) (w : World) :
 Calls Try.prog 38 #[.agg #[.int .i64 o.kind, .int .i64 o.a, .int .i64 o.b], .int .i64 i] w fun e w' => e = .returned (.bool (o.fits i)) ∧ Below w.heap.size w w' := by
 unfold maxLen at hi
 by_cases hk : o.kind < 0 ∨ 15 ≤ o.kind
 ·have E := zh (fits_none o i hk)
  obtain ⟨k, a, b⟩ := o
  have e10 : (k == 10) = false := by
   simp only [beq_eq_false_iff_ne]
   rintro rfl
   have hk' : (10 : Int) < 0 ∨ (15 : Int) ≤ 10 := hk
   omega
  have hk' : k < 0 ∨ 15 ≤ k := hk
  clear hk
  have HK := zh hk'
  clear hk'
  go_enter Try.func38, Try.ntmps38
  go_wp2_with fail
  refine (shape_none _ k HK.out).mono ?_
  rintro e w1 ⟨rfl, b1⟩
  have hc := fun o => b1.cell (p := ⟨w.heap.size, o, none⟩) (by simp)
  have h0 := hc 0
  have h1 := hc 1
  have h2 := hc 2
  have hz := b1.size
  simp at h0 h1 h2 hz
  have hlt : w.heap.size < w1.heap.size := by omega
  have hne : ¬ w.heap.size = w1.heap.size := by omega
  clear hc
  unfold shapeV strV
  go_wp2_with fail
  go_ret
  rw [E.out]
  exact ⟨rfl, ((((zr _ _).alloc (zl _) _).trans (b1.mono (by simp)))).alloc (by omega) _⟩
 ·obtain ⟨k, hkk⟩ : ∃ k : Nat, o.kind = k := ⟨o.kind.toNat, by omega⟩
  have hk15 : k < 15 := by omega
  have E := zh (fits_k o k hk15 hkk i)
  obtain ⟨S, hS⟩ : ∃ S, S = shapes[k]'hk15 := ⟨_, rfl⟩
  obtain ⟨kd, a, b⟩ := o
  have hkd : kd = k := hkk
  subst hkd
  rw [← hS] at E
  have HS := zh hS
  have hm : Hid (mostA k hk15 i = if k = 10 then (i : Int) - 1 else S.a) := by rw [hS]; rfl
  clear hS hkk hk
  obtain ⟨nm, parts, low, ma, mb⟩ := S
  by_cases h10 : k = 10
  ·have e10 : ((k : Int) == 10) = true := by simp; omega
   have hm2 : Hid (mostA k hk15 i = (i : Int) - 1) := by show _ = _; rw [hm.out, if_pos h10]
   have E2 : Hid ((⟨k, a, b⟩ : Kn.Op).fits i = (within a 0 ((i : Int) - 1) && within b low mb)) := by
    show _ = _
    rw [E.out, hm2.out]
   clear h10 hm E
   go_enter Try.func38, Try.ntmps38
   go_wp2_with fail
   refine (shape_any _ k hk15).mono ?_
   rintro e w1 ⟨rfl, b1⟩
   rw [← HS.out]
   unfold shapeV strV
   have hc := fun o => b1.cell (p := ⟨w.heap.size, o, none⟩) (by simp)
   have h0 := hc 0
   have h1 := hc 1
   have h2 := hc 2
   have hz := b1.size
   simp at h0 h1 h2 hz
   have hlt : w.heap.size < w1.heap.size := by omega
   have hne : ¬ w.heap.size = w1.heap.size := by omega
   clear hc
   rcases hb1 : within a 0 ((i : Int) - 1) with _ | _
   ·have HB1 := zh hb1
    clear hb1
    go_wp2_with fail
    refine (within_any _ _ _ _).mono ?_
    rintro e w' ⟨rfl, rfl⟩
    rw [HB1.out]
    go_wp2_with fail
    go_ret
    rw [E2.out, HB1.out]
    refine ⟨rfl, ?_⟩
    repeat (first | exact (((zr _ _).alloc (zl _) _).trans (b1.mono (by simp))).alloc (by omega) _ | exact ((((zr _ _).alloc (zl _) _).trans (b1.mono (by simp))).alloc (by omega) _).setCell (by omega) _)
   ·have HB1 := zh hb1
    clear hb1
    go_wp2_with fail
    refine (within_any _ _ _ _).mono ?_
    rintro e w' ⟨rfl, rfl⟩
    rw [HB1.out]
    go_wp2_with fail
    refine (within_any _ _ _ _).mono ?_
    rintro e w' ⟨rfl, rfl⟩
    go_wp2_with fail
    go_ret
    rw [E2.out, HB1.out]
    refine ⟨rfl, ?_⟩
    repeat (first | exact (((zr _ _).alloc (zl _) _).trans (b1.mono (by simp))).alloc (by omega) _ | exact ((((zr _ _).alloc (zl _) _).trans (b1.mono (by simp))).alloc (by omega) _).setCell (by omega) _)
  ·have e10 : ((k : Int) == 10) = false := by simp; omega
   have hm2 : Hid (mostA k hk15 i = ma) := by show _ = _; rw [hm.out, if_neg h10]
   have E2 : Hid ((⟨k, a, b⟩ : Kn.Op).fits i = (within a 0 (ma) && within b low mb)) := by
    show _ = _
    rw [E.out, hm2.out]
   clear h10 hm E
   go_enter Try.func38, Try.ntmps38
   go_wp2_with fail
   refine (shape_any _ k hk15).mono ?_
   rintro e w1 ⟨rfl, b1⟩
   rw [← HS.out]
   unfold shapeV strV
   have hc := fun o => b1.cell (p := ⟨w.heap.size, o, none⟩) (by simp)
   have h0 := hc 0
   have h1 := hc 1
   have h2 := hc 2
   have hz := b1.size
   simp at h0 h1 h2 hz
   have hlt : w.heap.size < w1.heap.size := by omega
   have hne : ¬ w.heap.size = w1.heap.size := by omega
   clear hc
   rcases hb1 : within a 0 (ma) with _ | _
   ·have HB1 := zh hb1
    clear hb1
    go_wp2_with fail
    refine (within_any _ _ _ _).mono ?_
    rintro e w' ⟨rfl, rfl⟩
    rw [HB1.out]
    go_wp2_with fail
    go_ret
    rw [E2.out, HB1.out]
    refine ⟨rfl, ?_⟩
    repeat (first | exact (((zr _ _).alloc (zl _) _).trans (b1.mono (by simp))).alloc (by omega) _ | exact ((((zr _ _).alloc (zl _) _).trans (b1.mono (by simp))).alloc (by omega) _).setCell (by omega) _)
   ·have HB1 := zh hb1
    clear hb1
    go_wp2_with fail
    refine (within_any _ _ _ _).mono ?_
    rintro e w' ⟨rfl, rfl⟩
    rw [HB1.out]
    go_wp2_with fail
    refine (within_any _ _ _ _).mono ?_
    rintro e w' ⟨rfl, rfl⟩
    go_wp2_with fail
    go_ret
    rw [E2.out, HB1.out]
    refine ⟨rfl, ?_⟩
    repeat (first | exact (((zr _ _).alloc (zl _) _).trans (b1.mono (by simp))).alloc (by omega) _ | exact ((((zr _ _).alloc (zl _) _).trans (b1.mono (by simp))).alloc (by omega) _).setCell (by omega) _)
end Go.Proofs.Ytncbgnpoffolcaa
/-! Is a table one? The walk of the given Check. -/
namespace Go.Proofs.Ytncbgnpoffolcaa
open Go.RowKit
def fits0 (t : Kn.Table) : Bool := within t.tasks.length 1 32 && (decide ((t.sems.length : Int) ≤ 8) && (within t.mutexes 0 8 && decide ((t.queues.length : Int) ≤ 8)))
theorem add_pos (a : Addr) (n : Nat) (h : n ≠ 0) : a.add n = ⟨a.block, a.off + n, none⟩ := by simp [Addr.add, h]
/-- What Check answers. -/
def chk (t : Kn.Table) : Int := if t.fits = true then 0 else 20
theorem opsFit_snoc (l : List Kn.Op) (o : Kn.Op) : ∀ i, Kn.opsFit (l ++ [o]) i = (Kn.opsFit l i && o.fits (i + l.length)) := by
 induction l with
 | nil => intro i; simp [Kn.opsFit]
 | cons a l ih =>
   intro i
   simp only [List.cons_append, Kn.opsFit, ih, Bool.and_assoc]
   congr 3
   rw [List.length_cons]
   push_cast
   omega
theorem all_snoc {α : Type} (p : α → Bool) (l : List α) (i : Nat) (h : i < l.length) : (l.take (i + 1)).all p = ((l.take i).all p && p l[i]) := by
 rw [List.take_succ_eq_append_getElem h, List.all_append]
 simp
theorem opsFit_take (l : List Kn.Op) (i : Nat) (h : i < l.length) : Kn.opsFit (l.take (i + 1)) 0 = (Kn.opsFit (l.take i) 0 && l[i].fits i) := by
 rw [List.take_succ_eq_append_getElem h, opsFit_snoc, List.length_take, Nat.min_eq_left (by omega)]
 simp
def task0 (x : Kn.Task) : Bool := within x.prio 0 31 && decide ((x.ops.length : Int) ≤ 100)
theorem task_fits (x : Kn.Task) : x.fits = (task0 x && Kn.opsFit x.ops 0) := by
 unfold Kn.Task.fits task0 within
 congr 1
 rw [Bool.eq_iff_iff]
 simp
 omega
theorem table_fits (t : Kn.Table) : t.fits = (((fits0 t && t.sems.all (within · 0 100)) && t.queues.all (within · 1 16)) && t.tasks.all Kn.Task.fits) := by
 unfold Kn.Table.fits
 congr 3
 unfold fits0 within
 rw [Bool.eq_iff_iff]
 simp
 omega
set_option maxRecDepth 100000 in
set_option maxHeartbeats 8000000 in
theorem check_any {w : World} {A1 A2 A3 : Option Addr} {c1 c2 c3 : Nat} {t : Kn.Table} (hr : TabRd w w.heap.size A1 A2 A3 t) :
 Calls Try.prog 30 #[.agg #[.slice A1 t.tasks.length c1, .slice A2 t.sems.length c2, .int .i64 t.mutexes, .slice A3 t.queues.length c3]] w
  fun e w' => e = .returned (.int .i64 (chk t)) ∧ Below w.heap.size w w' := by
 have l1 := hr.tasksL
 have l2 := hr.semsL
 have l3 := hr.queuesL
 unfold maxLen at l1 l2 l3
 have HR := zh hr
 clear hr
 go_enter Try.func30, Try.ntmps30
 go_upto_region 1 with (fail)
 go_cut [3] (fun v wx => v = .bool (fits0 t) ∧ wx = w.alloc (.cells #[.slice A1 t.tasks.length c1, .slice A2 t.sems.length c2, .int .i64 t.mutexes, .slice A3 t.queues.length c3] 26))
 case first =>
  rcases h1 : within t.tasks.length 1 32 with _ | _
  ·have E : Hid (fits0 t = false) := by show _ = _; unfold fits0; rw [h1]; rfl
   have H1 := zh h1
   clear h1
   go_wp2_with (go_at_call 37; refine (within_any _ _ _ _).mono ?_; rintro e w' ⟨rfl, rfl⟩; rw [H1.out])
   go_meet
   exact ⟨by rw [E.out], rfl⟩
  rcases h2 : decide ((t.sems.length : Int) ≤ 8) with _ | _
  ·have E : Hid (fits0 t = false) := by show _ = _; unfold fits0; rw [h1, h2]; rfl
   have H1 := zh h1
   clear h1
   go_wp2_with (go_at_call 37; refine (within_any _ _ _ _).mono ?_; rintro e w' ⟨rfl, rfl⟩; rw [H1.out])
   go_meet
   exact ⟨by rw [E.out], rfl⟩
  rcases h3 : within t.mutexes 0 8 with _ | _
  ·have E : Hid (fits0 t = false) := by show _ = _; unfold fits0; rw [h1, h2, h3]; rfl
   have H1 := zh h1
   have H3 := zh h3
   clear h1 h3
   go_wp2_with (go_at_call 37; refine (within_any _ _ _ _).mono ?_; rintro e w' ⟨rfl, rfl⟩; first | rw [H1.out] | rw [H3.out])
   go_meet
   exact ⟨by rw [E.out], rfl⟩
  rcases h4 : decide ((t.queues.length : Int) ≤ 8) with _ | _
  all_goals
   have E : Hid (fits0 t = decide ((t.queues.length : Int) ≤ 8)) := by show _ = _; unfold fits0; rw [h1, h2, h3]; rfl
   have H1 := zh h1
   have H3 := zh h3
   have H4 := zh h4
   clear h1 h3
   go_wp2_with (go_at_call 37; refine (within_any _ _ _ _).mono ?_; rintro e w' ⟨rfl, rfl⟩; first | rw [H1.out] | rw [H3.out])
   go_meet
   exact ⟨by rw [E.out, H4.out], rfl⟩
 case rest =>
  obtain ⟨rfl, rfl⟩ := hcut
  obtain ⟨b0, hb0⟩ : ∃ b0, fits0 t = b0 := ⟨_, rfl⟩
  rw [hb0]
  have HB0 := zh hb0
  clear hb0
  have hb1 := (zr w.heap.size w).alloc (zl _) (.cells #[.slice A1 t.tasks.length c1, .slice A2 t.sems.length c2, .int .i64 t.mutexes, .slice A3 t.queues.length c3] 26)
  go_wp2_with fail
  go_loop [3, 36] (fun v i => ∃ k : Nat, k ≤ t.sems.length ∧ i = .int .i64 k ∧ v = .bool (b0 && (t.sems.take k).all (within · 0 100))) (fun _ i => t.sems.length - (intOf i).toNat)
  case atStart => exact ⟨0, Nat.zero_le _, rfl, by simp⟩
  case round =>
   obtain ⟨k, hk, rfl, rfl⟩ := hrel
   by_cases hlt : k < t.sems.length
   ·have hlt' : (k : Int) < t.sems.length := by omega
    obtain ⟨ad, eA, had, hc⟩ := (HR.out.sems.below hb1 (zl _)).int hlt
    subst eA
    have S := zh (all_snoc (within · 0 100) t.sems k hlt)
    generalize t.sems[k] = n at *
    rcases hb : (b0 && (t.sems.take k).all (within · 0 100)) with _ | _
    ·have E : Hid ((b0 && (t.sems.take (k + 1)).all (within · 0 100)) = false) := by show _ = _; rw [S.out, ← Bool.and_assoc, hb]; rfl
     clear hb
     go_wp2_with fail
     go_round
     case rel => exact ⟨k + 1, by omega, by go_num, by rw [E.out]⟩
     case measure => simp [intOf]; omega
    ·have E : Hid ((b0 && (t.sems.take (k + 1)).all (within · 0 100)) = within n 0 100) := by show _ = _; rw [S.out, ← Bool.and_assoc, hb]; rfl
     clear hb
     go_wp2_with (go_at_call 37; refine (within_any _ _ _ _).mono ?_; rintro e w' ⟨rfl, rfl⟩)
     go_round
     case rel => exact ⟨k + 1, by omega, by go_num, by rw [E.out]⟩
     case measure => simp [intOf]; omega
   ·have hge : ¬ (k : Int) < t.sems.length := by omega
    have hall : t.sems.take k = t.sems := List.take_of_length_le (by omega)
    rw [hall]
    clear hall
    obtain ⟨b1, hb1'⟩ : ∃ b1, (b0 && t.sems.all (within · 0 100)) = b1 := ⟨_, rfl⟩
    rw [hb1']
    have HB1 := zh hb1'
    clear hb1'
    go_wp2_with fail
    go_loop [3, 49] (fun v i => ∃ k : Nat, k ≤ t.queues.length ∧ i = .int .i64 k ∧ v = .bool (b1 && (t.queues.take k).all (within · 1 16))) (fun _ i => t.queues.length - (intOf i).toNat)
    case atStart => exact ⟨0, Nat.zero_le _, rfl, by simp⟩
    case round =>
     obtain ⟨k, hk, rfl, rfl⟩ := hrel
     by_cases hlt : k < t.queues.length
     ·have hlt' : (k : Int) < t.queues.length := by omega
      obtain ⟨ad, eA, had, hc⟩ := (HR.out.queues.below hb1 (zl _)).int hlt
      subst eA
      have S := zh (all_snoc (within · 1 16) t.queues k hlt)
      generalize t.queues[k] = n at *
      rcases hb : (b1 && (t.queues.take k).all (within · 1 16)) with _ | _
      ·have E : Hid ((b1 && (t.queues.take (k + 1)).all (within · 1 16)) = false) := by show _ = _; rw [S.out, ← Bool.and_assoc, hb]; rfl
       clear hb
       go_wp2_with fail
       go_round
       case rel => exact ⟨k + 1, by omega, by go_num, by rw [E.out]⟩
       case measure => simp [intOf]; omega
      ·have E : Hid ((b1 && (t.queues.take (k + 1)).all (within · 1 16)) = within n 1 16) := by show _ = _; rw [S.out, ← Bool.and_assoc, hb]; rfl
       clear hb
       go_wp2_with (go_at_call 37; refine (within_any _ _ _ _).mono ?_; rintro e w' ⟨rfl, rfl⟩)
       go_round
       case rel => exact ⟨k + 1, by omega, by go_num, by rw [E.out]⟩
       case measure => simp [intOf]; omega
     ·have hge : ¬ (k : Int) < t.queues.length := by omega
      have hall : t.queues.take k = t.queues := List.take_of_length_le (by omega)
      rw [hall]
      clear hall
      obtain ⟨b2, hb2'⟩ : ∃ b2, (b1 && t.queues.all (within · 1 16)) = b2 := ⟨_, rfl⟩
      rw [hb2']
      have HB2 := zh hb2'
      clear hb2' hlt
      go_wp2_with fail
      go_loopg [3, 62] t.tasks.length (fun kk v i wr => ∃ k : Nat, k ≤ t.tasks.length ∧ i = .int .i64 k ∧ v = .bool (b2 && (t.tasks.take k).all Kn.Task.fits) ∧ Below w.heap.size w wr ∧ t.tasks.length - k ≤ kk)
      case atStart => exact ⟨0, Nat.zero_le _, rfl, by simp, hb1, by omega⟩
      case round =>
       obtain ⟨j, hj, rfl, rfl, hb, hkk⟩ := hrel
       have hzr := hb.size
       by_cases hlt : j < t.tasks.length
       ·have hlt' : (j : Int) < t.tasks.length := by omega
        obtain ⟨ad, A, c, eA, had, hc0', hc1', hro, hln⟩ := HR.out.task j hlt
        subst eA
        have hc0 := (hb.cell (p := ad.add (j * 2)) (by rw [block_of_add]; exact had)).trans hc0'
        have hc1 := (hb.cell (p := ad.add (j * 2 + 1)) (by rw [block_of_add]; exact had)).trans hc1'
        clear hc0' hc1'
        have S := zh (all_snoc Kn.Task.fits t.tasks j hlt)
        obtain ⟨x, hx⟩ : ∃ x, x = t.tasks[j] := ⟨_, rfl⟩
        rw [← hx] at hc0 hc1 hro hln S
        have hfit := task_fits x
        clear hx
        obtain ⟨pr, ops⟩ := x
        have hc1' : wr.cell? ⟨(ad.add (j * 2)).block, (ad.add (j * 2)).off + 1, none⟩ = some (.slice A ops.length c) := by rw [← add_pos _ 1 (by decide), add_of_add]; exact hc1
        unfold maxLen at hln
        have hln' : ops.length ≤ 9223372036854775807 := by omega
        have HRO := zh hro
        have HF := zh hfit
        clear hro hfit hln
        obtain ⟨b3, hb3⟩ : ∃ b3, (b2 && (t.tasks.take j).all Kn.Task.fits) = b3 := ⟨_, rfl⟩
        rw [hb3]
        have E : Hid ((b2 && (t.tasks.take (j + 1)).all Kn.Task.fits) = ((b3 && task0 ⟨pr, ops⟩) && Kn.opsFit ops 0)) := by show _ = _; rw [S.out, ← Bool.and_assoc, hb3, HF.out, Bool.and_assoc]
        clear hb3
        go_upto_region 15 with (fail)
        go_cut [3] (fun v wx => v = .bool (b3 && task0 ⟨pr, ops⟩) ∧ wx = wr.alloc (.cells #[.int .i64 pr, .slice A ops.length c] 29))
        case first =>
         clear hc0 hc1 hc1'
         have E3 : Hid (∀ b, (b && task0 ⟨pr, ops⟩) = ((b && within pr 0 31) && decide ((ops.length : Int) ≤ 100))) := fun b => by rw [Bool.and_assoc]; rfl
         rcases b3 with _ | _
         ·go_wp2_with fail
          go_meet
          exact ⟨rfl, rfl⟩
         rcases h1 : within pr 0 31 with _ | _
         ·have H1 := zh h1
          clear h1
          go_wp2_with (go_at_call 37; refine (within_any _ _ _ _).mono ?_; rintro e w' ⟨rfl, rfl⟩; rw [H1.out])
          go_meet
          exact ⟨by rw [E3.out, H1.out]; rfl, rfl⟩
         ·have H1 := zh h1
          clear h1
          go_wp2_with (go_at_call 37; refine (within_any _ _ _ _).mono ?_; rintro e w' ⟨rfl, rfl⟩; rw [H1.out])
          go_meet
          exact ⟨by rw [E3.out, H1.out]; rfl, rfl⟩
        case rest =>
         obtain ⟨rfl, rfl⟩ := hcut
         have hb2 := hb.alloc hzr (.cells #[.int .i64 pr, .slice A ops.length c] 29)
         obtain ⟨b4, hb4⟩ : ∃ b4, (b3 && task0 ⟨pr, ops⟩) = b4 := ⟨_, rfl⟩
         rw [hb4]
         have E4 : Hid ((b2 && (t.tasks.take (j + 1)).all Kn.Task.fits) = (b4 && Kn.opsFit ops 0)) := by show _ = _; rw [E.out, hb4]
         clear hb4 hc0 hc1 hc1'
         go_wp2_with fail
         go_loopg [3, 81] ops.length (fun k2 v i wx => ∃ m : Nat, m ≤ ops.length ∧ i = .int .i64 m ∧ v = .bool (b4 && Kn.opsFit (ops.take m) 0) ∧ Below w.heap.size w wx ∧ ops.length - m ≤ k2)
         case atStart => exact ⟨0, Nat.zero_le _, rfl, by simp [Kn.opsFit], hb2, by omega⟩
         case round =>
          obtain ⟨m, hm, rfl, rfl, hbx, hk2⟩ := hrel
          have hzx := hbx.size
          by_cases hlm : m < ops.length
          ·have hlm' : (m : Int) < ops.length := by omega
           obtain ⟨ad2, eA2, had2, o0, o1, o2⟩ := (HRO.out.below hbx (zl _)).op hlm
           subst eA2
           have S2 := zh (opsFit_take ops m hlm)
           obtain ⟨o, ho⟩ : ∃ o, o = ops[m] := ⟨_, rfl⟩
           rw [← ho] at o0 o1 o2 S2
           clear ho
           have o1' := o1
           have o2' := o2
           rw [← add_of_add, add_pos _ _ (by decide)] at o1' o2'
           have HM : (m : Int) ≤ (maxLen : Int) := by unfold maxLen; omega
           have HMM := zh HM
           clear HM
           rcases hbb : (b4 && Kn.opsFit (ops.take m) 0) with _ | _
           ·have E5 : Hid ((b4 && Kn.opsFit (ops.take (m + 1)) 0) = false) := by show _ = _; rw [S2.out, ← Bool.and_assoc, hbb]; rfl
            clear hbb
            go_wp2_with fail
            go_roundg (ops.length - (m + 1))
            case measure => omega
            case rel => exact ⟨m + 1, by omega, by go_num, by rw [E5.out], hbx.alloc hzx _, zl _⟩
           ·have E5 : Hid ((b4 && Kn.opsFit (ops.take (m + 1)) 0) = o.fits m) := by show _ = _; rw [S2.out, ← Bool.and_assoc, hbb]; rfl
            clear hbb
            go_wp2_with fail
            refine (right_any o m HMM.out _).mono ?_
            rintro e w5 ⟨rfl, b5⟩
            have hb5 := (hbx.alloc hzx (.cells #[.int .i64 o.kind, .int .i64 o.a, .int .i64 o.b] 32)).trans (b5.mono (by simp; omega))
            go_wp2_with fail
            go_roundg (ops.length - (m + 1))
            case measure => omega
            case rel => exact ⟨m + 1, by omega, by go_num, by rw [E5.out], hb5, zl _⟩
          ·have hgm : ¬ (m : Int) < ops.length := by omega
           have hall : ops.take m = ops := List.take_of_length_le (by omega)
           rw [hall]
           clear hall
           go_wp2_with fail
           go_roundg (t.tasks.length - (j + 1))
           case measure => omega
           case rel => exact ⟨j + 1, by omega, by go_num, by rw [E4.out], hbx, zl _⟩
       ·have hge2 : ¬ (j : Int) < t.tasks.length := by omega
        have hall : t.tasks.take j = t.tasks := List.take_of_length_le (by omega)
        rw [hall]
        clear hall
        have E : Hid (t.fits = (b2 && t.tasks.all Kn.Task.fits)) := by show _ = _; rw [table_fits, HB0.out, HB1.out, HB2.out]
        rcases hf : (b2 && t.tasks.all Kn.Task.fits) with _ | _
        ·rw [hf] at E
         clear hf
         go_wp2_with fail
         go_ret
         exact ⟨ret_int (by unfold chk; rw [E.out]; rfl), hb⟩
        ·rw [hf] at E
         clear hf
         go_wp2_with fail
         go_ret
         exact ⟨ret_int (by unfold chk; rw [E.out]; rfl), hb⟩
end Go.Proofs.Ytncbgnpoffolcaa
/-! The kernel laid: a semaphore, a mutex, a queue more. -/
namespace Go.Proofs.Ytncbgnpoffolcaa
open Go.RowKit
/-- Some parts lie elsewhere. -/
def Lay.over (L : Lay) (f : Part → Option (Nat × Nat × Nat)) (op : Nat → Option Addr) : Lay :=
 { b := fun c => match f c with | some x => x.1 | none => L.b c, off := fun c => match f c with | some x => x.2.1 | none => L.off c, cap := fun c => match f c with | some x => x.2.2 | none => L.cap c, nil := fun c => match f c with | some _ => false | none => L.nil c, opA := op }
section
variable {L : Lay} {f : Part → Option (Nat × Nat × Nat)} {op : Nat → Option Addr} {c : Part}
theorem over_b (h : f c = none) : (L.over f op).b c = L.b c := by simp [Lay.over, h]
theorem over_off (h : f c = none) : (L.over f op).off c = L.off c := by simp [Lay.over, h]
theorem over_cap (h : f c = none) : (L.over f op).cap c = L.cap c := by simp [Lay.over, h]
theorem over_nil (h : f c = none) : (L.over f op).nil c = L.nil c := by simp [Lay.over, h]
theorem over_hd (h : f c = none) (n : Nat) : (L.over f op).hd c n = L.hd c n := by simp [Lay.over, Lay.hd, h]
theorem over_ptr (h : f c = none) (n : Nat) : (L.over f op).ptr c n = L.ptr c n := by simp [Lay.over, Lay.ptr, h]
end
/-- Parts made, parts written; the others as they were. -/
theorem KM.makeN {w w' : World} {B : Nat} {k k' : Kn.K} {L L' : Lay} (new : Part → Prop) (h : KM w B k L) (hl : ∀ c : Part, ¬ new c → c.live k' L' → c.live k L)
 (hsame : ∀ c : Part, ¬ new c → c.live k L → L'.b c = L.b c ∧ w'.heap[L.b c]? = w.heap[L.b c]? ∧ ∀ ob, c.cont k L ob → c.cont k' L' ob)
 (hnew : ∀ c : Part, new c → c.live k' L' → c.cont k' L' w'.heap[L'.b c]? ∧ B ≤ L'.b c ∧ (w.heap.size ≤ L'.b c ∨ c.live k L ∧ L'.b c = L.b c))
 (hap : ∀ c c' : Part, new c → new c' → c.live k' L' → c'.live k' L' → L'.b c = L'.b c' → c = c')
 (hn : L'.nils k') (hlen : k'.lst.length = 72) (hfew : k'.sems.length ≤ 8 ∧ k'.owner.length ≤ 8 ∧ k'.size.length ≤ 8) : KM w' B k' L' ∧ Near w.heap.size k L k' L' := by
 have cross : ∀ c c' : Part, new c → ¬ new c' → c.live k' L' → c'.live k' L' → L'.b c ≠ L'.b c' := by
  intro c c' h1 h2 l1 l2 e
  have l2' := hl c' h2 l2
  obtain ⟨e1, _, _⟩ := hsame c' h2 l2'
  rcases (hnew c h1 l1).2.2 with q | ⟨q1, q2⟩
  ·have := h.lt l2'
   omega
  ·have := h.apart c c' q1 l2' (by rw [← q2, e, e1])
   subst this
   exact h2 h1
 refine ⟨?_, fun c hc => ?_⟩
 rotate_left
 ·by_cases q : new c
  ·rcases (hnew c q hc).2.2 with r | ⟨r1, r2⟩
   ·exact .inr r
   ·exact .inl ⟨c, r1, r2.symm⟩
  ·exact .inl ⟨c, hl c q hc, (hsame c q (hl c q hc)).1.symm⟩
 refine ⟨fun c hc => ?_, fun c c' h1 h2 e => ?_, fun c hc => ?_, hn, hlen, hfew⟩
 ·by_cases q : new c
  ·exact (hnew c q hc).1
  ·have hc' := hl c q hc
   obtain ⟨e1, e2, e3⟩ := hsame c q hc'
   rw [e1, e2]
   exact e3 _ (h.cont c hc')
 ·by_cases q : new c
  ·by_cases q' : new c'
   ·exact hap c c' q q' h1 h2 e
   ·exact absurd e (cross c c' q q' h1 h2)
  ·by_cases q' : new c'
   ·exact absurd e.symm (cross c' c q' q h2 h1)
   ·have l1 := hl c q h1
    have l2 := hl c' q' h2
    exact h.apart c c' l1 l2 (by rw [← (hsame c q l1).1, ← (hsame c' q' l2).1, e])
 ·by_cases q : new c
  ·exact (hnew c q hc).2.1
  ·have l1 := hl c q hc
   rw [(hsame c q l1).1]
   exact h.low c l1
theorem KM.make {w w' : World} {B : Nat} {k k' : Kn.K} {L L' : Lay} (new : Part → Prop) (h : KM w B k L) (hl : ∀ c : Part, ¬ new c → c.live k' L' → c.live k L)
 (hsame : ∀ c : Part, ¬ new c → c.live k L → L'.b c = L.b c ∧ w'.heap[L.b c]? = w.heap[L.b c]? ∧ ∀ ob, c.cont k L ob → c.cont k' L' ob)
 (hnew : ∀ c : Part, new c → c.live k' L' → c.cont k' L' w'.heap[L'.b c]? ∧ B ≤ L'.b c ∧ (w.heap.size ≤ L'.b c ∨ c.live k L ∧ L'.b c = L.b c))
 (hap : ∀ c c' : Part, new c → new c' → c.live k' L' → c'.live k' L' → L'.b c = L'.b c' → c = c')
 (hn : L'.nils k') (hlen : k'.lst.length = 72) (hfew : k'.sems.length ≤ 8 ∧ k'.owner.length ≤ 8 ∧ k'.size.length ≤ 8) : KM w' B k' L' :=
 (h.makeN new hl hsame hnew hap hn hlen hfew).1
/-- A row of pointers, as a row of one's own. -/
theorem Ptrs.row {w : World} {B g ty n cap : Nat} {f : Nat → Value} (h : Ptrs w.heap[g]? ty n cap f) (hB : B ≤ g) : w.ownsRow B ty 1 (.slice (some ⟨g, 0, none⟩) n cap) n ((List.range n).map f) := by
 obtain ⟨cur, h1, h2, h3, h4, h5⟩ := h
 refine ⟨by simp, .inr ⟨g, cap, cur, rfl, hB, h1, h2, h3, by omega, ?_⟩⟩
 apply List.ext_getElem?
 intro i
 rw [Nat.mul_one, List.getElem?_take]
 by_cases hi : i < n
 ·rw [if_pos hi]
  have := h5 i hi
  simp only [List.getElem?_map, List.getElem?_range hi, Option.map_some]
  rw [← this]
  simp
 ·rw [if_neg hi, List.getElem?_eq_none (by simp; omega)]
theorem Ptrs.of_row {w : World} {B g ty n cap : Nat} {f : Nat → Value} (h : w.ownsRow B ty 1 (.slice (some ⟨g, 0, none⟩) n cap) n ((List.range n).map f)) (_hn : 0 < n) : Ptrs w.heap[g]? ty n cap f ∧ B ≤ g := by
 rcases h.2 with ⟨q, _⟩ | ⟨g', cap', cur, e, h0, h1, h2, h3, h4, h5⟩
 ·cases q
 ·injection e with e1 _ e3
  injection e1 with e1
  injection e1 with e1
  subst e1
  subst e3
  refine ⟨⟨cur, h1, h2, h3, by omega, fun i hi => ?_⟩, h0⟩
  have := congrArg (fun l => l[i]?) h5
  simp only [Nat.mul_one, List.getElem?_take, if_pos hi, List.getElem?_map, List.getElem?_range hi, Option.map_some] at this
  rw [← this]
  simp
/-- The kernel's block, one head put anew. -/
theorem ker_same {k k' : Kn.K} {L L' : Lay} {j : Nat} {v : Value} (h : ∀ i, i ≠ j → (kerCells k' L')[i]? = (kerCells k L)[i]?) (hj : (kerCells k' L')[j]? = some v) (hjl : j < 39) : kerCells k' L' = (kerCells k L).setIfInBounds j v := by
 apply Array.ext_getElem?
 intro i
 by_cases e : i = j
 ·subst e
  rw [hj]
  have : i < (kerCells k L).size := by rw [kerCells_len]; exact hjl
  simp [this]
 ·rw [Array.getElem?_setIfInBounds_ne (by omega)]
  exact h i e
theorem ker_at {k k' : Kn.K} {L L' : Lay} (j : Nat) (h0 : j = 0 ∨ L'.hd .ta k'.tasks.length = L.hd .ta k.tasks.length) (h1 : j = 1 ∨ L'.hd .sa k'.sems.length = L.hd .sa k.sems.length) (h2 : j = 2 ∨ L'.hd .ma k'.owner.length = L.hd .ma k.owner.length) (h3 : j = 3 ∨ L'.hd .qa k'.size.length = L.hd .qa k.size.length)
 (h4 : ∀ p, p < 32 → L'.hd (.l p) (k'.l p).length = L.hd (.l p) (k.l p).length) (h5 : L'.hd .out k'.out.length = L.hd .out k.out.length) (h6 : k'.ticks = k.ticks) (h7 : k'.ops = k.ops) : ∀ i, i ≠ j → (kerCells k' L')[i]? = (kerCells k L)[i]? := by
 intro i hi
 have e : (List.range 32).map (fun p => L'.hd (.l p) (k'.l p).length) = (List.range 32).map (fun p => L.hd (.l p) (k.l p).length) := List.map_congr_left fun p hp => h4 p (List.mem_range.1 hp)
 unfold kerCells
 rw [e, h5, h6, h7]
 simp only [za]
 match i, hi with
 | 0, hi => rcases h0 with q | q; exact absurd q.symm hi; simp [q]
 | 1, hi => rcases h1 with q | q; exact absurd q.symm hi; simp [q]
 | 2, hi => rcases h2 with q | q; exact absurd q.symm hi; simp [q]
 | 3, hi => rcases h3 with q | q; exact absurd q.symm hi; simp [q]
 | i + 4, hi => simp
/-- A Sem more. -/
theorem KM.addSem {W W1 w5 : World} {B : Nat} {k : Kn.K} {L : Lay} {n : Int} {g cap g1 : Nat} (h : KM W B k L) (ht : k.tasks = []) (hlt : k.sems.length < 8) (hnl : ∀ x, L.nil (.l x) = true) (hB : B ≤ W.heap.size)
 (hb1 : Below W.heap.size W W1) (hg1 : W.heap.size ≤ g1) (hg1' : g1 < W1.heap.size) (hw1 : Whole W1 g1 82 #[.int .i64 n, .slice none 0 0])
 (hown : w5.ownsRow B 80 1 (.slice (some ⟨g, 0, none⟩) (k.sems.length + 1) cap) (k.sems.length + 1) ((List.range k.sems.length).map (fun i => L.ptr (.s i) 0) ++ [.pointer (some ⟨g1, 0, none⟩)]))
 (hgr : W1.grownBy w5 (L.hd .sa k.sems.length).ownBlock) (hat : (L.hd .sa k.sems.length).ownBlock = some g ∨ (W.heap.size ≤ g ∧ g ≠ g1)) :
 ∃ L', KM (w5.setCell ⟨L.b .ker, 1, none⟩ (.slice (some ⟨g, 0, none⟩) (k.sems.length + 1) cap)) B { k with sems := k.sems ++ [n] } L' ∧ L'.b .ker = L.b .ker ∧ (∀ x, L'.nil (.l x) = true) := by
 have hz1 := hb1.size
 obtain ⟨fo, hfo⟩ : ∃ fo : Part → Option (Nat × Nat × Nat), fo = fun c => if c = .s k.sems.length then some (g1, 0, 0) else if c = .sa then some (g, 0, cap) else none := ⟨_, rfl⟩
 have fS : fo (.s k.sems.length) = some (g1, 0, 0) := by rw [hfo]; simp
 have fA : fo .sa = some (g, 0, cap) := by rw [hfo]; simp
 have fN : ∀ c : Part, c ≠ .s k.sems.length → c ≠ .sa → fo c = none := fun c q1 q2 => by rw [hfo]; simp [q1, q2]
 have hob : ∀ x, (L.hd .sa k.sems.length).ownBlock = some x → L.nil .sa = false ∧ x = L.b .sa := fun x hx => by
  cases hn : L.nil .sa with
  | true => simp [Lay.hd, hn, Value.ownBlock] at hx
  | false =>
    have q1 := (h.cont .sa hn).1
    simp [Lay.hd, hn, q1, Value.ownBlock] at hx
    exact ⟨rfl, hx.symm⟩
 have hkeep : ∀ x, x < W.heap.size → (L.nil .sa = false → x ≠ L.b .sa) → w5.heap[x]? = W.heap[x]? := fun x hx hne =>
  (hgr.block x (by omega) (fun e => by obtain ⟨e1, e2⟩ := hob x e.symm; exact hne e1 e2)).trans (hb1.block x hx)
 have hgc : ∀ c : Part, c ≠ .sa → c.live k L → g ≠ L.b c := fun c hc hcl e => by
  rcases hat with q | q
  ·obtain ⟨e1, e2⟩ := hob g q
   exact hc (h.apart c .sa hcl e1 (by rw [← e, e2]))
  ·have := h.lt hcl
   omega
 have hgg : g ≠ g1 := fun e => by
  rcases hat with q | q
  ·obtain ⟨e1, e2⟩ := hob g q
   have := h.lt (c := .sa) e1
   omega
  ·exact q.2 e
 have hg1k : g1 ≠ L.b .ker := fun e => by have := h.lt (c := .ker) trivial; omega
 have hgk := hgc .ker (by simp) trivial
 have hkerb : (L.over fo L.opA).b .ker = L.b .ker := over_b (fN _ (by simp) (by simp))
 have hlive : ∀ c : Part, c ≠ .s k.sems.length → c ≠ .sa → (c.live { k with sems := k.sems ++ [n] } (L.over fo L.opA) → c.live k L) := fun c q1 q2 hc => by
  cases c with
  | s i =>
    have hc' : i < (k.sems ++ [n]).length := hc
    have q3 : i ≠ k.sems.length := fun e => q1 (by rw [e])
    rw [List.length_append, List.length_singleton] at hc'
    show i < k.sems.length
    omega
  | l x => exact ⟨hc.1, by rw [← over_nil (L := L) (op := L.opA) (fN (.l x) q1 q2)]; exact hc.2⟩
  | ta => show L.nil .ta = false; rw [← over_nil (L := L) (op := L.opA) (fN .ta q1 q2)]; exact hc
  | out => show L.nil .out = false; rw [← over_nil (L := L) (op := L.opA) (fN .out q1 q2)]; exact hc
  | sa => exact absurd rfl q2
  | ma => show L.nil .ma = false; rw [← over_nil (L := L) (op := L.opA) (fN .ma q1 q2)]; exact hc
  | qa => show L.nil .qa = false; rw [← over_nil (L := L) (op := L.opA) (fN .qa q1 q2)]; exact hc
  | _ => exact hc
 have hpos : 0 < k.sems.length + 1 := by omega
 have hptr : (List.range (k.sems.length + 1)).map (fun i => (L.over fo L.opA).ptr (.s i) 0) = (List.range k.sems.length).map (fun i => L.ptr (.s i) 0) ++ [.pointer (some ⟨g1, 0, none⟩)] := by
  rw [List.range_succ, List.map_append]
  congr 1
  ·apply List.map_congr_left
   intro i hi
   have := List.mem_range.1 hi
   exact over_ptr (fN _ (by simp; omega) (by simp)) 0
  ·simp [Lay.ptr, Lay.over, fS]
 rw [← hptr] at hown
 obtain ⟨hP, hBg⟩ := Ptrs.of_row hown hpos
 have hlenN : (k.sems ++ [n]).length = k.sems.length + 1 := by simp
 refine ⟨L.over fo L.opA, ?_, hkerb, fun x => by rw [over_nil (fN _ (by simp) (by simp))]; exact hnl x⟩
 refine h.make (fun c => c = .s k.sems.length ∨ c = .sa ∨ c = .ker) (fun c hc => hlive c (fun e => hc (.inl e)) (fun e => hc (.inr (.inl e)))) (fun c hc hcl => ?_) (fun c hc hcl => ?_) (fun c c' hc hc' _ _ e => ?_) ?_ h.lens ?_
 ·have q1 : c ≠ .s k.sems.length := fun e => hc (.inl e)
  have q2 : c ≠ .sa := fun e => hc (.inr (.inl e))
  have q3 : c ≠ .ker := fun e => hc (.inr (.inr e))
  have fc := fN c q1 q2
  refine ⟨over_b fc, ?_, fun ob hob2 => ?_⟩
  ·rw [zk _ _ _ _ (fun e => q3 (h.apart c .ker hcl trivial e))]
   exact hkeep _ (h.lt hcl) (fun hn e => q2 (h.apart c .sa hcl hn e))
  ·have el : ∀ y, (L.over fo L.opA).hd (.l y) (k.l y).length = L.hd (.l y) (k.l y).length := fun y => over_hd (fN _ (by simp) (by simp)) _
   cases c with
   | ker => exact absurd rfl q3
   | t i => exact absurd hcl (by show ¬ i < k.tasks.length; rw [ht]; simp)
   | lp i => exact absurd hcl (by show ¬ i < k.tasks.length; rw [ht]; simp)
   | o i => exact absurd hcl.1 (by rw [ht]; simp)
   | s i => 
     have hi : i ≠ k.sems.length := fun e => q1 (by rw [e])
     show ob = _
     have eg : (k.sems ++ [n]).getD i 0 = k.sems.getD i 0 := by
      have : i < k.sems.length := hcl
      simp [List.getElem?_append_left this]
     simp only [eg]
     have hl2 : ∀ y, ({ k with sems := k.sems ++ [n] } : Kn.K).l y = k.l y := fun _ => rfl
     simp only [hl2, el]
     exact hob2
   | m i => 
     show ob = _
     have hl2 : ∀ y, ({ k with sems := k.sems ++ [n] } : Kn.K).l y = k.l y := fun _ => rfl
     simp only [hl2, el]
     exact hob2
   | q i => 
     show ob = _
     have hl2 : ∀ y, ({ k with sems := k.sems ++ [n] } : Kn.K).l y = k.l y := fun _ => rfl
     simp only [hl2, el]
     exact hob2
   | l x =>
     show ListIs ob _ _ _
     rw [over_off fc, over_cap fc]
     exact hob2
   | out =>
     obtain ⟨q1, cur, q2⟩ := hob2
     refine ⟨by rw [over_off fc]; exact q1, cur, ?_⟩
     rw [over_cap fc]
     exact q2
   | ta =>
     obtain ⟨q1, q2⟩ := hob2
     refine ⟨by rw [over_off fc]; exact q1, ?_⟩
     show Ptrs ob 69 k.tasks.length _ _
     rw [over_cap fc, ht]
     rw [ht] at q2
     obtain ⟨cur, p1, p2, p3, p4, _⟩ := q2
     exact ⟨cur, p1, p2, p3, p4, fun i hi => absurd hi (by simp)⟩
   | sa => exact absurd rfl q2
   | ma => 
     obtain ⟨q1, q2⟩ := hob2
     refine ⟨by rw [over_off fc]; exact q1, ?_⟩
     show Ptrs ob 83 k.owner.length _ _
     rw [over_cap fc]
     obtain ⟨cur, p1, p2, p3, p4, p5⟩ := q2
     refine ⟨cur, p1, p2, p3, p4, fun i hi => ?_⟩
     show cur[i]? = some ((L.over fo L.opA).ptr (.m i) 0)
     rw [over_ptr (fN (.m i) (by simp) (by simp))]
     exact p5 i hi
   | qa => 
     obtain ⟨q1, q2⟩ := hob2
     refine ⟨by rw [over_off fc]; exact q1, ?_⟩
     show Ptrs ob 86 k.size.length _ _
     rw [over_cap fc]
     obtain ⟨cur, p1, p2, p3, p4, p5⟩ := q2
     refine ⟨cur, p1, p2, p3, p4, fun i hi => ?_⟩
     show cur[i]? = some ((L.over fo L.opA).ptr (.q i) 0)
     rw [over_ptr (fN (.q i) (by simp) (by simp))]
     exact p5 i hi
 ·rcases hc with rfl | rfl | rfl
  ·have eb : (L.over fo L.opA).b (.s k.sems.length) = g1 := by simp [Lay.over, fS]
   rw [eb]
   refine ⟨?_, by omega, .inl hg1⟩
   rw [zk _ _ _ _ hg1k]
   have hw5 : Whole w5 g1 82 #[.int .i64 n, .slice none 0 0] := Whole.same hw1 (hgr.block g1 hg1' (fun e => by obtain ⟨e1, e2⟩ := hob g1 e.symm; have := h.lt (c := .sa) e1; omega))
   have el : ∀ y, (L.over fo L.opA).hd (.l y) (k.l y).length = .slice none 0 0 := fun y => by rw [over_hd (fN _ (by simp) (by simp))]; simp [Lay.hd, hnl y]
   show w5.heap[g1]? = some (.cells #[.int .i64 ((k.sems ++ [n]).getD k.sems.length 0), (L.over fo L.opA).hd (.l (32 + k.sems.length)) (({ k with sems := k.sems ++ [n] } : Kn.K).l (32 + k.sems.length)).length] 82 (0, 0))
   have eg : (k.sems ++ [n]).getD k.sems.length 0 = n := by simp
   have hl2 : ∀ y, ({ k with sems := k.sems ++ [n] } : Kn.K).l y = k.l y := fun _ => rfl
   simp only [eg, hl2, el]
   exact hw5
  ·have eb : (L.over fo L.opA).b .sa = g := by simp [Lay.over, fA]
   rw [eb]
   refine ⟨?_, hBg, ?_⟩
   ·rw [zk _ _ _ _ hgk]
    refine ⟨by simp [Lay.over, fA], ?_⟩
    show Ptrs _ 80 (k.sems ++ [n]).length _ _
    rw [hlenN]
    have ec : (L.over fo L.opA).cap .sa = cap := by simp [Lay.over, fA]
    rw [ec]
    exact hP
   ·rcases hat with q | q
    ·obtain ⟨e1, e2⟩ := hob g q
     exact .inr ⟨e1, e2⟩
    ·exact .inl q.1
  ·rw [hkerb]
   refine ⟨?_, h.low .ker trivial, .inr ⟨trivial, rfl⟩⟩
   have ehd : (L.over fo L.opA).hd .sa (k.sems ++ [n]).length = .slice (some ⟨g, 0, none⟩) (k.sems.length + 1) cap := by
    rw [hlenN]
    simp [Lay.hd, Lay.over, fA]
   have e4 : kerCells { k with sems := k.sems ++ [n] } (L.over fo L.opA) = (kerCells k L).setIfInBounds 1 (.slice (some ⟨g, 0, none⟩) (k.sems.length + 1) cap) := by
    refine ker_same (ker_at 1 (.inr (over_hd (fN _ (by simp) (by simp)) _)) (.inl rfl) (.inr (over_hd (fN _ (by simp) (by simp)) _)) (.inr (over_hd (fN _ (by simp) (by simp)) _)) (fun p _ => over_hd (fN _ (by simp) (by simp)) _) (over_hd (fN _ (by simp) (by simp)) _) rfl rfl) ?_ (by omega)
    show some ((L.over fo L.opA).hd .sa (k.sems ++ [n]).length) = _
    rw [ehd]
   show _ = _
   rw [e4]
   exact Whole.put (w := w5) (h.ker.same (hkeep _ (h.lt (c := .ker) trivial) (fun hn e => by cases h.apart .ker .sa trivial hn e))) 1 _
 ·have eS : (L.over fo L.opA).b (.s k.sems.length) = g1 := by simp [Lay.over, fS]
  have eA : (L.over fo L.opA).b .sa = g := by simp [Lay.over, fA]
  rcases hc with rfl | rfl | rfl <;> rcases hc' with rfl | rfl | rfl
  ·rfl
  ·rw [eS, eA] at e; exact absurd e.symm hgg
  ·rw [eS, hkerb] at e; exact absurd e hg1k
  ·rw [eS, eA] at e; exact absurd e hgg
  ·rfl
  ·rw [eA, hkerb] at e; exact absurd e hgk
  ·rw [eS, hkerb] at e; exact absurd e.symm hg1k
  ·rw [eA, hkerb] at e; exact absurd e.symm hgk
  ·rfl
 ·obtain ⟨n1, n2, n3, n4, n5, n6⟩ := h.nil
  refine ⟨fun q => n1 (by rw [← over_nil (L := L) (op := L.opA) (fN .ta (by simp) (by simp))]; exact q), (fun q => by simp [Lay.over, fA] at q), (fun q => n3 (by rw [← over_nil (L := L) (op := L.opA) (fN .ma (by simp) (by simp))]; exact q)), (fun q => n4 (by rw [← over_nil (L := L) (op := L.opA) (fN .qa (by simp) (by simp))]; exact q)), fun q => n5 (by rw [← over_nil (L := L) (op := L.opA) (fN .out (by simp) (by simp))]; exact q), fun x q => n6 x (hnl x)⟩
 ·obtain ⟨f1, f2, f3⟩ := h.few
  exact ⟨by rw [hlenN]; omega, f2, f3⟩
/-- A Mutex more. -/
theorem KM.addMutex {W W1 w5 : World} {B : Nat} {k : Kn.K} {L : Lay} {g cap g1 : Nat} (h : KM W B k L) (ht : k.tasks = []) (hlt : k.owner.length < 8) (hnl : ∀ x, L.nil (.l x) = true) (hB : B ≤ W.heap.size)
 (hb1 : Below W.heap.size W W1) (hg1 : W.heap.size ≤ g1) (hg1' : g1 < W1.heap.size) (hw1 : Whole W1 g1 85 #[.int .i64 (-1), .slice none 0 0])
 (hown : w5.ownsRow B 83 1 (.slice (some ⟨g, 0, none⟩) (k.owner.length + 1) cap) (k.owner.length + 1) ((List.range k.owner.length).map (fun i => L.ptr (.m i) 0) ++ [.pointer (some ⟨g1, 0, none⟩)]))
 (hgr : W1.grownBy w5 (L.hd .ma k.owner.length).ownBlock) (hat : (L.hd .ma k.owner.length).ownBlock = some g ∨ (W.heap.size ≤ g ∧ g ≠ g1)) :
 ∃ L', KM (w5.setCell ⟨L.b .ker, 2, none⟩ (.slice (some ⟨g, 0, none⟩) (k.owner.length + 1) cap)) B { k with owner := k.owner ++ [(-1 : Int)] } L' ∧ L'.b .ker = L.b .ker ∧ (∀ x, L'.nil (.l x) = true) := by
 have hz1 := hb1.size
 obtain ⟨fo, hfo⟩ : ∃ fo : Part → Option (Nat × Nat × Nat), fo = fun c => if c = .m k.owner.length then some (g1, 0, 0) else if c = .ma then some (g, 0, cap) else none := ⟨_, rfl⟩
 have fS : fo (.m k.owner.length) = some (g1, 0, 0) := by rw [hfo]; simp
 have fA : fo .ma = some (g, 0, cap) := by rw [hfo]; simp
 have fN : ∀ c : Part, c ≠ .m k.owner.length → c ≠ .ma → fo c = none := fun c q1 q2 => by rw [hfo]; simp [q1, q2]
 have hob : ∀ x, (L.hd .ma k.owner.length).ownBlock = some x → L.nil .ma = false ∧ x = L.b .ma := fun x hx => by
  cases hn : L.nil .ma with
  | true => simp [Lay.hd, hn, Value.ownBlock] at hx
  | false =>
    have q1 := (h.cont .ma hn).1
    simp [Lay.hd, hn, q1, Value.ownBlock] at hx
    exact ⟨rfl, hx.symm⟩
 have hkeep : ∀ x, x < W.heap.size → (L.nil .ma = false → x ≠ L.b .ma) → w5.heap[x]? = W.heap[x]? := fun x hx hne =>
  (hgr.block x (by omega) (fun e => by obtain ⟨e1, e2⟩ := hob x e.symm; exact hne e1 e2)).trans (hb1.block x hx)
 have hgc : ∀ c : Part, c ≠ .ma → c.live k L → g ≠ L.b c := fun c hc hcl e => by
  rcases hat with q | q
  ·obtain ⟨e1, e2⟩ := hob g q
   exact hc (h.apart c .ma hcl e1 (by rw [← e, e2]))
  ·have := h.lt hcl
   omega
 have hgg : g ≠ g1 := fun e => by
  rcases hat with q | q
  ·obtain ⟨e1, e2⟩ := hob g q
   have := h.lt (c := .ma) e1
   omega
  ·exact q.2 e
 have hg1k : g1 ≠ L.b .ker := fun e => by have := h.lt (c := .ker) trivial; omega
 have hgk := hgc .ker (by simp) trivial
 have hkerb : (L.over fo L.opA).b .ker = L.b .ker := over_b (fN _ (by simp) (by simp))
 have hlive : ∀ c : Part, c ≠ .m k.owner.length → c ≠ .ma → (c.live { k with owner := k.owner ++ [(-1 : Int)] } (L.over fo L.opA) → c.live k L) := fun c q1 q2 hc => by
  cases c with
  | m i =>
    have hc' : i < (k.owner ++ [(-1 : Int)]).length := hc
    have q3 : i ≠ k.owner.length := fun e => q1 (by rw [e])
    rw [List.length_append, List.length_singleton] at hc'
    show i < k.owner.length
    omega
  | l x => exact ⟨hc.1, by rw [← over_nil (L := L) (op := L.opA) (fN (.l x) q1 q2)]; exact hc.2⟩
  | ta => show L.nil .ta = false; rw [← over_nil (L := L) (op := L.opA) (fN .ta q1 q2)]; exact hc
  | out => show L.nil .out = false; rw [← over_nil (L := L) (op := L.opA) (fN .out q1 q2)]; exact hc
  | sa => show L.nil .sa = false; rw [← over_nil (L := L) (op := L.opA) (fN .sa q1 q2)]; exact hc
  | ma => exact absurd rfl q2
  | qa => show L.nil .qa = false; rw [← over_nil (L := L) (op := L.opA) (fN .qa q1 q2)]; exact hc
  | _ => exact hc
 have hpos : 0 < k.owner.length + 1 := by omega
 have hptr : (List.range (k.owner.length + 1)).map (fun i => (L.over fo L.opA).ptr (.m i) 0) = (List.range k.owner.length).map (fun i => L.ptr (.m i) 0) ++ [.pointer (some ⟨g1, 0, none⟩)] := by
  rw [List.range_succ, List.map_append]
  congr 1
  ·apply List.map_congr_left
   intro i hi
   have := List.mem_range.1 hi
   exact over_ptr (fN _ (by simp; omega) (by simp)) 0
  ·simp [Lay.ptr, Lay.over, fS]
 rw [← hptr] at hown
 obtain ⟨hP, hBg⟩ := Ptrs.of_row hown hpos
 have hlenN : (k.owner ++ [(-1 : Int)]).length = k.owner.length + 1 := by simp
 refine ⟨L.over fo L.opA, ?_, hkerb, fun x => by rw [over_nil (fN _ (by simp) (by simp))]; exact hnl x⟩
 refine h.make (fun c => c = .m k.owner.length ∨ c = .ma ∨ c = .ker) (fun c hc => hlive c (fun e => hc (.inl e)) (fun e => hc (.inr (.inl e)))) (fun c hc hcl => ?_) (fun c hc hcl => ?_) (fun c c' hc hc' _ _ e => ?_) ?_ h.lens ?_
 ·have q1 : c ≠ .m k.owner.length := fun e => hc (.inl e)
  have q2 : c ≠ .ma := fun e => hc (.inr (.inl e))
  have q3 : c ≠ .ker := fun e => hc (.inr (.inr e))
  have fc := fN c q1 q2
  refine ⟨over_b fc, ?_, fun ob hob2 => ?_⟩
  ·rw [zk _ _ _ _ (fun e => q3 (h.apart c .ker hcl trivial e))]
   exact hkeep _ (h.lt hcl) (fun hn e => q2 (h.apart c .ma hcl hn e))
  ·have el : ∀ y, (L.over fo L.opA).hd (.l y) (k.l y).length = L.hd (.l y) (k.l y).length := fun y => over_hd (fN _ (by simp) (by simp)) _
   cases c with
   | ker => exact absurd rfl q3
   | t i => exact absurd hcl (by show ¬ i < k.tasks.length; rw [ht]; simp)
   | lp i => exact absurd hcl (by show ¬ i < k.tasks.length; rw [ht]; simp)
   | o i => exact absurd hcl.1 (by rw [ht]; simp)
   | s i => 
     show ob = _
     have hl2 : ∀ y, ({ k with owner := k.owner ++ [(-1 : Int)] } : Kn.K).l y = k.l y := fun _ => rfl
     simp only [hl2, el]
     exact hob2
   | m i => 
     have hi : i ≠ k.owner.length := fun e => q1 (by rw [e])
     show ob = _
     have eg : (k.owner ++ [(-1 : Int)]).getD i 0 = k.owner.getD i 0 := by
      have : i < k.owner.length := hcl
      simp [List.getElem?_append_left this]
     simp only [eg]
     have hl2 : ∀ y, ({ k with owner := k.owner ++ [(-1 : Int)] } : Kn.K).l y = k.l y := fun _ => rfl
     simp only [hl2, el]
     exact hob2
   | q i => 
     show ob = _
     have hl2 : ∀ y, ({ k with owner := k.owner ++ [(-1 : Int)] } : Kn.K).l y = k.l y := fun _ => rfl
     simp only [hl2, el]
     exact hob2
   | l x =>
     show ListIs ob _ _ _
     rw [over_off fc, over_cap fc]
     exact hob2
   | out =>
     obtain ⟨q1, cur, q2⟩ := hob2
     refine ⟨by rw [over_off fc]; exact q1, cur, ?_⟩
     rw [over_cap fc]
     exact q2
   | ta =>
     obtain ⟨q1, q2⟩ := hob2
     refine ⟨by rw [over_off fc]; exact q1, ?_⟩
     show Ptrs ob 69 k.tasks.length _ _
     rw [over_cap fc, ht]
     rw [ht] at q2
     obtain ⟨cur, p1, p2, p3, p4, _⟩ := q2
     exact ⟨cur, p1, p2, p3, p4, fun i hi => absurd hi (by simp)⟩
   | sa => 
     obtain ⟨q1, q2⟩ := hob2
     refine ⟨by rw [over_off fc]; exact q1, ?_⟩
     show Ptrs ob 80 k.sems.length _ _
     rw [over_cap fc]
     obtain ⟨cur, p1, p2, p3, p4, p5⟩ := q2
     refine ⟨cur, p1, p2, p3, p4, fun i hi => ?_⟩
     show cur[i]? = some ((L.over fo L.opA).ptr (.s i) 0)
     rw [over_ptr (fN (.s i) (by simp) (by simp))]
     exact p5 i hi
   | ma => exact absurd rfl q2
   | qa => 
     obtain ⟨q1, q2⟩ := hob2
     refine ⟨by rw [over_off fc]; exact q1, ?_⟩
     show Ptrs ob 86 k.size.length _ _
     rw [over_cap fc]
     obtain ⟨cur, p1, p2, p3, p4, p5⟩ := q2
     refine ⟨cur, p1, p2, p3, p4, fun i hi => ?_⟩
     show cur[i]? = some ((L.over fo L.opA).ptr (.q i) 0)
     rw [over_ptr (fN (.q i) (by simp) (by simp))]
     exact p5 i hi
 ·rcases hc with rfl | rfl | rfl
  ·have eb : (L.over fo L.opA).b (.m k.owner.length) = g1 := by simp [Lay.over, fS]
   rw [eb]
   refine ⟨?_, by omega, .inl hg1⟩
   rw [zk _ _ _ _ hg1k]
   have hw5 : Whole w5 g1 85 #[.int .i64 (-1), .slice none 0 0] := Whole.same hw1 (hgr.block g1 hg1' (fun e => by obtain ⟨e1, e2⟩ := hob g1 e.symm; have := h.lt (c := .ma) e1; omega))
   have el : ∀ y, (L.over fo L.opA).hd (.l y) (k.l y).length = .slice none 0 0 := fun y => by rw [over_hd (fN _ (by simp) (by simp))]; simp [Lay.hd, hnl y]
   show w5.heap[g1]? = some (.cells #[.int .i64 ((k.owner ++ [(-1 : Int)]).getD k.owner.length 0), (L.over fo L.opA).hd (.l (40 + k.owner.length)) (({ k with owner := k.owner ++ [(-1 : Int)] } : Kn.K).l (40 + k.owner.length)).length] 85 (0, 0))
   have eg : (k.owner ++ [(-1 : Int)]).getD k.owner.length 0 = (-1 : Int) := by simp
   have hl2 : ∀ y, ({ k with owner := k.owner ++ [(-1 : Int)] } : Kn.K).l y = k.l y := fun _ => rfl
   simp only [eg, hl2, el]
   exact hw5
  ·have eb : (L.over fo L.opA).b .ma = g := by simp [Lay.over, fA]
   rw [eb]
   refine ⟨?_, hBg, ?_⟩
   ·rw [zk _ _ _ _ hgk]
    refine ⟨by simp [Lay.over, fA], ?_⟩
    show Ptrs _ 83 (k.owner ++ [(-1 : Int)]).length _ _
    rw [hlenN]
    have ec : (L.over fo L.opA).cap .ma = cap := by simp [Lay.over, fA]
    rw [ec]
    exact hP
   ·rcases hat with q | q
    ·obtain ⟨e1, e2⟩ := hob g q
     exact .inr ⟨e1, e2⟩
    ·exact .inl q.1
  ·rw [hkerb]
   refine ⟨?_, h.low .ker trivial, .inr ⟨trivial, rfl⟩⟩
   have ehd : (L.over fo L.opA).hd .ma (k.owner ++ [(-1 : Int)]).length = .slice (some ⟨g, 0, none⟩) (k.owner.length + 1) cap := by
    rw [hlenN]
    simp [Lay.hd, Lay.over, fA]
   have e4 : kerCells { k with owner := k.owner ++ [(-1 : Int)] } (L.over fo L.opA) = (kerCells k L).setIfInBounds 2 (.slice (some ⟨g, 0, none⟩) (k.owner.length + 1) cap) := by
    refine ker_same (ker_at 2 (.inr (over_hd (fN _ (by simp) (by simp)) _)) (.inr (over_hd (fN _ (by simp) (by simp)) _)) (.inl rfl) (.inr (over_hd (fN _ (by simp) (by simp)) _)) (fun p _ => over_hd (fN _ (by simp) (by simp)) _) (over_hd (fN _ (by simp) (by simp)) _) rfl rfl) ?_ (by omega)
    show some ((L.over fo L.opA).hd .ma (k.owner ++ [(-1 : Int)]).length) = _
    rw [ehd]
   show _ = _
   rw [e4]
   exact Whole.put (w := w5) (h.ker.same (hkeep _ (h.lt (c := .ker) trivial) (fun hn e => by cases h.apart .ker .ma trivial hn e))) 2 _
 ·have eS : (L.over fo L.opA).b (.m k.owner.length) = g1 := by simp [Lay.over, fS]
  have eA : (L.over fo L.opA).b .ma = g := by simp [Lay.over, fA]
  rcases hc with rfl | rfl | rfl <;> rcases hc' with rfl | rfl | rfl
  ·rfl
  ·rw [eS, eA] at e; exact absurd e.symm hgg
  ·rw [eS, hkerb] at e; exact absurd e hg1k
  ·rw [eS, eA] at e; exact absurd e hgg
  ·rfl
  ·rw [eA, hkerb] at e; exact absurd e hgk
  ·rw [eS, hkerb] at e; exact absurd e.symm hg1k
  ·rw [eA, hkerb] at e; exact absurd e.symm hgk
  ·rfl
 ·obtain ⟨n1, n2, n3, n4, n5, n6⟩ := h.nil
  refine ⟨fun q => n1 (by rw [← over_nil (L := L) (op := L.opA) (fN .ta (by simp) (by simp))]; exact q), (fun q => n2 (by rw [← over_nil (L := L) (op := L.opA) (fN .sa (by simp) (by simp))]; exact q)), (fun q => by simp [Lay.over, fA] at q), (fun q => n4 (by rw [← over_nil (L := L) (op := L.opA) (fN .qa (by simp) (by simp))]; exact q)), fun q => n5 (by rw [← over_nil (L := L) (op := L.opA) (fN .out (by simp) (by simp))]; exact q), fun x q => n6 x (hnl x)⟩
 ·obtain ⟨f1, f2, f3⟩ := h.few
  exact ⟨f1, by rw [hlenN]; omega, f3⟩
/-- A Queue more. -/
theorem KM.addQueue {W W1 w5 : World} {B : Nat} {k : Kn.K} {L : Lay} {n : Int} {g cap g1 : Nat} (h : KM W B k L) (ht : k.tasks = []) (hlt : k.size.length < 8) (hnl : ∀ x, L.nil (.l x) = true) (hB : B ≤ W.heap.size)
 (hb1 : Below W.heap.size W W1) (hg1 : W.heap.size ≤ g1) (hg1' : g1 < W1.heap.size) (hw1 : Whole W1 g1 91 #[.int .i64 n, .slice none 0 0, .slice none 0 0, .slice none 0 0])
 (hown : w5.ownsRow B 86 1 (.slice (some ⟨g, 0, none⟩) (k.size.length + 1) cap) (k.size.length + 1) ((List.range k.size.length).map (fun i => L.ptr (.q i) 0) ++ [.pointer (some ⟨g1, 0, none⟩)]))
 (hgr : W1.grownBy w5 (L.hd .qa k.size.length).ownBlock) (hat : (L.hd .qa k.size.length).ownBlock = some g ∨ (W.heap.size ≤ g ∧ g ≠ g1)) :
 ∃ L', KM (w5.setCell ⟨L.b .ker, 3, none⟩ (.slice (some ⟨g, 0, none⟩) (k.size.length + 1) cap)) B { k with size := k.size ++ [n] } L' ∧ L'.b .ker = L.b .ker ∧ (∀ x, L'.nil (.l x) = true) := by
 have hz1 := hb1.size
 obtain ⟨fo, hfo⟩ : ∃ fo : Part → Option (Nat × Nat × Nat), fo = fun c => if c = .q k.size.length then some (g1, 0, 0) else if c = .qa then some (g, 0, cap) else none := ⟨_, rfl⟩
 have fS : fo (.q k.size.length) = some (g1, 0, 0) := by rw [hfo]; simp
 have fA : fo .qa = some (g, 0, cap) := by rw [hfo]; simp
 have fN : ∀ c : Part, c ≠ .q k.size.length → c ≠ .qa → fo c = none := fun c q1 q2 => by rw [hfo]; simp [q1, q2]
 have hob : ∀ x, (L.hd .qa k.size.length).ownBlock = some x → L.nil .qa = false ∧ x = L.b .qa := fun x hx => by
  cases hn : L.nil .qa with
  | true => simp [Lay.hd, hn, Value.ownBlock] at hx
  | false =>
    have q1 := (h.cont .qa hn).1
    simp [Lay.hd, hn, q1, Value.ownBlock] at hx
    exact ⟨rfl, hx.symm⟩
 have hkeep : ∀ x, x < W.heap.size → (L.nil .qa = false → x ≠ L.b .qa) → w5.heap[x]? = W.heap[x]? := fun x hx hne =>
  (hgr.block x (by omega) (fun e => by obtain ⟨e1, e2⟩ := hob x e.symm; exact hne e1 e2)).trans (hb1.block x hx)
 have hgc : ∀ c : Part, c ≠ .qa → c.live k L → g ≠ L.b c := fun c hc hcl e => by
  rcases hat with q | q
  ·obtain ⟨e1, e2⟩ := hob g q
   exact hc (h.apart c .qa hcl e1 (by rw [← e, e2]))
  ·have := h.lt hcl
   omega
 have hgg : g ≠ g1 := fun e => by
  rcases hat with q | q
  ·obtain ⟨e1, e2⟩ := hob g q
   have := h.lt (c := .qa) e1
   omega
  ·exact q.2 e
 have hg1k : g1 ≠ L.b .ker := fun e => by have := h.lt (c := .ker) trivial; omega
 have hgk := hgc .ker (by simp) trivial
 have hkerb : (L.over fo L.opA).b .ker = L.b .ker := over_b (fN _ (by simp) (by simp))
 have hlive : ∀ c : Part, c ≠ .q k.size.length → c ≠ .qa → (c.live { k with size := k.size ++ [n] } (L.over fo L.opA) → c.live k L) := fun c q1 q2 hc => by
  cases c with
  | q i =>
    have hc' : i < (k.size ++ [n]).length := hc
    have q3 : i ≠ k.size.length := fun e => q1 (by rw [e])
    rw [List.length_append, List.length_singleton] at hc'
    show i < k.size.length
    omega
  | l x => exact ⟨hc.1, by rw [← over_nil (L := L) (op := L.opA) (fN (.l x) q1 q2)]; exact hc.2⟩
  | ta => show L.nil .ta = false; rw [← over_nil (L := L) (op := L.opA) (fN .ta q1 q2)]; exact hc
  | out => show L.nil .out = false; rw [← over_nil (L := L) (op := L.opA) (fN .out q1 q2)]; exact hc
  | sa => show L.nil .sa = false; rw [← over_nil (L := L) (op := L.opA) (fN .sa q1 q2)]; exact hc
  | ma => show L.nil .ma = false; rw [← over_nil (L := L) (op := L.opA) (fN .ma q1 q2)]; exact hc
  | qa => exact absurd rfl q2
  | _ => exact hc
 have hpos : 0 < k.size.length + 1 := by omega
 have hptr : (List.range (k.size.length + 1)).map (fun i => (L.over fo L.opA).ptr (.q i) 0) = (List.range k.size.length).map (fun i => L.ptr (.q i) 0) ++ [.pointer (some ⟨g1, 0, none⟩)] := by
  rw [List.range_succ, List.map_append]
  congr 1
  ·apply List.map_congr_left
   intro i hi
   have := List.mem_range.1 hi
   exact over_ptr (fN _ (by simp; omega) (by simp)) 0
  ·simp [Lay.ptr, Lay.over, fS]
 rw [← hptr] at hown
 obtain ⟨hP, hBg⟩ := Ptrs.of_row hown hpos
 have hlenN : (k.size ++ [n]).length = k.size.length + 1 := by simp
 refine ⟨L.over fo L.opA, ?_, hkerb, fun x => by rw [over_nil (fN _ (by simp) (by simp))]; exact hnl x⟩
 refine h.make (fun c => c = .q k.size.length ∨ c = .qa ∨ c = .ker) (fun c hc => hlive c (fun e => hc (.inl e)) (fun e => hc (.inr (.inl e)))) (fun c hc hcl => ?_) (fun c hc hcl => ?_) (fun c c' hc hc' _ _ e => ?_) ?_ h.lens ?_
 ·have q1 : c ≠ .q k.size.length := fun e => hc (.inl e)
  have q2 : c ≠ .qa := fun e => hc (.inr (.inl e))
  have q3 : c ≠ .ker := fun e => hc (.inr (.inr e))
  have fc := fN c q1 q2
  refine ⟨over_b fc, ?_, fun ob hob2 => ?_⟩
  ·rw [zk _ _ _ _ (fun e => q3 (h.apart c .ker hcl trivial e))]
   exact hkeep _ (h.lt hcl) (fun hn e => q2 (h.apart c .qa hcl hn e))
  ·have el : ∀ y, (L.over fo L.opA).hd (.l y) (k.l y).length = L.hd (.l y) (k.l y).length := fun y => over_hd (fN _ (by simp) (by simp)) _
   cases c with
   | ker => exact absurd rfl q3
   | t i => exact absurd hcl (by show ¬ i < k.tasks.length; rw [ht]; simp)
   | lp i => exact absurd hcl (by show ¬ i < k.tasks.length; rw [ht]; simp)
   | o i => exact absurd hcl.1 (by rw [ht]; simp)
   | s i => 
     show ob = _
     have hl2 : ∀ y, ({ k with size := k.size ++ [n] } : Kn.K).l y = k.l y := fun _ => rfl
     simp only [hl2, el]
     exact hob2
   | m i => 
     show ob = _
     have hl2 : ∀ y, ({ k with size := k.size ++ [n] } : Kn.K).l y = k.l y := fun _ => rfl
     simp only [hl2, el]
     exact hob2
   | q i => 
     have hi : i ≠ k.size.length := fun e => q1 (by rw [e])
     show ob = _
     have eg : (k.size ++ [n]).getD i 0 = k.size.getD i 0 := by
      have : i < k.size.length := hcl
      simp [List.getElem?_append_left this]
     simp only [eg]
     have hl2 : ∀ y, ({ k with size := k.size ++ [n] } : Kn.K).l y = k.l y := fun _ => rfl
     simp only [hl2, el]
     exact hob2
   | l x =>
     show ListIs ob _ _ _
     rw [over_off fc, over_cap fc]
     exact hob2
   | out =>
     obtain ⟨q1, cur, q2⟩ := hob2
     refine ⟨by rw [over_off fc]; exact q1, cur, ?_⟩
     rw [over_cap fc]
     exact q2
   | ta =>
     obtain ⟨q1, q2⟩ := hob2
     refine ⟨by rw [over_off fc]; exact q1, ?_⟩
     show Ptrs ob 69 k.tasks.length _ _
     rw [over_cap fc, ht]
     rw [ht] at q2
     obtain ⟨cur, p1, p2, p3, p4, _⟩ := q2
     exact ⟨cur, p1, p2, p3, p4, fun i hi => absurd hi (by simp)⟩
   | sa => 
     obtain ⟨q1, q2⟩ := hob2
     refine ⟨by rw [over_off fc]; exact q1, ?_⟩
     show Ptrs ob 80 k.sems.length _ _
     rw [over_cap fc]
     obtain ⟨cur, p1, p2, p3, p4, p5⟩ := q2
     refine ⟨cur, p1, p2, p3, p4, fun i hi => ?_⟩
     show cur[i]? = some ((L.over fo L.opA).ptr (.s i) 0)
     rw [over_ptr (fN (.s i) (by simp) (by simp))]
     exact p5 i hi
   | ma => 
     obtain ⟨q1, q2⟩ := hob2
     refine ⟨by rw [over_off fc]; exact q1, ?_⟩
     show Ptrs ob 83 k.owner.length _ _
     rw [over_cap fc]
     obtain ⟨cur, p1, p2, p3, p4, p5⟩ := q2
     refine ⟨cur, p1, p2, p3, p4, fun i hi => ?_⟩
     show cur[i]? = some ((L.over fo L.opA).ptr (.m i) 0)
     rw [over_ptr (fN (.m i) (by simp) (by simp))]
     exact p5 i hi
   | qa => exact absurd rfl q2
 ·rcases hc with rfl | rfl | rfl
  ·have eb : (L.over fo L.opA).b (.q k.size.length) = g1 := by simp [Lay.over, fS]
   rw [eb]
   refine ⟨?_, by omega, .inl hg1⟩
   rw [zk _ _ _ _ hg1k]
   have hw5 : Whole w5 g1 91 #[.int .i64 n, .slice none 0 0, .slice none 0 0, .slice none 0 0] := Whole.same hw1 (hgr.block g1 hg1' (fun e => by obtain ⟨e1, e2⟩ := hob g1 e.symm; have := h.lt (c := .qa) e1; omega))
   have el : ∀ y, (L.over fo L.opA).hd (.l y) (k.l y).length = .slice none 0 0 := fun y => by rw [over_hd (fN _ (by simp) (by simp))]; simp [Lay.hd, hnl y]
   show w5.heap[g1]? = some (.cells #[.int .i64 ((k.size ++ [n]).getD k.size.length 0), (L.over fo L.opA).hd (.l (48 + k.size.length)) (({ k with size := k.size ++ [n] } : Kn.K).l (48 + k.size.length)).length, (L.over fo L.opA).hd (.l (56 + k.size.length)) (({ k with size := k.size ++ [n] } : Kn.K).l (56 + k.size.length)).length, (L.over fo L.opA).hd (.l (64 + k.size.length)) (({ k with size := k.size ++ [n] } : Kn.K).l (64 + k.size.length)).length] 91 (0, 0))
   have eg : (k.size ++ [n]).getD k.size.length 0 = n := by simp
   have hl2 : ∀ y, ({ k with size := k.size ++ [n] } : Kn.K).l y = k.l y := fun _ => rfl
   simp only [eg, hl2, el]
   exact hw5
  ·have eb : (L.over fo L.opA).b .qa = g := by simp [Lay.over, fA]
   rw [eb]
   refine ⟨?_, hBg, ?_⟩
   ·rw [zk _ _ _ _ hgk]
    refine ⟨by simp [Lay.over, fA], ?_⟩
    show Ptrs _ 86 (k.size ++ [n]).length _ _
    rw [hlenN]
    have ec : (L.over fo L.opA).cap .qa = cap := by simp [Lay.over, fA]
    rw [ec]
    exact hP
   ·rcases hat with q | q
    ·obtain ⟨e1, e2⟩ := hob g q
     exact .inr ⟨e1, e2⟩
    ·exact .inl q.1
  ·rw [hkerb]
   refine ⟨?_, h.low .ker trivial, .inr ⟨trivial, rfl⟩⟩
   have ehd : (L.over fo L.opA).hd .qa (k.size ++ [n]).length = .slice (some ⟨g, 0, none⟩) (k.size.length + 1) cap := by
    rw [hlenN]
    simp [Lay.hd, Lay.over, fA]
   have e4 : kerCells { k with size := k.size ++ [n] } (L.over fo L.opA) = (kerCells k L).setIfInBounds 3 (.slice (some ⟨g, 0, none⟩) (k.size.length + 1) cap) := by
    refine ker_same (ker_at 3 (.inr (over_hd (fN _ (by simp) (by simp)) _)) (.inr (over_hd (fN _ (by simp) (by simp)) _)) (.inr (over_hd (fN _ (by simp) (by simp)) _)) (.inl rfl) (fun p _ => over_hd (fN _ (by simp) (by simp)) _) (over_hd (fN _ (by simp) (by simp)) _) rfl rfl) ?_ (by omega)
    show some ((L.over fo L.opA).hd .qa (k.size ++ [n]).length) = _
    rw [ehd]
   show _ = _
   rw [e4]
   exact Whole.put (w := w5) (h.ker.same (hkeep _ (h.lt (c := .ker) trivial) (fun hn e => by cases h.apart .ker .qa trivial hn e))) 3 _
 ·have eS : (L.over fo L.opA).b (.q k.size.length) = g1 := by simp [Lay.over, fS]
  have eA : (L.over fo L.opA).b .qa = g := by simp [Lay.over, fA]
  rcases hc with rfl | rfl | rfl <;> rcases hc' with rfl | rfl | rfl
  ·rfl
  ·rw [eS, eA] at e; exact absurd e.symm hgg
  ·rw [eS, hkerb] at e; exact absurd e hg1k
  ·rw [eS, eA] at e; exact absurd e hgg
  ·rfl
  ·rw [eA, hkerb] at e; exact absurd e hgk
  ·rw [eS, hkerb] at e; exact absurd e.symm hg1k
  ·rw [eA, hkerb] at e; exact absurd e.symm hgk
  ·rfl
 ·obtain ⟨n1, n2, n3, n4, n5, n6⟩ := h.nil
  refine ⟨fun q => n1 (by rw [← over_nil (L := L) (op := L.opA) (fN .ta (by simp) (by simp))]; exact q), (fun q => n2 (by rw [← over_nil (L := L) (op := L.opA) (fN .sa (by simp) (by simp))]; exact q)), (fun q => n3 (by rw [← over_nil (L := L) (op := L.opA) (fN .ma (by simp) (by simp))]; exact q)), (fun q => by simp [Lay.over, fA] at q), fun q => n5 (by rw [← over_nil (L := L) (op := L.opA) (fN .out (by simp) (by simp))]; exact q), fun x q => n6 x (hnl x)⟩
 ·obtain ⟨f1, f2, f3⟩ := h.few
  exact ⟨f1, f2, by rw [hlenN]; omega⟩
end Go.Proofs.Ytncbgnpoffolcaa
/-! The kernel laid: a task more. Operations copied: the walk of Clone. -/
namespace Go.Proofs.Ytncbgnpoffolcaa
open Go.RowKit
theorem info32 : (Try.prog.info? 32).map (fun i => (i.zero, i.size, i.bytes)) = some (some (.agg #[.int .i64 0, .int .i64 0, .int .i64 0]), 3, 24) := by kernel_rfl
def newT (x : Kn.Task) : Kn.T := ⟨x.ops, x.prio, x.prio, 0, 0, 0, x.ops.map fun _ => 0, none, 0, 0⟩
/-- Operations that lie in a block of their own. -/
def OpsIn (w : World) (N : Nat) (A : Option Addr) (ops : List Kn.Op) : Prop := 0 < ops.length → ∃ g, A = some ⟨g, 0, none⟩ ∧ N ≤ g ∧ ∃ cur, w.heap[g]? = some (.cells cur 32 (0, 0)) ∧ ∀ (j : Nat) (u : Value), (opsC ops)[j]? = some u → cur[j]? = some u
theorem OpsIn.keep {w w' : World} {N : Nat} {A : Option Addr} {ops : List Kn.Op} (h : OpsIn w N A ops) (hs : ∀ b, b < w.heap.size → w'.heap[b]? = w.heap[b]?) : OpsIn w' N A ops := fun hn => by
 obtain ⟨g, e, hg, cur, hc, hu⟩ := h hn
 exact ⟨g, e, hg, cur, (hs g (Array.getElem?_eq_some_iff.1 hc).1).trans hc, hu⟩
theorem eql27 (A : Option Addr) (n c : Nat) (w : World) : (binOp .eql 27 (.slice A n c) (.slice none 0 0)).run Try.prog w = .ok (.bool A.isNone) w := by
 simp [binOp, run_equal_slice_nil (P := Try.prog) (w := w) 27 32 A n c Try.underlying27, go_sem, Result.andThen]
set_option maxRecDepth 100000 in
theorem clone_any {w : World} {B : Nat} {A : Option Addr} {c : Nat} {ops : List Kn.Op} (hr : Reads w B 3 A ops.length (opsC ops)) (hB : B ≤ w.heap.size) (hl : ops.length ≤ 1000) :
 Calls Try.prog 39 #[.slice A ops.length c] w fun e w' => ∃ A' c', e = .returned (.slice A' ops.length c') ∧ Below w.heap.size w w' ∧ OpsIn w' w.heap.size A' ops := by
 obtain ⟨i0, hi, hz0, hz1, hz2⟩ := info_parts info32
 rcases A with _ | ad
 ·have E := eql27 none 0 c
  have h0 : ops.length = 0 := by
   rcases Nat.eq_zero_or_pos ops.length with q | q
   ·exact q
   ·obtain ⟨ad, e, _⟩ := hr.2 q
    cases e
  rw [h0]
  go_enter Try.func39, Try.ntmps39
  go_wp2_with fail
  go_ret
  exact ⟨none, 0, rfl, zr _ _, fun q => by omega⟩
 ·have E := eql27 (some ad) ops.length c
  have hown : (w.alloc (.cells #[] 32)).ownsRow w.heap.size 32 3 (.slice (some ⟨w.heap.size, 0, none⟩) 0 0) 0 [] := World.ownsRow_lit (e := 32) (size := 3) w #[] 0 (zl _) (by decide) rfl
  have hnews : ∀ (j : Nat) (u : Value), (opsC ops)[j]? = some u → (w.alloc (.cells #[] 32)).cell? (ad.add j) = some u := fun j u hj => by
   have hn : 0 < ops.length := by
    rcases Nat.eq_zero_or_pos ops.length with q | q
    ·have hl3 := hr.1
     rw [q] at hl3
     have := (List.getElem?_eq_some_iff.1 hj).1
     omega
    ·exact q
   obtain ⟨ad', e, hb, hc⟩ := hr.2 hn
   injection e with e
   subst e
   rw [zw w _ _ (by rw [block_of_add]; omega)]
   exact hc j u hj
  have h1 : ∀ u ∈ opsC ops, u.oneCell' = true := fun u hu => by
   obtain ⟨o, _, ho⟩ := List.mem_flatMap.1 hu
   simp [opC] at ho
   rcases ho with rfl | rfl | rfl <;> rfl
  have hlo := opsC_len ops
  have HN := zh hnews
  have H1 := zh h1
  have HO := zh hown
  have HL := zh hlo
  clear hnews h1 hown hlo hr
  go_enter Try.func39, Try.ntmps39
  go_wp2_with (at_builtin; refine wpList_append_own _ rfl _ _ _ rfl w.heap.size 32 i0 _ 3 24 Try.underlying27 hi hz0 hz1 hz2 rfl (by decide) _ 0 [] rfl HO.out ad ops.length c (opsC ops) rfl HL.out HN.out H1.out ?c3 ?c4 ?c5 ?_)
  case c3 => unfold maxLen; omega
  case c4 => omega
  case c5 => simp
  intro v' w5 own5 hgrow _
  have own5 : w5.ownsRow w.heap.size 32 3 v' ops.length (opsC ops) := by simpa using own5
  have hb5 : Below w.heap.size w w5 := ((zr w.heap.size w).alloc (zl _) (.cells #[] 32)).grown hgrow (by simp) (fun k hk => by simp [Value.ownBlock] at hk; omega)
  obtain ⟨A', c', e'⟩ := row_slice own5
  obtain ⟨e', _⟩ := e'
  subst e'
  have HOI : Hid (OpsIn w5 w.heap.size A' ops) := fun hn => by
   rcases own5.2 with ⟨q, q2⟩ | ⟨g, cap, cur, e, hg, hc, _, _, _, ht⟩
   ·omega
   ·injection e with e1 _ e3
    refine ⟨g, e1, hg, cur, hc, fun j u hj => ?_⟩
    rw [← ht, List.getElem?_take] at hj
    split at hj
    ·simpa using hj
    ·cases hj
  clear hgrow own5
  go_wp2_with fail
  go_ret
  exact ⟨A', c', rfl, hb5, HOI.out⟩
theorem over_on {L : Lay} {f : Part → Option (Nat × Nat × Nat)} {op : Nat → Option Addr} (hs : ∀ i, f (.s i) = none) (hm : ∀ i, f (.m i) = none) (hq : ∀ i, f (.q i) = none) (o : Option Nat) : (L.over f op).on o = L.on o := by
 unfold Lay.on
 rcases o with _ | y
 ·rfl
 ·simp only [over_ptr (hs _), over_ptr (hm _), over_ptr (hq _)]
theorem kT_app {k : Kn.K} {t : Kn.T} {i : Nat} (hi : i < k.tasks.length) : kT { k with tasks := k.tasks ++ [t] } i = kT k i := by
 unfold kT
 simp [List.getElem?_append_left hi]
theorem kT_new {k : Kn.K} {t : Kn.T} : kT { k with tasks := k.tasks ++ [t] } k.tasks.length = t := by
 unfold kT
 simp
/-- A task more. -/
theorem KM.addTask {W W1 w5 : World} {B : Nat} {k : Kn.K} {L : Lay} {x : Kn.Task} {g cap gt gm cO : Nat} {A : Option Addr} (h : KM W B k L) (hB : B ≤ W.heap.size)
 (hb1 : Below W.heap.size W W1) (hgt : W.heap.size ≤ gt) (hgm : W.heap.size ≤ gm)
 (hwt : Whole W1 gt 74 #[.slice A x.ops.length cO, .int .i64 x.prio, .int .i64 x.prio, .int .i64 0, .int .i64 0, .int .i64 0, .map (some gm), .nilIface, .int .i64 0, .int .i64 0]) (hwm : W1.heap[gm]? = some (.map #[] 0)) (hO : OpsIn W1 W.heap.size A x.ops)
 (hown : w5.ownsRow B 69 1 (.slice (some ⟨g, 0, none⟩) (k.tasks.length + 1) cap) (k.tasks.length + 1) ((List.range k.tasks.length).map (fun i => L.ptr (.t i) 0) ++ [.pointer (some ⟨gt, 0, none⟩)]))
 (hgr : W1.grownBy w5 (L.hd .ta k.tasks.length).ownBlock) (hat : (L.hd .ta k.tasks.length).ownBlock = some g ∨ W1.heap.size ≤ g) :
 ∃ L', KM (w5.setCell ⟨L.b .ker, 0, none⟩ (.slice (some ⟨g, 0, none⟩) (k.tasks.length + 1) cap)) B { k with tasks := k.tasks ++ [newT x] } L' ∧ L'.b .ker = L.b .ker ∧ Near W.heap.size k L { k with tasks := k.tasks ++ [newT x] } L' := by
 have hz1 := hb1.size
 have hgt' := hwt.lt
 have hgm' : gm < W1.heap.size := (Array.getElem?_eq_some_iff.1 hwm).1
 have htm : gt ≠ gm := fun e => by
  have q : W1.heap[gt]? = some (.cells _ _ _) := hwt
  rw [e, hwm] at q
  cases q
 obtain ⟨go, hgo⟩ : ∃ go, go = (A.map (·.block)).getD 0 := ⟨_, rfl⟩
 have hOo : 0 < x.ops.length → A = some ⟨go, 0, none⟩ ∧ W.heap.size ≤ go ∧ go < W1.heap.size ∧ go ≠ gt ∧ go ≠ gm ∧ ∃ cur, W1.heap[go]? = some (.cells cur 32 (0, 0)) ∧ ∀ (j : Nat) (u : Value), (opsC x.ops)[j]? = some u → cur[j]? = some u := fun hn => by
  obtain ⟨g', e, h1, cur, h2, h3⟩ := hO hn
  subst e
  have e2 : go = g' := hgo
  subst e2
  refine ⟨rfl, h1, (Array.getElem?_eq_some_iff.1 h2).1, fun e => ?_, fun e => ?_, cur, h2, h3⟩
  ·have q : W1.heap[gt]? = some (.cells _ 74 _) := hwt
   rw [← e, h2] at q
   injection q with q
   injection q with _ q
   cases q
  ·rw [e, hwm] at h2
   cases h2
 obtain ⟨fo, hfo⟩ : ∃ fo : Part → Option (Nat × Nat × Nat), fo = fun c => if c = .t k.tasks.length then some (gt, 0, 0) else if c = .lp k.tasks.length then some (gm, 0, 0) else if c = .o k.tasks.length then some (go, 0, cO) else if c = .ta then some (g, 0, cap) else none := ⟨_, rfl⟩
 obtain ⟨fp, hfp⟩ : ∃ fp : Nat → Option Addr, fp = fun i => if i = k.tasks.length then A else L.opA i := ⟨_, rfl⟩
 have fT : fo (.t k.tasks.length) = some (gt, 0, 0) := by rw [hfo]; simp
 have fL : fo (.lp k.tasks.length) = some (gm, 0, 0) := by rw [hfo]; simp
 have fO : fo (.o k.tasks.length) = some (go, 0, cO) := by rw [hfo]; simp
 have fA : fo .ta = some (g, 0, cap) := by rw [hfo]; simp
 have fN : ∀ c : Part, c ≠ .t k.tasks.length → c ≠ .lp k.tasks.length → c ≠ .o k.tasks.length → c ≠ .ta → fo c = none := fun c q1 q2 q3 q4 => by rw [hfo]; simp [q1, q2, q3, q4]
 have hob : ∀ x, (L.hd .ta k.tasks.length).ownBlock = some x → L.nil .ta = false ∧ x = L.b .ta := fun x hx => by
  cases hn : L.nil .ta with
  | true => simp [Lay.hd, hn, Value.ownBlock] at hx
  | false =>
    have q1 := (h.cont .ta hn).1
    simp [Lay.hd, hn, q1, Value.ownBlock] at hx
    exact ⟨rfl, hx.symm⟩
 have hkeep : ∀ x, x < W.heap.size → (L.nil .ta = false → x ≠ L.b .ta) → w5.heap[x]? = W.heap[x]? := fun x hx hne =>
  (hgr.block x (by omega) (fun e => by obtain ⟨e1, e2⟩ := hob x e.symm; exact hne e1 e2)).trans (hb1.block x hx)
 have hfresh : ∀ x, W.heap.size ≤ x → x < W1.heap.size → w5.heap[x]? = W1.heap[x]? := fun x h1 h2 => hgr.block x h2 (fun e => by obtain ⟨e1, e2⟩ := hob x e.symm; have := h.lt (c := .ta) e1; omega)
 have hgc : ∀ c : Part, c ≠ .ta → c.live k L → g ≠ L.b c := fun c hc hcl e => by
  rcases hat with q | q
  ·obtain ⟨e1, e2⟩ := hob g q
   exact hc (h.apart c .ta hcl e1 (by rw [← e, e2]))
  ·have := h.lt hcl
   omega
 have hgf : ∀ x, W.heap.size ≤ x → x < W1.heap.size → g ≠ x := fun x h1 h2 e => by
  rcases hat with q | q
  ·obtain ⟨e1, e2⟩ := hob g q
   have := h.lt (c := .ta) e1
   omega
  ·omega
 have hkf : ∀ x, W.heap.size ≤ x → x ≠ L.b .ker := fun x h1 e => by have := h.lt (c := .ker) trivial; omega
 have hgk := hgc .ker (by simp) trivial
 have hkerb : (L.over fo fp).b .ker = L.b .ker := over_b (fN _ (by simp) (by simp) (by simp) (by simp))
 have hlenN : (k.tasks ++ [newT x]).length = k.tasks.length + 1 := by simp
 have hptr : (List.range (k.tasks.length + 1)).map (fun i => (L.over fo fp).ptr (.t i) 0) = (List.range k.tasks.length).map (fun i => L.ptr (.t i) 0) ++ [.pointer (some ⟨gt, 0, none⟩)] := by
  rw [List.range_succ, List.map_append]
  congr 1
  ·apply List.map_congr_left
   intro i hi
   have := List.mem_range.1 hi
   exact over_ptr (fN _ (by simp; omega) (by simp) (by simp) (by simp)) 0
  ·simp [Lay.ptr, Lay.over, fT]
 rw [← hptr] at hown
 obtain ⟨hP, hBg⟩ := Ptrs.of_row hown (by omega)
 have bT : (L.over fo fp).b (.t k.tasks.length) = gt := by simp [Lay.over, fT]
 have bL : (L.over fo fp).b (.lp k.tasks.length) = gm := by simp [Lay.over, fL]
 have bO : (L.over fo fp).b (.o k.tasks.length) = go := by simp [Lay.over, fO]
 have bA : (L.over fo fp).b .ta = g := by simp [Lay.over, fA]
 have hon := fun o => over_on (L := L) (f := fo) (op := fp) (fun i => fN _ (by simp) (by simp) (by simp) (by simp)) (fun i => fN _ (by simp) (by simp) (by simp) (by simp)) (fun i => fN _ (by simp) (by simp) (by simp) (by simp)) o
 suffices hmk : KM (w5.setCell ⟨L.b .ker, 0, none⟩ (.slice (some ⟨g, 0, none⟩) (k.tasks.length + 1) cap)) B { k with tasks := k.tasks ++ [newT x] } (L.over fo fp) ∧ Near W.heap.size k L { k with tasks := k.tasks ++ [newT x] } (L.over fo fp) from ⟨_, hmk.1, hkerb, hmk.2⟩
 refine h.makeN (fun c => c = .t k.tasks.length ∨ c = .lp k.tasks.length ∨ c = .o k.tasks.length ∨ c = .ta ∨ c = .ker) (fun c hc hcl => ?_) (fun c hc hcl => ?_) (fun c hc hcl => ?_) (fun c c' hc hc' hcl hcl' e => ?_) ?_ h.lens h.few
 ·have fc : c ≠ .ker → fo c = none := fun _ => fN c (fun e => hc (.inl e)) (fun e => hc (.inr (.inl e))) (fun e => hc (.inr (.inr (.inl e)))) (fun e => hc (.inr (.inr (.inr (.inl e)))))
  cases c with
  | t i =>
    have hi : i < (k.tasks ++ [newT x]).length := hcl
    have : i ≠ k.tasks.length := fun e => hc (.inl (by rw [e]))
    show i < k.tasks.length
    omega
  | lp i =>
    have hi : i < (k.tasks ++ [newT x]).length := hcl
    have : i ≠ k.tasks.length := fun e => hc (.inr (.inl (by rw [e])))
    show i < k.tasks.length
    omega
  | o i =>
    obtain ⟨hi, hi2⟩ := hcl
    have hi : i < (k.tasks ++ [newT x]).length := hi
    have hne : i ≠ k.tasks.length := fun e => hc (.inr (.inr (.inl (by rw [e]))))
    have hi' : i < k.tasks.length := by omega
    rw [kT_app hi'] at hi2
    exact ⟨hi', hi2⟩
  | l y => exact ⟨hcl.1, by rw [← over_nil (L := L) (op := fp) (fc (by simp))]; exact hcl.2⟩
  | sa => show L.nil .sa = false; rw [← over_nil (L := L) (op := fp) (fc (by simp))]; exact hcl
  | ma => show L.nil .ma = false; rw [← over_nil (L := L) (op := fp) (fc (by simp))]; exact hcl
  | qa => show L.nil .qa = false; rw [← over_nil (L := L) (op := fp) (fc (by simp))]; exact hcl
  | out => show L.nil .out = false; rw [← over_nil (L := L) (op := fp) (fc (by simp))]; exact hcl
  | ta => exact absurd (.inr (.inr (.inr (.inl rfl)))) hc
  | ker => trivial
  | s i => exact hcl
  | m i => exact hcl
  | q i => exact hcl
 ·have q1 : c ≠ .t k.tasks.length := fun e => hc (.inl e)
  have q2 : c ≠ .lp k.tasks.length := fun e => hc (.inr (.inl e))
  have q3 : c ≠ .o k.tasks.length := fun e => hc (.inr (.inr (.inl e)))
  have q4 : c ≠ .ta := fun e => hc (.inr (.inr (.inr (.inl e))))
  have q5 : c ≠ .ker := fun e => hc (.inr (.inr (.inr (.inr e))))
  have fc := fN c q1 q2 q3 q4
  refine ⟨over_b fc, ?_, fun ob hob2 => ?_⟩
  ·rw [zk _ _ _ _ (fun e => q5 (h.apart c .ker hcl trivial e))]
   exact hkeep _ (h.lt hcl) (fun hn e => q4 (h.apart c .ta hcl hn e))
  ·have el : ∀ y, (L.over fo fp).hd (.l y) (k.l y).length = L.hd (.l y) (k.l y).length := fun y => over_hd (fN _ (by simp) (by simp) (by simp) (by simp)) _
   have hl2 : ∀ y, ({ k with tasks := k.tasks ++ [newT x] } : Kn.K).l y = k.l y := fun _ => rfl
   cases c with
   | ker => exact absurd rfl q5
   | ta => exact absurd rfl q4
   | t i =>
     have hi : i < k.tasks.length := hcl
     show ob = _
     have e1 : taskCells { k with tasks := k.tasks ++ [newT x] } (L.over fo fp) i = taskCells k L i := by
      have ec : (L.over fo fp).cap (.o i) = L.cap (.o i) := over_cap (fN _ (by simp) (by simp) (by simp; omega) (by simp))
      have eb : (L.over fo fp).b (.lp i) = L.b (.lp i) := over_b (fN _ (by simp) (by simp; omega) (by simp) (by simp))
      have ep : (L.over fo fp).opA i = L.opA i := by show fp i = _; rw [hfp]; simp; omega
      unfold taskCells
      rw [kT_app hi, hon, ec, eb, ep]
     rw [e1]
     exact hob2
   | lp i =>
     have hi : i < k.tasks.length := hcl
     show LoopsAre _ _
     rw [kT_app hi]
     exact hob2
   | o i =>
     have hi : i < k.tasks.length := hcl.1
     obtain ⟨p1, cur, p2, p3⟩ := hob2
     refine ⟨?_, cur, p2, ?_⟩
     ·rw [over_b fc]
      show fp i = _
      rw [hfp]
      simp only []
      rw [if_neg (by omega)]
      exact p1
     ·rw [kT_app hi]
      exact p3
   | s i =>
     show ob = _
     simp only [hl2, el]
     exact hob2
   | m i =>
     show ob = _
     simp only [hl2, el]
     exact hob2
   | q i =>
     show ob = _
     simp only [hl2, el]
     exact hob2
   | l y =>
     show ListIs ob _ _ _
     rw [over_off fc, over_cap fc]
     exact hob2
   | out =>
     obtain ⟨p1, cur, p2⟩ := hob2
     refine ⟨by rw [over_off fc]; exact p1, cur, ?_⟩
     rw [over_cap fc]
     exact p2
   | sa =>
     obtain ⟨p1, p2⟩ := hob2
     refine ⟨by rw [over_off fc]; exact p1, ?_⟩
     show Ptrs ob 80 k.sems.length _ _
     rw [over_cap fc]
     obtain ⟨cur, a1, a2, a3, a4, a5⟩ := p2
     refine ⟨cur, a1, a2, a3, a4, fun i hi => ?_⟩
     show cur[i]? = some ((L.over fo fp).ptr (.s i) 0)
     rw [over_ptr (fN (.s i) (by simp) (by simp) (by simp) (by simp))]
     exact a5 i hi
   | ma =>
     obtain ⟨p1, p2⟩ := hob2
     refine ⟨by rw [over_off fc]; exact p1, ?_⟩
     show Ptrs ob 83 k.owner.length _ _
     rw [over_cap fc]
     obtain ⟨cur, a1, a2, a3, a4, a5⟩ := p2
     refine ⟨cur, a1, a2, a3, a4, fun i hi => ?_⟩
     show cur[i]? = some ((L.over fo fp).ptr (.m i) 0)
     rw [over_ptr (fN (.m i) (by simp) (by simp) (by simp) (by simp))]
     exact a5 i hi
   | qa =>
     obtain ⟨p1, p2⟩ := hob2
     refine ⟨by rw [over_off fc]; exact p1, ?_⟩
     show Ptrs ob 86 k.size.length _ _
     rw [over_cap fc]
     obtain ⟨cur, a1, a2, a3, a4, a5⟩ := p2
     refine ⟨cur, a1, a2, a3, a4, fun i hi => ?_⟩
     show cur[i]? = some ((L.over fo fp).ptr (.q i) 0)
     rw [over_ptr (fN (.q i) (by simp) (by simp) (by simp) (by simp))]
     exact a5 i hi
 ·rcases hc with rfl | rfl | rfl | rfl | rfl
  ·rw [bT]
   refine ⟨?_, by omega, .inl hgt⟩
   rw [zk _ _ _ _ (hkf gt hgt), hfresh gt hgt hgt']
   have e1 : taskCells { k with tasks := k.tasks ++ [newT x] } (L.over fo fp) k.tasks.length = #[.slice A x.ops.length cO, .int .i64 x.prio, .int .i64 x.prio, .int .i64 0, .int .i64 0, .int .i64 0, .map (some gm), .nilIface, .int .i64 0, .int .i64 0] := by
    have ec : (L.over fo fp).cap (.o k.tasks.length) = cO := by simp [Lay.over, fO]
    have ep : (L.over fo fp).opA k.tasks.length = A := by show fp _ = _; rw [hfp]; simp
    unfold taskCells
    rw [kT_new, ec, bL, ep]
    rfl
   show _ = _
   rw [e1]
   exact hwt
  ·rw [bL]
   refine ⟨?_, by omega, .inl hgm⟩
   rw [zk _ _ _ _ (hkf gm hgm), hfresh gm hgm hgm', hwm]
   show LoopsAre _ _
   rw [kT_new]
   refine ⟨W.alloc (.map #[] 0), W.heap.size, 0, .map [], World.ownsMap_made _ _ _ _, heap_alloc_new W _, ⟨[], [], rfl, rfl, List.nodup_nil, by simp⟩, fun j hj => ?_⟩
   show DataW.lit (.int .i64 0) = _
   congr 2
   show 0 = (x.ops.map fun _ => (0 : Int)).getD j 0
   rw [zd, List.getElem?_map]
   rcases x.ops[j]? with _ | o <;> rfl
  ·obtain ⟨_, hn⟩ := hcl
   rw [kT_new] at hn
   obtain ⟨e1, h1, h2, h3, h4, cur, h5, h6⟩ := hOo hn
   rw [bO]
   refine ⟨?_, by omega, .inl h1⟩
   rw [zk _ _ _ _ (hkf go h1), hfresh go h1 h2]
   refine ⟨?_, cur, h5, ?_⟩
   ·rw [bO]
    show fp _ = _
    rw [hfp]
    simp [e1]
   ·rw [kT_new]
    exact h6
  ·rw [bA]
   refine ⟨?_, hBg, ?_⟩
   ·rw [zk _ _ _ _ hgk]
    refine ⟨by simp [Lay.over, fA], ?_⟩
    show Ptrs _ 69 (k.tasks ++ [newT x]).length _ _
    rw [hlenN]
    have ec : (L.over fo fp).cap .ta = cap := by simp [Lay.over, fA]
    rw [ec]
    exact hP
   ·rcases hat with q | q
    ·obtain ⟨e1, e2⟩ := hob g q
     exact .inr ⟨e1, e2⟩
    ·exact .inl (by omega)
  ·rw [hkerb]
   refine ⟨?_, h.low .ker trivial, .inr ⟨trivial, rfl⟩⟩
   have ehd : (L.over fo fp).hd .ta (k.tasks ++ [newT x]).length = .slice (some ⟨g, 0, none⟩) (k.tasks.length + 1) cap := by
    rw [hlenN]
    simp [Lay.hd, Lay.over, fA]
   have e4 : kerCells { k with tasks := k.tasks ++ [newT x] } (L.over fo fp) = (kerCells k L).setIfInBounds 0 (.slice (some ⟨g, 0, none⟩) (k.tasks.length + 1) cap) := by
    refine ker_same (ker_at 0 (.inl rfl) (.inr (over_hd (fN _ (by simp) (by simp) (by simp) (by simp)) _)) (.inr (over_hd (fN _ (by simp) (by simp) (by simp) (by simp)) _)) (.inr (over_hd (fN _ (by simp) (by simp) (by simp) (by simp)) _)) (fun p _ => over_hd (fN _ (by simp) (by simp) (by simp) (by simp)) _) (over_hd (fN _ (by simp) (by simp) (by simp) (by simp)) _) rfl rfl) ?_ (by omega)
    show some ((L.over fo fp).hd .ta (k.tasks ++ [newT x]).length) = _
    rw [ehd]
   show _ = _
   rw [e4]
   exact Whole.put (w := w5) (h.ker.same (hkeep _ (h.lt (c := .ker) trivial) (fun hn e => by cases h.apart .ker .ta trivial hn e))) 0 _
 ·have hol : c = .o k.tasks.length → W.heap.size ≤ go ∧ go < W1.heap.size ∧ go ≠ gt ∧ go ≠ gm := fun e => by
   subst e
   obtain ⟨_, hn⟩ := hcl
   rw [kT_new] at hn
   obtain ⟨_, h1, h2, h3, h4, _⟩ := hOo hn
   exact ⟨h1, h2, h3, h4⟩
  have hol' : c' = .o k.tasks.length → W.heap.size ≤ go ∧ go < W1.heap.size ∧ go ≠ gt ∧ go ≠ gm := fun e => by
   subst e
   obtain ⟨_, hn⟩ := hcl'
   rw [kT_new] at hn
   obtain ⟨_, h1, h2, h3, h4, _⟩ := hOo hn
   exact ⟨h1, h2, h3, h4⟩
  have g1 := hgf gt hgt hgt'
  have g2 := hgf gm hgm hgm'
  have k1 := hkf gt hgt
  have k2 := hkf gm hgm
  rcases hc with rfl | rfl | rfl | rfl | rfl <;> rcases hc' with rfl | rfl | rfl | rfl | rfl
  all_goals first | rfl | skip
  all_goals
   simp only [bT, bL, bO, bA, hkerb] at e
  all_goals first
   | omega
   | (obtain ⟨o1, o2, o3, o4⟩ := hol rfl; have g3 := hgf go o1 o2; have k3 := hkf go o1; omega)
   | (obtain ⟨o1, o2, o3, o4⟩ := hol' rfl; have g3 := hgf go o1 o2; have k3 := hkf go o1; omega)
 ·obtain ⟨n1, n2, n3, n4, n5, n6⟩ := h.nil
  refine ⟨fun q => by simp [Lay.over, fA] at q, fun q => n2 (by rw [← over_nil (L := L) (op := fp) (fN .sa (by simp) (by simp) (by simp) (by simp))]; exact q), fun q => n3 (by rw [← over_nil (L := L) (op := fp) (fN .ma (by simp) (by simp) (by simp) (by simp))]; exact q), fun q => n4 (by rw [← over_nil (L := L) (op := fp) (fN .qa (by simp) (by simp) (by simp) (by simp))]; exact q), fun q => n5 (by rw [← over_nil (L := L) (op := fp) (fN .out (by simp) (by simp) (by simp) (by simp))]; exact q), fun y q => n6 y (by rw [← over_nil (L := L) (op := fp) (fN (.l y) (by simp) (by simp) (by simp) (by simp))]; exact q)⟩
end Go.Proofs.Ytncbgnpoffolcaa
