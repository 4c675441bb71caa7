/-
  A table in memory, to be read; may an operation be at a place?
-/
import Derived.Test.YtadcfedjmofjjaaDoorC1
import Derived.Test.YtadcfedjmofjjaaDoorN4
namespace Go.Proofs.YtadcfedjmofjjaaDoor
open Go.RowKit
def opC (o : Tk.Op) : List Value := [.int .i64 o.kind, .int .i64 o.a, .int .i64 o.b]
def opsC (l : List Tk.Op) : List Value := l.flatMap opC
theorem opsC_len (l : List Tk.Op) : (opsC l).length = l.length * 3 := flat_len (f := opC) (n := 3) (fun _ => rfl) l
theorem opsC_at (l : List Tk.Op) (k j : Nat) (hk : k < l.length) (hj : j < 3) : (opsC l)[k * 3 + j]? = (opC l[k])[j]? := flat_at (f := opC) (n := 3) (fun _ => rfl) l k j hk hj
/-- A table that can be read, below block B. -/
structure TabRd (w : World) (B : Nat) (A1 A2 A3 : Option Addr) (t : Tk.Table) : Prop where
  task : ∀ i (h : i < t.tasks.length), ∃ ad A c, A1 = some ad ∧ ad.block < B ∧ w.cell? (ad.add (i * 2)) = some (.int .i64 t.tasks[i].prio) ∧ w.cell? (ad.add (i * 2 + 1)) = some (.slice A t.tasks[i].ops.length c) ∧
    Reads w B 3 A t.tasks[i].ops.length (opsC t.tasks[i].ops) ∧ t.tasks[i].ops.length ≤ maxLen
  sems : Reads w B 1 A2 t.sems.length (intV t.sems)
  queues : Reads w B 1 A3 t.queues.length (intV t.queues)
  tasksL : t.tasks.length ≤ maxLen
  semsL : t.sems.length ≤ maxLen
  queuesL : t.queues.length ≤ maxLen
section
variable {w w' : World} {B B' : Nat} {A1 A2 A3 : Option Addr} {t : Tk.Table}
theorem TabRd.keep (h : TabRd w B A1 A2 A3 t) (hk : ∀ p : Addr, p.block < B → w'.cell? p = w.cell? p) : TabRd w' B A1 A2 A3 t :=
  ⟨fun i hi => by
    obtain ⟨ad, A, c, e, hb, h1, h2, h3, h4⟩ := h.task i hi
    exact ⟨ad, A, c, e, hb, (hk _ (by rw [block_of_add]; exact hb)).trans h1, (hk _ (by rw [block_of_add]; exact hb)).trans h2, h3.keep hk, h4⟩,
    h.sems.keep hk, h.queues.keep hk, h.tasksL, h.semsL, h.queuesL⟩
theorem TabRd.more (h : TabRd w B A1 A2 A3 t) (hB : B ≤ B') : TabRd w B' A1 A2 A3 t :=
  ⟨fun i hi => by
    obtain ⟨ad, A, c, e, hb, h1, h2, h3, h4⟩ := h.task i hi
    exact ⟨ad, A, c, e, by omega, h1, h2, h3.more hB, h4⟩,
    h.sems.more hB, h.queues.more hB, h.tasksL, h.semsL, h.queuesL⟩
theorem TabRd.below (h : TabRd w B A1 A2 A3 t) (hb : Below B' w w') (hB : B ≤ B') : TabRd w' B A1 A2 A3 t := h.keep fun _ hp => hb.cell (by omega)
end
theorem Reads.op {w : World} {B : Nat} {A : Option Addr} {l : List Tk.Op} (h : Reads w B 3 A l.length (opsC l)) {k : Nat} (hk : k < l.length) :
    ∃ ad, A = some ad ∧ ad.block < B ∧ w.cell? (ad.add (k * 3)) = some (.int .i64 l[k].kind) ∧ w.cell? (ad.add (k * 3 + 1)) = some (.int .i64 l[k].a) ∧ w.cell? (ad.add (k * 3 + 2)) = some (.int .i64 l[k].b) := by
  obtain ⟨ad, e, hb, hc⟩ := h.2 (by omega)
  exact ⟨ad, e, hb, hc _ _ (opsC_at l k 0 hk (by omega)), hc _ _ (opsC_at l k 1 hk (by omega)), hc _ _ (opsC_at l k 2 hk (by omega))⟩
theorem Reads.int {w : World} {B : Nat} {A : Option Addr} {l : List Int} (h : Reads w B 1 A l.length (intV l)) {k : Nat} (hk : k < l.length) :
    ∃ ad, A = some ad ∧ ad.block < B ∧ w.cell? (ad.add k) = some (.int .i64 l[k]) := by
  obtain ⟨ad, u, e, hb, hu, hc⟩ := h.at_ hk
  refine ⟨ad, e, hb, ?_⟩
  rw [hc]
  simp [intV, hk] at hu
  rw [hu]
/-! What may be. -/
def within (n lo hi : Int) : Bool := decide (lo ≤ n ∧ n ≤ hi)
theorem within_any (n lo hi : Int) (w : World) : Calls Tryd.prog 31 #[.int .i64 n, .int .i64 lo, .int .i64 hi] w fun e w' => e = .returned (.bool (within n lo hi)) ∧ w = w' := by
  go_enter Tryd.func31, Tryd.ntmps31
  go_wp2
  all_goals
    go_ret
    exact ⟨ret_bool (by rw [Bool.eq_iff_iff]; simp [within]; try omega), rfl⟩
/-- The greatest a of an operation at a place. -/
def mostA (k : Nat) (hk : k < 15) (i : Int) : Int := if k = 10 then i - 1 else (shapes[k]'hk).a
theorem bounds_k (k : Nat) (hk : k < 15) (i : Int) : Tk.bounds k i = some (mostA k hk i, (shapes[k]'hk).low, (shapes[k]'hk).b) := by
  have hk' : k = 0 ∨ k = 1 ∨ k = 2 ∨ k = 3 ∨ k = 4 ∨ k = 5 ∨ k = 6 ∨ k = 7 ∨ k = 8 ∨ k = 9 ∨ k = 10 ∨ k = 11 ∨ k = 12 ∨ k = 13 ∨ k = 14 := by omega
  rcases hk' with rfl | rfl | rfl | rfl | rfl | rfl | rfl | rfl | rfl | rfl | rfl | rfl | rfl | rfl | rfl <;> rfl
theorem bounds_none (k i : Int) (hk : k < 0 ∨ 15 ≤ k) : Tk.bounds k i = none := by
  unfold Tk.bounds
  repeat rw [if_neg (by omega)]
theorem fits_k (o : Tk.Op) (k : Nat) (hk : k < 15) (h : o.kind = k) (i : Int) : o.fits i = (within o.a 0 (mostA k hk i) && within o.b (shapes[k]'hk).low (shapes[k]'hk).b) := by
  unfold Tk.Op.fits
  rw [h, bounds_k k hk]
  unfold within
  rw [Bool.eq_iff_iff]
  simp
  omega
theorem fits_none (o : Tk.Op) (i : Int) (hk : o.kind < 0 ∨ 15 ≤ o.kind) : o.fits i = false := by
  unfold Tk.Op.fits
  rw [bounds_none _ _ hk]
set_option maxRecDepth 100000 in
set_option maxHeartbeats 4000000 in
theorem right_any (o : Tk.Op) (i : Nat) (hi : (i : Int) ≤ maxLen) (w : World) :
    Calls Tryd.prog 32 #[.agg #[.int .i64 o.kind, .int .i64 o.a, .int .i64 o.b], .int .i64 i] w fun e w' => e = .returned (.bool (o.fits i)) ∧ Below w.heap.size w w' := by
  unfold maxLen at hi
  by_cases hk : o.kind < 0 ∨ 15 ≤ o.kind
  · have E := Lib.hid (fits_none o i hk)
    obtain ⟨k, a, b⟩ := o
    have e10 : (k == 10) = false := by
      simp only [beq_eq_false_iff_ne]
      rintro rfl
      have hk' : (10 : Int) < 0 ∨ (15 : Int) ≤ 10 := hk
      omega
    have hk' : k < 0 ∨ 15 ≤ k := hk
    clear hk
    have HK := Lib.hid hk'
    clear hk'
    go_enter Tryd.func32, Tryd.ntmps32
    go_wp2_with fail
    refine (shape_none _ k HK.out).mono ?_
    rintro e w1 ⟨rfl, b1⟩
    have hc := fun o => b1.cell (p := ⟨w.heap.size, o, none⟩) (by simp)
    have h0 := hc 0
    have h1 := hc 1
    have h2 := hc 2
    have hz := b1.size
    simp at h0 h1 h2 hz
    have hlt : w.heap.size < w1.heap.size := by omega
    have hne : ¬ w.heap.size = w1.heap.size := by omega
    clear hc
    unfold shapeV strV
    go_wp2_with fail
    go_ret
    rw [E.out]
    exact ⟨rfl, ((((Below.refl _ _).alloc (Nat.le_refl _) _).trans (b1.mono (by simp)))).alloc (by omega) _⟩
  · obtain ⟨k, hkk⟩ : ∃ k : Nat, o.kind = k := ⟨o.kind.toNat, by omega⟩
    have hk15 : k < 15 := by omega
    have E := Lib.hid (fits_k o k hk15 hkk i)
    obtain ⟨S, hS⟩ : ∃ S, S = shapes[k]'hk15 := ⟨_, rfl⟩
    obtain ⟨kd, a, b⟩ := o
    have hkd : kd = k := hkk
    subst hkd
    rw [← hS] at E
    have HS := Lib.hid hS
    have hm : Hid (mostA k hk15 i = if k = 10 then (i : Int) - 1 else S.a) := by rw [hS]; rfl
    clear hS hkk hk
    obtain ⟨nm, parts, low, ma, mb⟩ := S
    by_cases h10 : k = 10
    · have e10 : ((k : Int) == 10) = true := by simp; omega
      have hm2 : Hid (mostA k hk15 i = (i : Int) - 1) := by show _ = _; rw [hm.out, if_pos h10]
      have E2 : Hid ((⟨k, a, b⟩ : Tk.Op).fits i = (within a 0 ((i : Int) - 1) && within b low mb)) := by
        show _ = _
        rw [E.out, hm2.out]
      clear h10 hm E
      go_enter Tryd.func32, Tryd.ntmps32
      go_wp2_with fail
      refine (shape_any _ k hk15).mono ?_
      rintro e w1 ⟨rfl, b1⟩
      rw [← HS.out]
      unfold shapeV strV
      have hc := fun o => b1.cell (p := ⟨w.heap.size, o, none⟩) (by simp)
      have h0 := hc 0
      have h1 := hc 1
      have h2 := hc 2
      have hz := b1.size
      simp at h0 h1 h2 hz
      have hlt : w.heap.size < w1.heap.size := by omega
      have hne : ¬ w.heap.size = w1.heap.size := by omega
      clear hc
      rcases hb1 : within a 0 ((i : Int) - 1) with _ | _
      · have HB1 := Lib.hid hb1
        clear hb1
        go_wp2_with fail
        refine (within_any _ _ _ _).mono ?_
        rintro e w' ⟨rfl, rfl⟩
        rw [HB1.out]
        go_wp2_with fail
        go_ret
        rw [E2.out, HB1.out]
        refine ⟨rfl, ?_⟩
        repeat (first | exact (((Below.refl _ _).alloc (Nat.le_refl _) _).trans (b1.mono (by simp))).alloc (by omega) _ | exact ((((Below.refl _ _).alloc (Nat.le_refl _) _).trans (b1.mono (by simp))).alloc (by omega) _).setCell (by omega) _)
      · have HB1 := Lib.hid hb1
        clear hb1
        go_wp2_with fail
        refine (within_any _ _ _ _).mono ?_
        rintro e w' ⟨rfl, rfl⟩
        rw [HB1.out]
        go_wp2_with fail
        refine (within_any _ _ _ _).mono ?_
        rintro e w' ⟨rfl, rfl⟩
        go_wp2_with fail
        go_ret
        rw [E2.out, HB1.out]
        refine ⟨rfl, ?_⟩
        repeat (first | exact (((Below.refl _ _).alloc (Nat.le_refl _) _).trans (b1.mono (by simp))).alloc (by omega) _ | exact ((((Below.refl _ _).alloc (Nat.le_refl _) _).trans (b1.mono (by simp))).alloc (by omega) _).setCell (by omega) _)
    · have e10 : ((k : Int) == 10) = false := by simp; omega
      have hm2 : Hid (mostA k hk15 i = ma) := by show _ = _; rw [hm.out, if_neg h10]
      have E2 : Hid ((⟨k, a, b⟩ : Tk.Op).fits i = (within a 0 (ma) && within b low mb)) := by
        show _ = _
        rw [E.out, hm2.out]
      clear h10 hm E
      go_enter Tryd.func32, Tryd.ntmps32
      go_wp2_with fail
      refine (shape_any _ k hk15).mono ?_
      rintro e w1 ⟨rfl, b1⟩
      rw [← HS.out]
      unfold shapeV strV
      have hc := fun o => b1.cell (p := ⟨w.heap.size, o, none⟩) (by simp)
      have h0 := hc 0
      have h1 := hc 1
      have h2 := hc 2
      have hz := b1.size
      simp at h0 h1 h2 hz
      have hlt : w.heap.size < w1.heap.size := by omega
      have hne : ¬ w.heap.size = w1.heap.size := by omega
      clear hc
      rcases hb1 : within a 0 (ma) with _ | _
      · have HB1 := Lib.hid hb1
        clear hb1
        go_wp2_with fail
        refine (within_any _ _ _ _).mono ?_
        rintro e w' ⟨rfl, rfl⟩
        rw [HB1.out]
        go_wp2_with fail
        go_ret
        rw [E2.out, HB1.out]
        refine ⟨rfl, ?_⟩
        repeat (first | exact (((Below.refl _ _).alloc (Nat.le_refl _) _).trans (b1.mono (by simp))).alloc (by omega) _ | exact ((((Below.refl _ _).alloc (Nat.le_refl _) _).trans (b1.mono (by simp))).alloc (by omega) _).setCell (by omega) _)
      · have HB1 := Lib.hid hb1
        clear hb1
        go_wp2_with fail
        refine (within_any _ _ _ _).mono ?_
        rintro e w' ⟨rfl, rfl⟩
        rw [HB1.out]
        go_wp2_with fail
        refine (within_any _ _ _ _).mono ?_
        rintro e w' ⟨rfl, rfl⟩
        go_wp2_with fail
        go_ret
        rw [E2.out, HB1.out]
        refine ⟨rfl, ?_⟩
        repeat (first | exact (((Below.refl _ _).alloc (Nat.le_refl _) _).trans (b1.mono (by simp))).alloc (by omega) _ | exact ((((Below.refl _ _).alloc (Nat.le_refl _) _).trans (b1.mono (by simp))).alloc (by omega) _).setCell (by omega) _)
end Go.Proofs.YtadcfedjmofjjaaDoor
