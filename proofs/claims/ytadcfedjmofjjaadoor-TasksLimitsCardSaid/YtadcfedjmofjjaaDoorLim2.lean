/-
  TasksLimits: the walk of the law.
-/
import Derived.Test.YtadcfedjmofjjaaDoorLim
import Derived.Deep.CutBlock
namespace Go.Proofs.YtadcfedjmofjjaaDoor
open Go.RowKit
/-- What the switch leaves. -/
def LimMid (w1 W : World) (v : Value) : Prop := ∃ s m q pr k a b, Lim w1 W s m q pr k a b ∧ v = .bool (limT s m q pr k a b).fits
theorem lim_made (w1 : World) : Lim w1 (((((w1.alloc (.cells #[.int .i64 1] 3)).alloc (.cells #[.int .i64 1] 3)).alloc (.cells #[.int .i64 1, .int .i64 0, .int .i64 0, .int .i64 0, .int .i64 65, .int .i64 0] 34)).alloc (.cells #[.int .i64 1, .slice (some ⟨w1.heap.size + 2, 0, none⟩) 2 2] 32)).alloc (.cells #[.slice (some ⟨w1.heap.size + 3, 0, none⟩) 1 1, .slice (some ⟨w1.heap.size, 0, none⟩) 1 1, .int .i64 1, .slice (some ⟨w1.heap.size + 1, 0, none⟩) 1 1] 26)) 1 1 1 1 0 65 0 := by
  refine ⟨((((Whole.made w1 3 _).alloc _).alloc _).alloc _).alloc _, ?_, ?_, ?_, ?_, ?_⟩
  · have h := Whole.made (w1.alloc (.cells #[.int .i64 1] 3)) 3 #[.int .i64 1]
    rw [show (w1.alloc (.cells #[.int .i64 1] 3)).heap.size = w1.heap.size + 1 by simp] at h
    exact ((h.alloc _).alloc _).alloc _
  · have h := Whole.made ((w1.alloc (.cells #[.int .i64 1] 3)).alloc (.cells #[.int .i64 1] 3)) 34 #[.int .i64 1, .int .i64 0, .int .i64 0, .int .i64 0, .int .i64 65, .int .i64 0]
    rw [show ((w1.alloc (.cells #[.int .i64 1] 3)).alloc (.cells #[.int .i64 1] 3)).heap.size = w1.heap.size + 2 by simp] at h
    exact (h.alloc _).alloc _
  · have h := Whole.made (((w1.alloc (.cells #[.int .i64 1] 3)).alloc (.cells #[.int .i64 1] 3)).alloc (.cells #[.int .i64 1, .int .i64 0, .int .i64 0, .int .i64 0, .int .i64 65, .int .i64 0] 34)) 32 #[.int .i64 1, .slice (some ⟨w1.heap.size + 2, 0, none⟩) 2 2]
    rw [show (((w1.alloc (.cells #[.int .i64 1] 3)).alloc (.cells #[.int .i64 1] 3)).alloc (.cells #[.int .i64 1, .int .i64 0, .int .i64 0, .int .i64 0, .int .i64 65, .int .i64 0] 34)).heap.size = w1.heap.size + 3 by simp] at h
    exact h.alloc _
  · have h := Whole.made ((((w1.alloc (.cells #[.int .i64 1] 3)).alloc (.cells #[.int .i64 1] 3)).alloc (.cells #[.int .i64 1, .int .i64 0, .int .i64 0, .int .i64 0, .int .i64 65, .int .i64 0] 34)).alloc (.cells #[.int .i64 1, .slice (some ⟨w1.heap.size + 2, 0, none⟩) 2 2] 32)) 26 #[.slice (some ⟨w1.heap.size + 3, 0, none⟩) 1 1, .slice (some ⟨w1.heap.size, 0, none⟩) 1 1, .int .i64 1, .slice (some ⟨w1.heap.size + 1, 0, none⟩) 1 1]
    rw [show ((((w1.alloc (.cells #[.int .i64 1] 3)).alloc (.cells #[.int .i64 1] 3)).alloc (.cells #[.int .i64 1, .int .i64 0, .int .i64 0, .int .i64 0, .int .i64 65, .int .i64 0] 34)).alloc (.cells #[.int .i64 1, .slice (some ⟨w1.heap.size + 2, 0, none⟩) 2 2] 32)).heap.size = w1.heap.size + 4 by simp] at h
    exact h
  · exact (((((Below.refl _ _).alloc (Nat.le_refl _) _).alloc (by simp) _).alloc (by simp; omega) _).alloc (by simp; omega) _).alloc (by simp; omega) _
section
variable {w1 W : World} {s m q pr k a b : Int}
theorem Lim.putSems (h : Lim w1 W s m q pr k a b) (n : Int) : Lim w1 (W.setCell ⟨w1.heap.size, 0, none⟩ (.int .i64 n)) n m q pr k a b :=
  ⟨h.sems.put 0 _, h.queues.far (by simp) _, h.ops.far (by simp) _, h.tasks.far (by simp) _, h.tab.far (by simp) _, h.below.setCell (p := ⟨w1.heap.size, 0, none⟩) (Nat.le_refl _) _⟩
theorem Lim.putQueues (h : Lim w1 W s m q pr k a b) (n : Int) : Lim w1 (W.setCell ⟨w1.heap.size + 1, 0, none⟩ (.int .i64 n)) s m n pr k a b :=
  ⟨h.sems.far (by simp) _, h.queues.put 0 _, h.ops.far (by simp) _, h.tasks.far (by simp) _, h.tab.far (by simp) _, h.below.setCell (p := ⟨w1.heap.size + 1, 0, none⟩) (Nat.le_add_right _ 1) _⟩
theorem Lim.putPrio (h : Lim w1 W s m q pr k a b) (n : Int) : Lim w1 (W.setCell ⟨w1.heap.size + 3, 0, none⟩ (.int .i64 n)) s m q n k a b :=
  ⟨h.sems.far (by simp) _, h.queues.far (by simp) _, h.ops.far (by simp) _, h.tasks.put 0 _, h.tab.far (by simp) _, h.below.setCell (p := ⟨w1.heap.size + 3, 0, none⟩) (Nat.le_add_right _ 3) _⟩
theorem Lim.putMutexes (h : Lim w1 W s m q pr k a b) (n : Int) : Lim w1 (W.setCell ⟨w1.heap.size + 4, 2, none⟩ (.int .i64 n)) s n q pr k a b :=
  ⟨h.sems.far (by simp) _, h.queues.far (by simp) _, h.ops.far (by simp) _, h.tasks.far (by simp) _, h.tab.put 2 _, h.below.setCell (p := ⟨w1.heap.size + 4, 2, none⟩) (Nat.le_add_right _ 4) _⟩
end
theorem text_empty {t : Tk.Table} (h : t.fits = false) : (⟨(Tk.text t).toArray⟩ : ByteArray) = ⟨#[]⟩ := by
  unfold Tk.text
  rw [h]
  rfl
theorem text_full {t : Tk.Table} (h : t.fits = true) : ¬ (⟨(Tk.text t).toArray⟩ : ByteArray).toList = [] := by
  intro e
  have e2 : Tk.text t = [] := by rw [ByteArray.toList_eq] at e; exact e
  unfold Tk.text at e2
  rw [h, if_pos rfl, textLines_head, unlines_app] at e2
  simp [headLines, Tk.unlines] at e2
theorem kindFits {n : Int} (h0 : 0 ≤ n) (h1 : n ≤ 14) (h2 : n ≠ 10) : (⟨n, 0, 0⟩ : Tk.Op).fits 1 = true := by
  have hc : n = 0 ∨ n = 1 ∨ n = 2 ∨ n = 3 ∨ n = 4 ∨ n = 5 ∨ n = 6 ∨ n = 7 ∨ n = 8 ∨ n = 9 ∨ n = 11 ∨ n = 12 ∨ n = 13 ∨ n = 14 := by omega
  rcases hc with rfl | rfl | rfl | rfl | rfl | rfl | rfl | rfl | rfl | rfl | rfl | rfl | rfl | rfl <;> decide
theorem kindNot {n : Int} (h : n < 0 ∨ 14 < n) : (⟨n, 0, 0⟩ : Tk.Op).fits 1 = false := by
  have e : Tk.bounds n 1 = none := by
    unfold Tk.bounds
    repeat (first | rw [if_neg (by omega)])
  unfold Tk.Op.fits
  rw [e]
theorem eqFits9 (n : Int) : (n == 0) = (limT 1 1 1 1 10 n 1).fits := by
  rw [limFits]
  by_cases h : n = 0
  · subst h
    decide
  · have e : (⟨10, n, 1⟩ : Tk.Op).fits 1 = false := decide_eq_false (fun hh => h (by have q1 : 0 ≤ n := hh.1; have q2 : n ≤ 1 - 1 := hh.2.1; omega))
    rw [e]
    simp [h]
theorem eqFits12 (n : Int) : (n == 0) = (limT 1 1 1 1 14 n 0).fits := by
  rw [limFits]
  by_cases h : n = 0
  · subst h
    decide
  · have e : (⟨14, n, 0⟩ : Tk.Op).fits 1 = false := decide_eq_false (fun hh => h (by have q1 : 0 ≤ n := hh.1; have q2 : n ≤ 0 := hh.2.1; omega))
    rw [e]
    simp [h]
theorem kindLaw {n : Int} (h0 : 0 ≤ n) (h1 : n ≤ 14) : (n != 10) = (limT 1 1 1 1 n 0 0).fits := by
  rw [limFits]
  by_cases h : n = 10
  · subst h
    decide
  · rw [kindFits h0 h1 h]
    simp [h]
set_option maxRecDepth 100000 in
set_option maxHeartbeats 8000000 in
theorem tasksLimits_any (which n : Int) (w : World) (m0 : Int) (hm : w.cell? ⟨0, 0, none⟩ = some (.int .i64 m0)) (hp : Pow w) : Calls Tryd.prog 6 #[.int .i64 which, .int .i64 n] w fun e w' => e = .returned (.bool true) ∧ Below w.heap.size w w' := by
  have HM := Lib.hid hm
  have HP := Lib.hid hp
  clear hm hp
  go_enter Tryd.func6, Tryd.ntmps6
  go_wp2_with fail
  refine (alive_any w m0 HM.out).mono ?_
  rintro e w1 ⟨rfl, hb1⟩
  have hz1 := hb1.size
  have HB1 := Lib.hid hb1
  clear hb1
  go_upto_block 0 with fail
  refine (fun h => h _ (lim_made w1) : (∀ W, Lim w1 W 1 1 1 1 0 65 0 → Code.wp Tryd.prog _ _ _ W) → _) ?_
  intro W hL
  have HL := Lib.hid hL
  have z1 := hL.sems.lt
  have c0 : W.cell? ⟨w1.heap.size, 0, none⟩ = _ := hL.sems.cell 0
  have c1 : W.cell? ⟨w1.heap.size + 1, 0, none⟩ = _ := hL.queues.cell 0
  have c2 : W.cell? ⟨w1.heap.size + 1 + 1 + 1, 0, none⟩ = _ := hL.tasks.cell 0
  have c3 : W.cell? ⟨w1.heap.size + 1 + 1 + 1 + 1, 0, none⟩ = _ := hL.tab.cell 0
  have c4 : W.cell? ⟨w1.heap.size + 1 + 1 + 1 + 1, 1, none⟩ = _ := hL.tab.cell 1
  have c5 : W.cell? ⟨w1.heap.size + 1 + 1 + 1 + 1, 2, none⟩ = _ := hL.tab.cell 2
  have c6 : W.cell? ⟨w1.heap.size + 1 + 1 + 1 + 1, 3, none⟩ = _ := hL.tab.cell 3
  simp at c0 c1 c2 c3 c4 c5 c6
  have f0 : W.frozen? ⟨w1.heap.size, 0, none⟩ = false := hL.sems.frozen 0
  have f1 : W.frozen? ⟨w1.heap.size + 1, 0, none⟩ = false := hL.queues.frozen 0
  have f2 : W.frozen? ⟨w1.heap.size + 1 + 1 + 1, 0, none⟩ = false := hL.tasks.frozen 0
  have f5 : W.frozen? ⟨w1.heap.size + 1 + 1 + 1 + 1, 2, none⟩ = false := hL.tab.frozen 2
  clear hL

  go_cut [7] (fun v wx => LimMid w1 wx v)
  case first =>
    have hw : which = 0 ∨ which = 1 ∨ which = 2 ∨ which = 3 ∨ which = 4 ∨ which = 5 ∨ which = 6 ∨ which = 7 ∨ which = 8 ∨ which = 9 ∨ which = 10 ∨ which = 11 ∨ which = 12 ∨ which = 13 ∨ (which < 0 ∨ 13 < which) := by omega
    rcases hw with rfl | rfl | rfl | rfl | rfl | rfl | rfl | rfl | rfl | rfl | rfl | rfl | rfl | rfl | hw
    · as_aux_lemma =>
        by_cases h0 : 0 ≤ n
        · go_wp2_with fail
          go_meet
          exact ⟨n, 1, 1, 1, 0, 65, 0, HL.out.putSems n, congrArg Value.bool (by rw [limFits]; simp [Tk.Op.fits, Tk.bounds, h0])⟩
        · go_wp2_with fail
          go_meet
          exact ⟨n, 1, 1, 1, 0, 65, 0, HL.out.putSems n, congrArg Value.bool (by have h4 : ¬ (0 ≤ n) := (by omega); rw [limFits]; simp [Tk.Op.fits, Tk.bounds, h4])⟩
    · as_aux_lemma =>
        by_cases h0 : 0 ≤ n
        · go_wp2_with fail
          go_meet
          exact ⟨1, n, 1, 1, 0, 65, 0, HL.out.putMutexes n, congrArg Value.bool (by rw [limFits]; simp [Tk.Op.fits, Tk.bounds, h0])⟩
        · go_wp2_with fail
          go_meet
          exact ⟨1, n, 1, 1, 0, 65, 0, HL.out.putMutexes n, congrArg Value.bool (by have h4 : ¬ (0 ≤ n) := (by omega); rw [limFits]; simp [Tk.Op.fits, Tk.bounds, h4])⟩
    · as_aux_lemma =>
        by_cases h0 : 1 ≤ n
        · go_wp2_with fail
          go_meet
          exact ⟨1, 1, n, 1, 0, 65, 0, HL.out.putQueues n, congrArg Value.bool (by rw [limFits]; simp [Tk.Op.fits, Tk.bounds, h0])⟩
        · go_wp2_with fail
          go_meet
          exact ⟨1, 1, n, 1, 0, 65, 0, HL.out.putQueues n, congrArg Value.bool (by have h4 : ¬ (1 ≤ n) := (by omega); rw [limFits]; simp [Tk.Op.fits, Tk.bounds, h4])⟩
    · as_aux_lemma =>
        by_cases h0 : 0 ≤ n
        · go_wp2_with fail
          go_meet
          exact ⟨1, 1, 1, n, 0, 65, 0, HL.out.putPrio n, congrArg Value.bool (by rw [limFits]; simp [Tk.Op.fits, Tk.bounds, h0])⟩
        · go_wp2_with fail
          go_meet
          exact ⟨1, 1, 1, n, 0, 65, 0, HL.out.putPrio n, congrArg Value.bool (by have h4 : ¬ (0 ≤ n) := (by omega); rw [limFits]; simp [Tk.Op.fits, Tk.bounds, h4])⟩
    · as_aux_lemma =>
        by_cases h0 : 0 ≤ n
        · go_wp2_with fail
          refine (set_any 0 n 0 HL.out).mono ?_
          rintro e W2 ⟨rfl, hL2⟩
          go_wp2_with fail
          go_meet
          exact ⟨1, 1, 1, 1, 0, n, 0, hL2, congrArg Value.bool (by rw [limFits]; simp [Tk.Op.fits, Tk.bounds, h0])⟩
        · go_wp2_with fail
          refine (set_any 0 n 0 HL.out).mono ?_
          rintro e W2 ⟨rfl, hL2⟩
          go_wp2_with fail
          go_meet
          exact ⟨1, 1, 1, 1, 0, n, 0, hL2, congrArg Value.bool (by have h4 : ¬ (0 ≤ n) := (by omega); rw [limFits]; simp [Tk.Op.fits, Tk.bounds, h4])⟩
    · as_aux_lemma =>
        by_cases h0 : 0 ≤ n
        · go_wp2_with fail
          refine (set_any 2 n 0 HL.out).mono ?_
          rintro e W2 ⟨rfl, hL2⟩
          go_wp2_with fail
          go_meet
          exact ⟨1, 1, 1, 1, 2, n, 0, hL2, congrArg Value.bool (by rw [limFits]; simp [Tk.Op.fits, Tk.bounds, h0])⟩
        · go_wp2_with fail
          refine (set_any 2 n 0 HL.out).mono ?_
          rintro e W2 ⟨rfl, hL2⟩
          go_wp2_with fail
          go_meet
          exact ⟨1, 1, 1, 1, 2, n, 0, hL2, congrArg Value.bool (by have h4 : ¬ (0 ≤ n) := (by omega); rw [limFits]; simp [Tk.Op.fits, Tk.bounds, h4])⟩
    · as_aux_lemma =>
        by_cases h0 : -1 ≤ n
        · go_wp2_with fail
          refine (set_any 3 0 n HL.out).mono ?_
          rintro e W2 ⟨rfl, hL2⟩
          go_wp2_with fail
          go_meet
          exact ⟨1, 1, 1, 1, 3, 0, n, hL2, congrArg Value.bool (by rw [limFits]; simp [Tk.Op.fits, Tk.bounds, h0])⟩
        · go_wp2_with fail
          refine (set_any 3 0 n HL.out).mono ?_
          rintro e W2 ⟨rfl, hL2⟩
          go_wp2_with fail
          go_meet
          exact ⟨1, 1, 1, 1, 3, 0, n, hL2, congrArg Value.bool (by have h4 : ¬ (-1 ≤ n) := (by omega); rw [limFits]; simp [Tk.Op.fits, Tk.bounds, h4])⟩
    · as_aux_lemma =>
        by_cases h0 : 0 ≤ n
        · go_wp2_with fail
          refine (set_any 7 3 n HL.out).mono ?_
          rintro e W2 ⟨rfl, hL2⟩
          go_wp2_with fail
          go_meet
          exact ⟨1, 1, 1, 1, 7, 3, n, hL2, congrArg Value.bool (by rw [limFits]; simp [Tk.Op.fits, Tk.bounds, h0])⟩
        · go_wp2_with fail
          refine (set_any 7 3 n HL.out).mono ?_
          rintro e W2 ⟨rfl, hL2⟩
          go_wp2_with fail
          go_meet
          exact ⟨1, 1, 1, 1, 7, 3, n, hL2, congrArg Value.bool (by have h4 : ¬ (0 ≤ n) := (by omega); rw [limFits]; simp [Tk.Op.fits, Tk.bounds, h4])⟩
    · as_aux_lemma =>
        by_cases h0 : 1 ≤ n
        · go_wp2_with fail
          refine (set_any 10 0 n HL.out).mono ?_
          rintro e W2 ⟨rfl, hL2⟩
          go_wp2_with fail
          go_meet
          exact ⟨1, 1, 1, 1, 10, 0, n, hL2, congrArg Value.bool (by rw [limFits]; simp [Tk.Op.fits, Tk.bounds, h0])⟩
        · go_wp2_with fail
          refine (set_any 10 0 n HL.out).mono ?_
          rintro e W2 ⟨rfl, hL2⟩
          go_wp2_with fail
          go_meet
          exact ⟨1, 1, 1, 1, 10, 0, n, hL2, congrArg Value.bool (by have h4 : ¬ (1 ≤ n) := (by omega); rw [limFits]; simp [Tk.Op.fits, Tk.bounds, h4])⟩
    · as_aux_lemma =>
        go_wp2_with fail
        refine (set_any 10 n 1 HL.out).mono ?_
        rintro e W2 ⟨rfl, hL2⟩
        go_wp2_with fail
        go_meet
        exact ⟨1, 1, 1, 1, 10, n, 1, hL2, congrArg Value.bool (eqFits9 n)⟩
    · as_aux_lemma =>
        by_cases h0 : 0 ≤ n
        · go_wp2_with fail
          refine (set_any 13 n 0 HL.out).mono ?_
          rintro e W2 ⟨rfl, hL2⟩
          go_wp2_with fail
          go_meet
          exact ⟨1, 1, 1, 1, 13, n, 0, hL2, congrArg Value.bool (by rw [limFits]; simp [Tk.Op.fits, Tk.bounds, h0])⟩
        · go_wp2_with fail
          refine (set_any 13 n 0 HL.out).mono ?_
          rintro e W2 ⟨rfl, hL2⟩
          go_wp2_with fail
          go_meet
          exact ⟨1, 1, 1, 1, 13, n, 0, hL2, congrArg Value.bool (by have h4 : ¬ (0 ≤ n) := (by omega); rw [limFits]; simp [Tk.Op.fits, Tk.bounds, h4])⟩
    · as_aux_lemma =>
        by_cases h0 : 0 ≤ n
        · by_cases h1 : n ≤ 14
          · go_wp2_with fail
            refine (set_any n 0 0 HL.out).mono ?_
            rintro e W2 ⟨rfl, hL2⟩
            go_wp2_with fail
            go_meet
            exact ⟨1, 1, 1, 1, n, 0, 0, hL2, congrArg Value.bool (kindLaw h0 h1)⟩
          · go_wp2_with fail
            refine (set_any n 0 0 HL.out).mono ?_
            rintro e W2 ⟨rfl, hL2⟩
            go_wp2_with fail
            go_meet
            exact ⟨1, 1, 1, 1, n, 0, 0, hL2, congrArg Value.bool (by rw [limFits, kindNot (by omega)]; rfl)⟩
        · go_wp2_with fail
          refine (set_any n 0 0 HL.out).mono ?_
          rintro e W2 ⟨rfl, hL2⟩
          go_wp2_with fail
          go_meet
          exact ⟨1, 1, 1, 1, n, 0, 0, hL2, congrArg Value.bool (by rw [limFits, kindNot (by omega)]; rfl)⟩
    · as_aux_lemma =>
        go_wp2_with fail
        refine (set_any 14 n 0 HL.out).mono ?_
        rintro e W2 ⟨rfl, hL2⟩
        go_wp2_with fail
        go_meet
        exact ⟨1, 1, 1, 1, 14, n, 0, hL2, congrArg Value.bool (eqFits12 n)⟩
    · as_aux_lemma =>
        by_cases h0 : 0 ≤ n
        · go_wp2_with fail
          refine (set_any 5 n 0 HL.out).mono ?_
          rintro e W2 ⟨rfl, hL2⟩
          go_wp2_with fail
          go_meet
          exact ⟨1, 1, 1, 1, 5, n, 0, hL2, congrArg Value.bool (by rw [limFits]; simp [Tk.Op.fits, Tk.bounds, h0])⟩
        · go_wp2_with fail
          refine (set_any 5 n 0 HL.out).mono ?_
          rintro e W2 ⟨rfl, hL2⟩
          go_wp2_with fail
          go_meet
          exact ⟨1, 1, 1, 1, 5, n, 0, hL2, congrArg Value.bool (by have h4 : ¬ (0 ≤ n) := (by omega); rw [limFits]; simp [Tk.Op.fits, Tk.bounds, h4])⟩
    · -- none
      have e0 : (which == 0) = false := by simp; omega
      have e1 : (which == 1) = false := by simp; omega
      have e2 : (which == 2) = false := by simp; omega
      have e3 : (which == 3) = false := by simp; omega
      have e4 : (which == 4) = false := by simp; omega
      have e5 : (which == 5) = false := by simp; omega
      have e6 : (which == 6) = false := by simp; omega
      have e7 : (which == 7) = false := by simp; omega
      have e8 : (which == 8) = false := by simp; omega
      have e9 : (which == 9) = false := by simp; omega
      have e10 : (which == 10) = false := by simp; omega
      have e11 : (which == 11) = false := by simp; omega
      have e12 : (which == 12) = false := by simp; omega
      have e13 : (which == 13) = false := by simp; omega
      clear hw
      go_wp2_with fail
      go_ret
      exact ⟨rfl, HB1.out.trans (HL.out.below.mono hz1)⟩
  case rest =>
   as_aux_lemma =>
    obtain ⟨s, m, q, pr, k, a, b, hLc, rfl⟩ := hcut
    have HLc := Lib.hid hLc
    have d0 : wc.cell? ⟨w1.heap.size + 1 + 1 + 1 + 1, 0, none⟩ = _ := hLc.tab.cell 0
    have d1 : wc.cell? ⟨w1.heap.size + 1 + 1 + 1 + 1, 1, none⟩ = _ := hLc.tab.cell 1
    have d2 : wc.cell? ⟨w1.heap.size + 1 + 1 + 1 + 1, 2, none⟩ = _ := hLc.tab.cell 2
    have d3 : wc.cell? ⟨w1.heap.size + 1 + 1 + 1 + 1, 3, none⟩ = _ := hLc.tab.cell 3
    simp at d0 d1 d2 d3
    clear hLc
    go_wp2_with fail
    refine (check_any (c1 := 1) (c2 := 1) (c3 := 1) HLc.out.rd).mono ?_
    rintro e w2 ⟨rfl, hb2⟩
    have HL2 := Lib.hid (HLc.out.grow hb2)
    have g0 : w2.cell? ⟨w1.heap.size + 1 + 1 + 1 + 1, 0, none⟩ = _ := HL2.out.tab.cell 0
    have g1 : w2.cell? ⟨w1.heap.size + 1 + 1 + 1 + 1, 1, none⟩ = _ := HL2.out.tab.cell 1
    have g2 : w2.cell? ⟨w1.heap.size + 1 + 1 + 1 + 1, 2, none⟩ = _ := HL2.out.tab.cell 2
    have g3 : w2.cell? ⟨w1.heap.size + 1 + 1 + 1 + 1, 3, none⟩ = _ := HL2.out.tab.cell 3
    simp at g0 g1 g2 g3
    clear hb2 d0 d1 d2 d3
    rcases hf : (limT s m q pr k a b).fits with _ | _
    · rw [chk_no hf]
      have HT := Lib.hid (text_empty hf)
      clear hf
      go_wp2_with fail
      refine (num_any 20 _).mono ?_
      rintro e w3 ⟨rfl, rfl⟩
      go_wp2_with fail
      refine (num_any 20 _).mono ?_
      rintro e w3 ⟨rfl, rfl⟩
      go_wp2_with fail
      refine (text_any (c1 := 1) (c2 := 1) (c3 := 1) HL2.out.rd (HP.out.below (HB1.out.trans (HL2.out.below.mono hz1)))).mono ?_
      rintro e w3 ⟨rfl, hb3, -⟩
      rw [HT.out]
      go_wp2_with fail
      go_ret
      exact ⟨rfl, HB1.out.trans ((HL2.out.below.trans (hb3.mono HL2.out.below.size)).mono hz1)⟩
    · rw [chk_yes hf]
      obtain ⟨S, eS⟩ : ∃ S : ByteArray, (⟨(Tk.text (limT s m q pr k a b)).toArray⟩ : ByteArray) = S := ⟨_, rfl⟩
      have hS : ¬ S.toList = [] := by rw [← eS]; exact text_full hf
      have eS2 := Lib.hid eS
      have hS2 : S.toList.isEmpty = false := by simpa using hS
      clear hf eS
      go_wp2_with fail
      refine (num_any 0 _).mono ?_
      rintro e w3 ⟨rfl, rfl⟩
      go_wp2_with fail
      refine (text_any (c1 := 1) (c2 := 1) (c3 := 1) HL2.out.rd (HP.out.below (HB1.out.trans (HL2.out.below.mono hz1)))).mono ?_
      rintro e w3 ⟨rfl, hb3, -⟩
      rw [eS2.out]
      go_wp2_with fail
      go_ret
      exact ⟨rfl, HB1.out.trans ((HL2.out.below.trans (hb3.mono HL2.out.below.size)).mono hz1)⟩
end Go.Proofs.YtadcfedjmofjjaaDoor
