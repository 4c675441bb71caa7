/-
  Is a table one? The walk of the document's fits and Check.
-/
import Derived.Test.YtncbgnpoffolcaaM15
namespace Go.Proofs.Ytncbgnpoffolcaa
open Go.RowKit
set_option maxRecDepth 100000 in
set_option maxHeartbeats 8000000 in
theorem rfits_any (o : Kn.Op) (i : Nat) (hi : (i : Int) ≤ maxLen) (w : World) :
 Calls Try.prog 46 #[.agg #[.int .i64 o.kind, .int .i64 o.a, .int .i64 o.b], .int .i64 i] w fun e w' => e = .returned (.bool (o.fits i)) ∧ Below w.heap.size w w' := by
 unfold maxLen at hi
 obtain ⟨k, a, b⟩ := o
 by_cases h : k < 0 ∨ 15 ≤ k
 ·have E := zh (fits_none ⟨k, a, b⟩ i h)
  have e0 : (k == 0) = false := by simp; omega
  have e1 : (k == 1) = false := by simp; omega
  have e2 : (k == 2) = false := by simp; omega
  have e3 : (k == 3) = false := by simp; omega
  have e4 : (k == 4) = false := by simp; omega
  have e5 : (k == 5) = false := by simp; omega
  have e6 : (k == 6) = false := by simp; omega
  have e7 : (k == 7) = false := by simp; omega
  have e8 : (k == 8) = false := by simp; omega
  have e9 : (k == 9) = false := by simp; omega
  have e10 : (k == 10) = false := by simp; omega
  have e11 : (k == 11) = false := by simp; omega
  have e12 : (k == 12) = false := by simp; omega
  have e13 : (k == 13) = false := by simp; omega
  have e14 : (k == 14) = false := by simp; omega
  clear h
  go_enter Try.func46, Try.ntmps46
  go_wp2_with fail
  go_ret
  exact ⟨ret_bool E.out.symm, (zr _ _).alloc (zl _) _⟩
 have hk : k = 0 ∨ k = 1 ∨ k = 2 ∨ k = 3 ∨ k = 4 ∨ k = 5 ∨ k = 6 ∨ k = 7 ∨ k = 8 ∨ k = 9 ∨ k = 10 ∨ k = 11 ∨ k = 12 ∨ k = 13 ∨ k = 14 := by omega
 clear h
 rcases hk with rfl | rfl | rfl | rfl | rfl | rfl | rfl | rfl | rfl | rfl | rfl | rfl | rfl | rfl | rfl
 all_goals
  go_enter Try.func46, Try.ntmps46
  go_wp2
  all_goals
   go_ret
   exact ⟨ret_bool (by rw [Bool.eq_iff_iff]; simp [Kn.Op.fits, Kn.bounds]; try omega), (zr _ _).alloc (zl _) _⟩
theorem chk_no {t : Kn.Table} (h : t.fits = false) : chk t = 20 := by unfold chk; rw [h]; rfl
theorem chk_yes {t : Kn.Table} (h : t.fits = true) : chk t = 0 := by unfold chk; rw [h]; rfl
theorem all_at {α : Type} {p : α → Bool} {l : List α} {i : Nat} (h : i < l.length) (hp : p l[i] = false) : l.all p = false := by
 rcases hx : l.all p with _ | _
 ·rfl
 ·rw [List.all_eq_true] at hx
  rw [hx _ (List.getElem_mem h)] at hp
  cases hp
theorem opsFit_at {l : List Kn.Op} {m : Nat} (h : m < l.length) (hp : l[m].fits m = false) : Kn.opsFit l 0 = false := by
 suffices key : ∀ (l : List Kn.Op) (m : Nat) (i : Int) (h : m < l.length), l[m].fits (i + m) = false → Kn.opsFit l i = false by
  exact key l m 0 h (by rw [Int.zero_add]; exact hp)
 intro l
 induction l with
 | nil => intro m i h; simp at h
 | cons a l ih =>
   intro m i h hq
   cases m with
   | zero =>
     have : a.fits i = false := by simpa using hq
     simp [Kn.opsFit, this]
   | succ m =>
     have h2 := ih m (i + 1) (by simpa using h) (by
      have e : i + 1 + (m : Int) = i + ((m + 1 : Nat) : Int) := by omega
      rw [e]
      simpa using hq)
     simp [Kn.opsFit, h2]
set_option maxRecDepth 100000 in
set_option maxHeartbeats 8000000 in
theorem rcheck_any {w : World} {A1 A2 A3 : Option Addr} {c1 c2 c3 : Nat} {t : Kn.Table} (hr : TabRd w w.heap.size A1 A2 A3 t) :
 Calls Try.prog 33 #[.agg #[.slice A1 t.tasks.length c1, .slice A2 t.sems.length c2, .int .i64 t.mutexes, .slice A3 t.queues.length c3]] w
  fun e w' => e = .returned (.int .i64 (chk t)) ∧ Below w.heap.size w w' := by
 have l1 := hr.tasksL
 have l2 := hr.semsL
 have l3 := hr.queuesL
 unfold maxLen at l1 l2 l3
 have HR := zh hr
 clear hr
 have hb1 := (zr w.heap.size w).alloc (zl _) (.cells #[.slice A1 t.tasks.length c1, .slice A2 t.sems.length c2, .int .i64 t.mutexes, .slice A3 t.queues.length c3] 26)
 rcases h0 : fits0 t with _ | _
 ·have E := zh (chk_no (t := t) (by rw [table_fits, h0]; rfl))
  unfold fits0 within at h0
  have h1 : ¬ (1 ≤ (t.tasks.length : Int)) ∨ (1 ≤ (t.tasks.length : Int) ∧ (¬ (t.tasks.length : Int) ≤ 32 ∨ ((t.tasks.length : Int) ≤ 32 ∧ (¬ (t.sems.length : Int) ≤ 8 ∨ ((t.sems.length : Int) ≤ 8 ∧
   (¬ 0 ≤ t.mutexes ∨ (0 ≤ t.mutexes ∧ (¬ t.mutexes ≤ 8 ∨ (t.mutexes ≤ 8 ∧ ¬ (t.queues.length : Int) ≤ 8))))))))) := by
   by_cases q1 : (1 ≤ (t.tasks.length : Int)) <;> by_cases q2 : (t.tasks.length : Int) ≤ 32 <;> by_cases q3 : (t.sems.length : Int) ≤ 8 <;> by_cases q4 : 0 ≤ t.mutexes <;> by_cases q5 : t.mutexes ≤ 8 <;> by_cases q6 : (t.queues.length : Int) ≤ 8 <;> simp [q1, q2, q3, q4, q5, q6] at h0 ⊢
  clear h0
  rcases h1 with h1 | ⟨h1, h2 | ⟨h2, h3 | ⟨h3, h4 | ⟨h4, h5 | ⟨h5, h6⟩⟩⟩⟩⟩
  all_goals
   go_enter Try.func33, Try.ntmps33
   go_wp2_with fail
   refine bodyPost_ret (v := .int .i64 20) (by simp [results, Try.results33, go_sem]) rfl ?_
   exact ⟨ret_int E.out.symm, hb1⟩
 ·have hq : 1 ≤ (t.tasks.length : Int) ∧ (t.tasks.length : Int) ≤ 32 ∧ (t.sems.length : Int) ≤ 8 ∧ 0 ≤ t.mutexes ∧ t.mutexes ≤ 8 ∧ (t.queues.length : Int) ≤ 8 := by
   unfold fits0 within at h0
   simp at h0
   omega
  obtain ⟨q1, q2, q3, q4, q5, q6⟩ := hq
  have H0 := zh h0
  clear h0
  go_enter Try.func33, Try.ntmps33
  go_wp2_with fail
  go_loop [3] (fun i => ∃ k : Nat, k ≤ t.sems.length ∧ i = .int .i64 k ∧ (t.sems.take k).all (within · 0 100) = true) (fun i => t.sems.length - (intOf i).toNat)
  case atStart => exact ⟨0, Nat.zero_le _, rfl, by simp⟩
  case round =>
   obtain ⟨k, hk, rfl, hp⟩ := hrel
   by_cases hlt : k < t.sems.length
   ·have hlt' : (k : Int) < t.sems.length := by omega
    obtain ⟨ad, eA, had, hc⟩ := (HR.out.sems.below hb1 (zl _)).int hlt
    subst eA
    rcases hn : within t.sems[k] 0 100 with _ | _
    ·have E := zh (chk_no (t := t) (by rw [table_fits, all_at (p := (within · 0 100)) hlt hn]; simp))
     generalize t.sems[k] = n at *
     have hn' : n < 0 ∨ (¬ n < 0 ∧ 100 < n) := by unfold within at hn; simp at hn; omega
     clear hn hp
     rcases hn' with hn' | ⟨hn', hn2⟩
     all_goals
      go_wp2_with fail
      refine bodyPost_ret (v := .int .i64 20) (by simp [results, Try.results33, go_sem]) rfl ?_
      exact ⟨ret_int E.out.symm, hb1⟩
    ·have P : Hid ((t.sems.take (k + 1)).all (within · 0 100) = true) := by show _ = _; rw [all_snoc _ _ _ hlt, hp]; exact hn
     generalize t.sems[k] = n at *
     have hn' : ¬ n < 0 ∧ ¬ 100 < n := by unfold within at hn; simp at hn; omega
     obtain ⟨hn1, hn2⟩ := hn'
     clear hn hp
     go_wp2_with fail
     go_round
     case rel => exact ⟨k + 1, by omega, by go_num, P.out⟩
     case measure => simp [intOf]; omega
   ·have hge : ¬ (k : Int) < t.sems.length := by omega
    rw [List.take_of_length_le (by omega)] at hp
    have P1 := zh hp
    clear hp
    go_wp2_with fail
    go_loop [4] (fun i => ∃ k : Nat, k ≤ t.queues.length ∧ i = .int .i64 k ∧ (t.queues.take k).all (within · 1 16) = true) (fun i => t.queues.length - (intOf i).toNat)
    case atStart => exact ⟨0, Nat.zero_le _, rfl, by simp⟩
    case round =>
     obtain ⟨k, hk, rfl, hp⟩ := hrel
     by_cases hlt : k < t.queues.length
     ·have hlt' : (k : Int) < t.queues.length := by omega
      obtain ⟨ad, eA, had, hc⟩ := (HR.out.queues.below hb1 (zl _)).int hlt
      subst eA
      rcases hn : within t.queues[k] 1 16 with _ | _
      ·have E := zh (chk_no (t := t) (by rw [table_fits, all_at (p := (within · 1 16)) hlt hn]; simp))
       generalize t.queues[k] = n at *
       have hn' : n < 1 ∨ (¬ n < 1 ∧ 16 < n) := by unfold within at hn; simp at hn; omega
       clear hn hp
       rcases hn' with hn' | ⟨hn', hn2⟩
       all_goals
        go_wp2_with fail
        refine bodyPost_ret (v := .int .i64 20) (by simp [results, Try.results33, go_sem]) rfl ?_
        exact ⟨ret_int E.out.symm, hb1⟩
      ·have P : Hid ((t.queues.take (k + 1)).all (within · 1 16) = true) := by show _ = _; rw [all_snoc _ _ _ hlt, hp]; exact hn
       generalize t.queues[k] = n at *
       have hn' : ¬ n < 1 ∧ ¬ 16 < n := by unfold within at hn; simp at hn; omega
       obtain ⟨hn1, hn2⟩ := hn'
       clear hn hp
       go_wp2_with fail
       go_round
       case rel => exact ⟨k + 1, by omega, by go_num, P.out⟩
       case measure => simp [intOf]; omega
     ·have hge : ¬ (k : Int) < t.queues.length := by omega
      rw [List.take_of_length_le (by omega)] at hp
      have P2 := zh hp
      clear hp
      go_wp2_with fail
      go_loopg [5] t.tasks.length (fun kk i wr => ∃ k : Nat, k ≤ t.tasks.length ∧ i = .int .i64 k ∧ (t.tasks.take k).all Kn.Task.fits = true ∧ Below (w.alloc (.cells #[.slice A1 t.tasks.length c1, .slice A2 t.sems.length c2, .int .i64 t.mutexes, .slice A3 t.queues.length c3] 26)).heap.size (w.alloc (.cells #[.slice A1 t.tasks.length c1, .slice A2 t.sems.length c2, .int .i64 t.mutexes, .slice A3 t.queues.length c3] 26)) wr ∧ t.tasks.length - k ≤ kk)
      case atStart => exact ⟨0, Nat.zero_le _, rfl, by simp, zr _ _, by omega⟩
      case round =>
       obtain ⟨j, hj, rfl, hp, hbb, hkk⟩ := hrel
       obtain ⟨wo, rfl⟩ : ∃ wo : World, wo = wr := ⟨_, rfl⟩
       have hb := hb1.trans (hbb.mono (by simp))
       have hzr := hb.size
       have hzr2 := hbb.size
       simp at hzr2
       have g0 := hbb.cell (p := ⟨w.heap.size, 0, none⟩) (by simp)
       simp at g0
       by_cases hlt : j < t.tasks.length
       ·have hlt' : (j : Int) < t.tasks.length := by omega
        obtain ⟨ad, A, c, eA, had, hc0', hc1', hro, hln⟩ := HR.out.task j hlt
        subst eA
        have hc0 := (hb.cell (p := ad.add (j * 2)) (by rw [block_of_add]; exact had)).trans hc0'
        have hc1 := (hb.cell (p := ad.add (j * 2 + 1)) (by rw [block_of_add]; exact had)).trans hc1'
        clear hc0' hc1'
        rcases hn : t.tasks[j].fits with _ | _
        ·have E := zh (chk_no (t := t) (by rw [table_fits, all_at (p := Kn.Task.fits) hlt hn]; simp))
         obtain ⟨x, hx⟩ : ∃ x, x = t.tasks[j] := ⟨_, rfl⟩
         rw [← hx] at hc0 hc1 hro hln hn
         clear hx
         rw [task_fits] at hn
         obtain ⟨pr, ops⟩ := x
         have hc1' : wo.cell? ⟨(ad.add (j * 2)).block, (ad.add (j * 2)).off + 1, none⟩ = some (.slice A ops.length c) := by rw [← add_pos _ 1 (by decide), add_of_add]; exact hc1
         unfold maxLen at hln
         have hln' : ops.length ≤ 9223372036854775807 := by omega
         have hh : pr < 0 ∨ (¬ pr < 0 ∧ (31 < pr ∨ (¬ 31 < pr ∧ ((100 : Int) < ops.length ∨ (¬ (100 : Int) < ops.length ∧ Kn.opsFit ops 0 = false))))) := by
          have hn' : (decide (0 ≤ pr ∧ pr ≤ 31) && decide ((ops.length : Int) ≤ 100) && Kn.opsFit ops 0) = false := hn
          clear hn
          rcases hq : Kn.opsFit ops 0 with _ | _
          ·by_cases a1 : pr < 0 <;> by_cases a2 : 31 < pr <;> by_cases a3 : (100 : Int) < ops.length <;> simp [a1, a2, a3]
          ·have hn2 : ¬ ((0 ≤ pr ∧ pr ≤ 31) ∧ (ops.length : Int) ≤ 100) := by
            rintro ⟨q1, q2⟩
            rw [zu q1, zu q2, hq] at hn'
            cases hn'
           by_cases a1 : pr < 0
           ·exact .inl a1
           by_cases a2 : 31 < pr
           ·exact .inr ⟨a1, .inl a2⟩
           ·exact .inr ⟨a1, .inr ⟨a2, .inl (by omega)⟩⟩
         clear hn hln hp
         have HRO := zh hro
         clear hro
         rcases hh with h1 | ⟨h1, h2 | ⟨h2, h3 | ⟨h3, h4⟩⟩⟩
         ·go_wp2_with fail
          refine bodyPost_ret (v := .int .i64 20) (by simp [results, Try.results33, go_sem]) rfl ?_
          exact ⟨ret_int E.out.symm, hb.alloc hzr _⟩
         ·go_wp2_with fail
          refine bodyPost_ret (v := .int .i64 20) (by simp [results, Try.results33, go_sem]) rfl ?_
          exact ⟨ret_int E.out.symm, hb.alloc hzr _⟩
         ·go_wp2_with fail
          refine bodyPost_ret (v := .int .i64 20) (by simp [results, Try.results33, go_sem]) rfl ?_
          exact ⟨ret_int E.out.symm, hb.alloc hzr _⟩
         ·have HF := zh h4
          clear h4
          go_wp2_with fail
          go_loopg [7] ops.length (fun k2 i wx => ∃ m : Nat, m ≤ ops.length ∧ i = .int .i64 m ∧ Kn.opsFit (ops.take m) 0 = true ∧ Below (wo.heap.size + 1) (wo.alloc (.cells #[.int .i64 pr, .slice A ops.length c] 29)) wx ∧ ops.length - m ≤ k2)
          case atStart => exact ⟨0, Nat.zero_le _, rfl, by simp [Kn.opsFit], zr _ _, by omega⟩
          case round =>
           obtain ⟨m, hm, rfl, hpm, hbx0, hk2⟩ := hrel
           have hbx := (hb.alloc hzr (.cells #[.int .i64 pr, .slice A ops.length c] 29)).trans (hbx0.mono (by omega))
           have hzx := hbx0.size
           simp at hzx
           have s1 := hbx0.cell (p := ⟨wo.heap.size, 1, none⟩) (by simp)
           simp at s1
           by_cases hlm : m < ops.length
           ·have hlm' : (m : Int) < ops.length := by omega
            obtain ⟨ad2, eA2, had2, o0, o1, o2⟩ := (HRO.out.below hbx (zl _)).op hlm
            subst eA2
            have S2 := zh (opsFit_take ops m hlm)
            obtain ⟨o, ho⟩ : ∃ o, o = ops[m] := ⟨_, rfl⟩
            rw [← ho] at o0 o1 o2 S2
            clear ho
            have o1' := o1
            have o2' := o2
            rw [← add_of_add, add_pos _ _ (by decide)] at o1' o2'
            have HM : (m : Int) ≤ (maxLen : Int) := by unfold maxLen; omega
            have HMM := zh HM
            have HPM := zh hpm
            clear HM hpm
            go_wp2_with fail
            refine (rfits_any o m HMM.out _).mono ?_
            rintro e w5 ⟨rfl, b5⟩
            have hb5 := hbx0.trans (b5.mono (by omega))
            rcases hf : o.fits m with _ | _
            ·clear hf
             go_wp2_with fail
             refine bodyPost_ret (v := .int .i64 20) (by simp [results, Try.results33, go_sem]) rfl ?_
             exact ⟨ret_int E.out.symm, (hb.alloc hzr _).trans (hb5.mono (by omega))⟩
            ·have E5 : Hid (Kn.opsFit (ops.take (m + 1)) 0 = true) := by show _ = _; rw [S2.out, HPM.out, hf]; rfl
             clear hf
             go_wp2_with fail
             go_roundg (ops.length - (m + 1))
             case measure => omega
             case rel => exact ⟨m + 1, by omega, by go_num, E5.out, hb5, zl _⟩
           ·have := HF.out
            rw [List.take_of_length_le (by omega)] at hpm
            rw [hpm] at this
            cases this
        ·have P := zh (all_snoc Kn.Task.fits t.tasks j hlt)
         rw [hn, hp] at P
         obtain ⟨x, hx⟩ : ∃ x, x = t.tasks[j] := ⟨_, rfl⟩
         rw [← hx] at hc0 hc1 hro hln hn
         clear hx
         rw [task_fits] at hn
         obtain ⟨pr, ops⟩ := x
         have hc1' : wo.cell? ⟨(ad.add (j * 2)).block, (ad.add (j * 2)).off + 1, none⟩ = some (.slice A ops.length c) := by rw [← add_pos _ 1 (by decide), add_of_add]; exact hc1
         unfold maxLen at hln
         have hln' : ops.length ≤ 9223372036854775807 := by omega
         simp only [Bool.and_eq_true] at hn
         have HF := zh hn.2
         have hh : ¬ pr < 0 ∧ ¬ 31 < pr ∧ ¬ (100 : Int) < ops.length := by
          have := hn.1
          unfold task0 within at this
          simp at this
          omega
         obtain ⟨h1, h2, h3⟩ := hh
         clear hn hln hp
         have HRO := zh hro
         clear hro
         go_wp2_with fail
         go_loopg [7] ops.length (fun k2 i wx => ∃ m : Nat, m ≤ ops.length ∧ i = .int .i64 m ∧ Below (wo.heap.size + 1) (wo.alloc (.cells #[.int .i64 pr, .slice A ops.length c] 29)) wx ∧ ops.length - m ≤ k2)
         case atStart => exact ⟨0, Nat.zero_le _, rfl, zr _ _, by omega⟩
         case round =>
          obtain ⟨m, hm, rfl, hbx0, hk2⟩ := hrel
          have hbx := (hb.alloc hzr (.cells #[.int .i64 pr, .slice A ops.length c] 29)).trans (hbx0.mono (by omega))
          have hzx := hbx0.size
          simp at hzx
          have s1 := hbx0.cell (p := ⟨wo.heap.size, 1, none⟩) (by simp)
          simp at s1
          by_cases hlm : m < ops.length
          ·have hlm' : (m : Int) < ops.length := by omega
           obtain ⟨ad2, eA2, had2, o0, o1, o2⟩ := (HRO.out.below hbx (zl _)).op hlm
           subst eA2
           obtain ⟨o, ho⟩ : ∃ o, o = ops[m] := ⟨_, rfl⟩
           have hf : o.fits m = true := by
            rcases hq : o.fits m with _ | _
            ·have := opsFit_at hlm (by rw [← ho]; exact hq)
             rw [HF.out] at this
             cases this
            ·rfl
           rw [← ho] at o0 o1 o2
           clear ho
           have HFO := zh hf
           clear hf
           have o1' := o1
           have o2' := o2
           rw [← add_of_add, add_pos _ _ (by decide)] at o1' o2'
           have HM : (m : Int) ≤ (maxLen : Int) := by unfold maxLen; omega
           have HMM := zh HM
           clear HM
           go_wp2_with fail
           refine (rfits_any o m HMM.out _).mono ?_
           rintro e w5 ⟨rfl, b5⟩
           have hb5 := hbx0.trans (b5.mono (by omega))
           rw [HFO.out]
           go_wp2_with fail
           go_roundg (ops.length - (m + 1))
           case measure => omega
           case rel => exact ⟨m + 1, by omega, by go_num, hb5, zl _⟩
          ·have hgm : ¬ (m : Int) < ops.length := by omega
           go_wp2_with fail
           go_roundg (t.tasks.length - (j + 1))
           case measure => omega
           case rel => exact ⟨j + 1, by omega, by go_num, P.out, (hbb.alloc (by simp; omega) _).trans (hbx0.mono (by simp; omega)), zl _⟩
       ·have hge2 : ¬ (j : Int) < t.tasks.length := by omega
        rw [List.take_of_length_le (by omega)] at hp
        have E := zh (chk_yes (t := t) (by rw [table_fits, H0.out, P1.out, P2.out, hp]; rfl))
        clear hp
        go_wp2_with fail
        go_ret
        exact ⟨ret_int E.out.symm, hb⟩
end Go.Proofs.Ytncbgnpoffolcaa
