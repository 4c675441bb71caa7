/-
  Is a table one? The walk of the given Check.
-/
import Derived.Test.YtadcfedjmofjjaaDoorC2
namespace Go.Proofs.YtadcfedjmofjjaaDoor
open Go.RowKit
def fits0 (t : Tk.Table) : Bool := within t.tasks.length 1 32 && (decide ((t.sems.length : Int) ≤ 8) && (within t.mutexes 0 8 && decide ((t.queues.length : Int) ≤ 8)))
theorem add_pos (a : Addr) (n : Nat) (h : n ≠ 0) : a.add n = ⟨a.block, a.off + n, none⟩ := by simp [Addr.add, h]
/-- What Check answers. -/
def chk (t : Tk.Table) : Int := if t.fits = true then 0 else 20
theorem opsFit_snoc (l : List Tk.Op) (o : Tk.Op) : ∀ i, Tk.opsFit (l ++ [o]) i = (Tk.opsFit l i && o.fits (i + l.length)) := by
  induction l with
  | nil => intro i; simp [Tk.opsFit]
  | cons a l ih =>
    intro i
    simp only [List.cons_append, Tk.opsFit, ih, Bool.and_assoc]
    congr 3
    rw [List.length_cons]
    push_cast
    omega
theorem all_snoc {α : Type} (p : α → Bool) (l : List α) (i : Nat) (h : i < l.length) : (l.take (i + 1)).all p = ((l.take i).all p && p l[i]) := by
  rw [List.take_succ_eq_append_getElem h, List.all_append]
  simp
theorem opsFit_take (l : List Tk.Op) (i : Nat) (h : i < l.length) : Tk.opsFit (l.take (i + 1)) 0 = (Tk.opsFit (l.take i) 0 && l[i].fits i) := by
  rw [List.take_succ_eq_append_getElem h, opsFit_snoc, List.length_take, Nat.min_eq_left (by omega)]
  simp
def task0 (x : Tk.Task) : Bool := within x.prio 0 31 && decide ((x.ops.length : Int) ≤ 100)
theorem task_fits (x : Tk.Task) : x.fits = (task0 x && Tk.opsFit x.ops 0) := by
  unfold Tk.Task.fits task0 within
  congr 1
  rw [Bool.eq_iff_iff]
  simp
  omega
theorem table_fits (t : Tk.Table) : t.fits = (((fits0 t && t.sems.all (within · 0 100)) && t.queues.all (within · 1 16)) && t.tasks.all Tk.Task.fits) := by
  unfold Tk.Table.fits
  congr 3
  unfold fits0 within
  rw [Bool.eq_iff_iff]
  simp
  omega
set_option maxRecDepth 100000 in
set_option maxHeartbeats 8000000 in
theorem check_any {w : World} {A1 A2 A3 : Option Addr} {c1 c2 c3 : Nat} {t : Tk.Table} (hr : TabRd w w.heap.size A1 A2 A3 t) :
    Calls Tryd.prog 17 #[.agg #[.slice A1 t.tasks.length c1, .slice A2 t.sems.length c2, .int .i64 t.mutexes, .slice A3 t.queues.length c3]] w
      fun e w' => e = .returned (.int .i64 (chk t)) ∧ Below w.heap.size w w' := by
  have l1 := hr.tasksL
  have l2 := hr.semsL
  have l3 := hr.queuesL
  unfold maxLen at l1 l2 l3
  have HR := Lib.hid hr
  clear hr
  go_enter Tryd.func17, Tryd.ntmps17
  go_upto_region 1 with (fail)
  go_cut [3] (fun v wx => v = .bool (fits0 t) ∧ wx = w.alloc (.cells #[.slice A1 t.tasks.length c1, .slice A2 t.sems.length c2, .int .i64 t.mutexes, .slice A3 t.queues.length c3] 26))
  case first =>
    rcases h1 : within t.tasks.length 1 32 with _ | _
    · have E : Hid (fits0 t = false) := by show _ = _; unfold fits0; rw [h1]; rfl
      have H1 := Lib.hid h1
      clear h1
      go_wp2_with (go_at_call 31; refine (within_any _ _ _ _).mono ?_; rintro e w' ⟨rfl, rfl⟩; rw [H1.out])
      go_meet
      exact ⟨by rw [E.out], rfl⟩
    rcases h2 : decide ((t.sems.length : Int) ≤ 8) with _ | _
    · have E : Hid (fits0 t = false) := by show _ = _; unfold fits0; rw [h1, h2]; rfl
      have H1 := Lib.hid h1
      clear h1
      go_wp2_with (go_at_call 31; refine (within_any _ _ _ _).mono ?_; rintro e w' ⟨rfl, rfl⟩; rw [H1.out])
      go_meet
      exact ⟨by rw [E.out], rfl⟩
    rcases h3 : within t.mutexes 0 8 with _ | _
    · have E : Hid (fits0 t = false) := by show _ = _; unfold fits0; rw [h1, h2, h3]; rfl
      have H1 := Lib.hid h1
      have H3 := Lib.hid h3
      clear h1 h3
      go_wp2_with (go_at_call 31; refine (within_any _ _ _ _).mono ?_; rintro e w' ⟨rfl, rfl⟩; first | rw [H1.out] | rw [H3.out])
      go_meet
      exact ⟨by rw [E.out], rfl⟩
    rcases h4 : decide ((t.queues.length : Int) ≤ 8) with _ | _
    all_goals
      have E : Hid (fits0 t = decide ((t.queues.length : Int) ≤ 8)) := by show _ = _; unfold fits0; rw [h1, h2, h3]; rfl
      have H1 := Lib.hid h1
      have H3 := Lib.hid h3
      have H4 := Lib.hid h4
      clear h1 h3
      go_wp2_with (go_at_call 31; refine (within_any _ _ _ _).mono ?_; rintro e w' ⟨rfl, rfl⟩; first | rw [H1.out] | rw [H3.out])
      go_meet
      exact ⟨by rw [E.out, H4.out], rfl⟩
  case rest =>
    obtain ⟨rfl, rfl⟩ := hcut
    obtain ⟨b0, hb0⟩ : ∃ b0, fits0 t = b0 := ⟨_, rfl⟩
    rw [hb0]
    have HB0 := Lib.hid hb0
    clear hb0
    have hb1 := (Below.refl w.heap.size w).alloc (Nat.le_refl _) (.cells #[.slice A1 t.tasks.length c1, .slice A2 t.sems.length c2, .int .i64 t.mutexes, .slice A3 t.queues.length c3] 26)
    go_wp2_with fail
    go_loop [3, 36] (fun v i => ∃ k : Nat, k ≤ t.sems.length ∧ i = .int .i64 k ∧ v = .bool (b0 && (t.sems.take k).all (within · 0 100))) (fun _ i => t.sems.length - (intOf i).toNat)
    case atStart => exact ⟨0, Nat.zero_le _, rfl, by simp⟩
    case round =>
      obtain ⟨k, hk, rfl, rfl⟩ := hrel
      by_cases hlt : k < t.sems.length
      · have hlt' : (k : Int) < t.sems.length := by omega
        obtain ⟨ad, eA, had, hc⟩ := (HR.out.sems.below hb1 (Nat.le_refl _)).int hlt
        subst eA
        have S := Lib.hid (all_snoc (within · 0 100) t.sems k hlt)
        generalize t.sems[k] = n at *
        rcases hb : (b0 && (t.sems.take k).all (within · 0 100)) with _ | _
        · have E : Hid ((b0 && (t.sems.take (k + 1)).all (within · 0 100)) = false) := by show _ = _; rw [S.out, ← Bool.and_assoc, hb]; rfl
          clear hb
          go_wp2_with fail
          go_round
          case rel => exact ⟨k + 1, by omega, by go_num, by rw [E.out]⟩
          case measure => simp [intOf]; omega
        · have E : Hid ((b0 && (t.sems.take (k + 1)).all (within · 0 100)) = within n 0 100) := by show _ = _; rw [S.out, ← Bool.and_assoc, hb]; rfl
          clear hb
          go_wp2_with (go_at_call 31; refine (within_any _ _ _ _).mono ?_; rintro e w' ⟨rfl, rfl⟩)
          go_round
          case rel => exact ⟨k + 1, by omega, by go_num, by rw [E.out]⟩
          case measure => simp [intOf]; omega
      · have hge : ¬ (k : Int) < t.sems.length := by omega
        have hall : t.sems.take k = t.sems := List.take_of_length_le (by omega)
        rw [hall]
        clear hall
        obtain ⟨b1, hb1'⟩ : ∃ b1, (b0 && t.sems.all (within · 0 100)) = b1 := ⟨_, rfl⟩
        rw [hb1']
        have HB1 := Lib.hid hb1'
        clear hb1'
        go_wp2_with fail
        go_loop [3, 49] (fun v i => ∃ k : Nat, k ≤ t.queues.length ∧ i = .int .i64 k ∧ v = .bool (b1 && (t.queues.take k).all (within · 1 16))) (fun _ i => t.queues.length - (intOf i).toNat)
        case atStart => exact ⟨0, Nat.zero_le _, rfl, by simp⟩
        case round =>
          obtain ⟨k, hk, rfl, rfl⟩ := hrel
          by_cases hlt : k < t.queues.length
          · have hlt' : (k : Int) < t.queues.length := by omega
            obtain ⟨ad, eA, had, hc⟩ := (HR.out.queues.below hb1 (Nat.le_refl _)).int hlt
            subst eA
            have S := Lib.hid (all_snoc (within · 1 16) t.queues k hlt)
            generalize t.queues[k] = n at *
            rcases hb : (b1 && (t.queues.take k).all (within · 1 16)) with _ | _
            · have E : Hid ((b1 && (t.queues.take (k + 1)).all (within · 1 16)) = false) := by show _ = _; rw [S.out, ← Bool.and_assoc, hb]; rfl
              clear hb
              go_wp2_with fail
              go_round
              case rel => exact ⟨k + 1, by omega, by go_num, by rw [E.out]⟩
              case measure => simp [intOf]; omega
            · have E : Hid ((b1 && (t.queues.take (k + 1)).all (within · 1 16)) = within n 1 16) := by show _ = _; rw [S.out, ← Bool.and_assoc, hb]; rfl
              clear hb
              go_wp2_with (go_at_call 31; refine (within_any _ _ _ _).mono ?_; rintro e w' ⟨rfl, rfl⟩)
              go_round
              case rel => exact ⟨k + 1, by omega, by go_num, by rw [E.out]⟩
              case measure => simp [intOf]; omega
          · have hge : ¬ (k : Int) < t.queues.length := by omega
            have hall : t.queues.take k = t.queues := List.take_of_length_le (by omega)
            rw [hall]
            clear hall
            obtain ⟨b2, hb2'⟩ : ∃ b2, (b1 && t.queues.all (within · 1 16)) = b2 := ⟨_, rfl⟩
            rw [hb2']
            have HB2 := Lib.hid hb2'
            clear hb2' hlt
            go_wp2_with fail
            go_loopg [3, 62] t.tasks.length (fun kk v i wr => ∃ k : Nat, k ≤ t.tasks.length ∧ i = .int .i64 k ∧ v = .bool (b2 && (t.tasks.take k).all Tk.Task.fits) ∧ Below w.heap.size w wr ∧ t.tasks.length - k ≤ kk)
            case atStart => exact ⟨0, Nat.zero_le _, rfl, by simp, hb1, by omega⟩
            case round =>
              obtain ⟨j, hj, rfl, rfl, hb, hkk⟩ := hrel
              have hzr := hb.size
              by_cases hlt : j < t.tasks.length
              · have hlt' : (j : Int) < t.tasks.length := by omega
                obtain ⟨ad, A, c, eA, had, hc0', hc1', hro, hln⟩ := HR.out.task j hlt
                subst eA
                have hc0 := (hb.cell (p := ad.add (j * 2)) (by rw [block_of_add]; exact had)).trans hc0'
                have hc1 := (hb.cell (p := ad.add (j * 2 + 1)) (by rw [block_of_add]; exact had)).trans hc1'
                clear hc0' hc1'
                have S := Lib.hid (all_snoc Tk.Task.fits t.tasks j hlt)
                obtain ⟨x, hx⟩ : ∃ x, x = t.tasks[j] := ⟨_, rfl⟩
                rw [← hx] at hc0 hc1 hro hln S
                have hfit := task_fits x
                clear hx
                obtain ⟨pr, ops⟩ := x
                have hc1' : wr.cell? ⟨(ad.add (j * 2)).block, (ad.add (j * 2)).off + 1, none⟩ = some (.slice A ops.length c) := by rw [← add_pos _ 1 (by decide), add_of_add]; exact hc1
                unfold maxLen at hln
                have hln' : ops.length ≤ 9223372036854775807 := by omega
                have HRO := Lib.hid hro
                have HF := Lib.hid hfit
                clear hro hfit hln
                obtain ⟨b3, hb3⟩ : ∃ b3, (b2 && (t.tasks.take j).all Tk.Task.fits) = b3 := ⟨_, rfl⟩
                rw [hb3]
                have E : Hid ((b2 && (t.tasks.take (j + 1)).all Tk.Task.fits) = ((b3 && task0 ⟨pr, ops⟩) && Tk.opsFit ops 0)) := by show _ = _; rw [S.out, ← Bool.and_assoc, hb3, HF.out, Bool.and_assoc]
                clear hb3
                go_upto_region 15 with (fail)
                go_cut [3] (fun v wx => v = .bool (b3 && task0 ⟨pr, ops⟩) ∧ wx = wr.alloc (.cells #[.int .i64 pr, .slice A ops.length c] 32))
                case first =>
                  clear hc0 hc1 hc1'
                  have E3 : Hid (∀ b, (b && task0 ⟨pr, ops⟩) = ((b && within pr 0 31) && decide ((ops.length : Int) ≤ 100))) := fun b => by rw [Bool.and_assoc]; rfl
                  rcases b3 with _ | _
                  · go_wp2_with fail
                    go_meet
                    exact ⟨rfl, rfl⟩
                  rcases h1 : within pr 0 31 with _ | _
                  · have H1 := Lib.hid h1
                    clear h1
                    go_wp2_with (go_at_call 31; refine (within_any _ _ _ _).mono ?_; rintro e w' ⟨rfl, rfl⟩; rw [H1.out])
                    go_meet
                    exact ⟨by rw [E3.out, H1.out]; rfl, rfl⟩
                  · have H1 := Lib.hid h1
                    clear h1
                    go_wp2_with (go_at_call 31; refine (within_any _ _ _ _).mono ?_; rintro e w' ⟨rfl, rfl⟩; rw [H1.out])
                    go_meet
                    exact ⟨by rw [E3.out, H1.out]; rfl, rfl⟩
                case rest =>
                  obtain ⟨rfl, rfl⟩ := hcut
                  have hb2 := hb.alloc hzr (.cells #[.int .i64 pr, .slice A ops.length c] 32)
                  obtain ⟨b4, hb4⟩ : ∃ b4, (b3 && task0 ⟨pr, ops⟩) = b4 := ⟨_, rfl⟩
                  rw [hb4]
                  have E4 : Hid ((b2 && (t.tasks.take (j + 1)).all Tk.Task.fits) = (b4 && Tk.opsFit ops 0)) := by show _ = _; rw [E.out, hb4]
                  clear hb4 hc0 hc1 hc1'
                  go_wp2_with fail
                  go_loopg [3, 81] ops.length (fun k2 v i wx => ∃ m : Nat, m ≤ ops.length ∧ i = .int .i64 m ∧ v = .bool (b4 && Tk.opsFit (ops.take m) 0) ∧ Below w.heap.size w wx ∧ ops.length - m ≤ k2)
                  case atStart => exact ⟨0, Nat.zero_le _, rfl, by simp [Tk.opsFit], hb2, by omega⟩
                  case round =>
                    obtain ⟨m, hm, rfl, rfl, hbx, hk2⟩ := hrel
                    have hzx := hbx.size
                    by_cases hlm : m < ops.length
                    · have hlm' : (m : Int) < ops.length := by omega
                      obtain ⟨ad2, eA2, had2, o0, o1, o2⟩ := (HRO.out.below hbx (Nat.le_refl _)).op hlm
                      subst eA2
                      have S2 := Lib.hid (opsFit_take ops m hlm)
                      obtain ⟨o, ho⟩ : ∃ o, o = ops[m] := ⟨_, rfl⟩
                      rw [← ho] at o0 o1 o2 S2
                      clear ho
                      have o1' := o1
                      have o2' := o2
                      rw [← add_of_add, add_pos _ _ (by decide)] at o1' o2'
                      have HM : (m : Int) ≤ (maxLen : Int) := by unfold maxLen; omega
                      have HMM := Lib.hid HM
                      clear HM
                      rcases hbb : (b4 && Tk.opsFit (ops.take m) 0) with _ | _
                      · have E5 : Hid ((b4 && Tk.opsFit (ops.take (m + 1)) 0) = false) := by show _ = _; rw [S2.out, ← Bool.and_assoc, hbb]; rfl
                        clear hbb
                        go_wp2_with fail
                        go_roundg (ops.length - (m + 1))
                        case measure => omega
                        case rel => exact ⟨m + 1, by omega, by go_num, by rw [E5.out], hbx.alloc hzx _, Nat.le_refl _⟩
                      · have E5 : Hid ((b4 && Tk.opsFit (ops.take (m + 1)) 0) = o.fits m) := by show _ = _; rw [S2.out, ← Bool.and_assoc, hbb]; rfl
                        clear hbb
                        go_wp2_with fail
                        refine (right_any o m HMM.out _).mono ?_
                        rintro e w5 ⟨rfl, b5⟩
                        have hb5 := (hbx.alloc hzx (.cells #[.int .i64 o.kind, .int .i64 o.a, .int .i64 o.b] 34)).trans (b5.mono (by simp; omega))
                        go_wp2_with fail
                        go_roundg (ops.length - (m + 1))
                        case measure => omega
                        case rel => exact ⟨m + 1, by omega, by go_num, by rw [E5.out], hb5, Nat.le_refl _⟩
                    · have hgm : ¬ (m : Int) < ops.length := by omega
                      have hall : ops.take m = ops := List.take_of_length_le (by omega)
                      rw [hall]
                      clear hall
                      go_wp2_with fail
                      go_roundg (t.tasks.length - (j + 1))
                      case measure => omega
                      case rel => exact ⟨j + 1, by omega, by go_num, by rw [E4.out], hbx, Nat.le_refl _⟩
              · have hge2 : ¬ (j : Int) < t.tasks.length := by omega
                have hall : t.tasks.take j = t.tasks := List.take_of_length_le (by omega)
                rw [hall]
                clear hall
                have E : Hid (t.fits = (b2 && t.tasks.all Tk.Task.fits)) := by show _ = _; rw [table_fits, HB0.out, HB1.out, HB2.out]
                rcases hf : (b2 && t.tasks.all Tk.Task.fits) with _ | _
                · rw [hf] at E
                  clear hf
                  go_wp2_with fail
                  go_ret
                  exact ⟨ret_int (by unfold chk; rw [E.out]; rfl), hb⟩
                · rw [hf] at E
                  clear hf
                  go_wp2_with fail
                  go_ret
                  exact ⟨ret_int (by unfold chk; rw [E.out]; rfl), hb⟩
end Go.Proofs.YtadcfedjmofjjaaDoor
