/-
  The document's text of a table: the walk of its Text.
-/
import Derived.Test.YtadcfedjmofjjaaDoorT1
import Derived.Test.YtadcfedjmofjjaaDoorTextQ
import Derived.Test.YtadcfedjmofjjaaDoorC4
import Derived.Test.YtadcfedjmofjjaaDoorD3
import Derived.BigQuiet
namespace Go.Proofs.YtadcfedjmofjjaaDoor
open Go.RowKit
theorem unlines_app (a b : List (List UInt8)) : Tk.unlines (a ++ b) = Tk.unlines a ++ Tk.unlines b := by unfold Tk.unlines; rw [List.flatMap_append]
theorem unlines_one (a : List UInt8) : Tk.unlines [a] = a ++ [10] := by simp [Tk.unlines]
def headLines (t : Tk.Table) : List (List UInt8) := [[115, 101, 109, 115] ++ Tk.numbers t.sems, [109, 117, 116, 101, 120, 101, 115] ++ Tk.numbers [t.mutexes], [113, 117, 101, 117, 101, 115] ++ Tk.numbers t.queues]
theorem textLines_head (t : Tk.Table) : Tk.textLines t = headLines t ++ t.tasks.flatMap Tk.taskLines := rfl
/-- What Name answers, as the texts have it. -/
theorem op_facts (kd : Nat) (h : kd < 15) : ∃ (N : ByteArray) (p : Nat), strV (shapes[kd]'h).name = .string N ∧ bytesOf N = (Tk.names.getD kd ([], 0)).1 ∧ (N.size : Int) ≤ 6 ∧ (shapes[kd]'h).parts = p ∧ (Tk.names.getD kd ([], 0)).2 = p ∧ (p = 0 ∨ p = 1 ∨ p = 2) := by
  have key : ∀ k : Fin 15, (shapes[k.1]'k.2).name = (Tk.names.getD k.1 ([], 0)).1 ∧ (shapes[k.1]'k.2).name.length ≤ 6 ∧ (shapes[k.1]'k.2).parts = (Tk.names.getD k.1 ([], 0)).2 ∧ ((Tk.names.getD k.1 ([], 0)).2 = 0 ∨ (Tk.names.getD k.1 ([], 0)).2 = 1 ∨ (Tk.names.getD k.1 ([], 0)).2 = 2) := by decide
  obtain ⟨k1, k2, k3, k4⟩ := key ⟨kd, h⟩
  refine ⟨⟨(shapes[kd]'h).name.toArray⟩, _, rfl, k1, ?_, k3, rfl, k4⟩
  show (((shapes[kd]'h).name.toArray.size : Nat) : Int) ≤ 6
  rw [List.size_toArray]
  have k2' : (shapes[kd]'h).name.length ≤ 6 := k2
  omega
theorem made_reads (w : World) (T : TypeId) (l : List Int) (xs : Array Value) (h : ∀ (j : Nat) (u : Value), (intV l)[j]? = some u → xs[j]? = some u) :
    Reads (w.alloc (.cells xs T)) (w.heap.size + 1) 1 (some ⟨w.heap.size, 0, none⟩) l.length (intV l) := by
  refine ⟨by simp [intV], fun _ => ⟨_, rfl, by simp, fun j u hj => ?_⟩⟩
  have hw := (Whole.made w T xs).cell j
  rw [h j u hj] at hw
  rcases j with _ | j
  · exact hw
  · rw [add_pos _ _ (by omega), Nat.zero_add]
    exact hw
def Reaches (l : List Int) (xs : Array Value) : Prop := ∀ (j : Nat) (u : Value), (intV l)[j]? = some u → xs[j]? = some u
theorem args_one (a b : Int) : Reaches [a] #[.int .i64 a, .int .i64 b] := by
  intro j u h
  rcases j with _ | j
  · simpa [intV] using h
  · simp [intV] at h
theorem args_two (a b : Int) : Reaches [a, b] #[.int .i64 a, .int .i64 b] := by
  intro j u h
  rcases j with _ | _ | j
  · simpa [intV] using h
  · simpa [intV] using h
  · simp [intV] at h
theorem args_reads (w : World) (o : Obj) (T : TypeId) (l : List Int) (xs : Array Value) (h : Reaches l xs) :
    Reads ((w.alloc o).alloc (.cells xs T)) (w.heap.size + 2) 1 (some ⟨w.heap.size + 1, 0, none⟩) l.length (intV l) := by
  have k := made_reads (w.alloc o) T l xs h
  rw [show (w.alloc o).heap.size = w.heap.size + 1 by simp] at k
  exact k
theorem opLine_of {kd : Nat} {a b : Int} {N S : ByteArray} (hN : bytesOf N = (Tk.names.getD kd ([], 0)).1) (l : List Int) (hl : [a, b].take (Tk.names.getD kd ([], 0)).2 = l) (hS : bytesOf S = Tk.numbers l) :
    Tk.opLine ⟨kd, a, b⟩ = 32 :: (bytesOf N ++ bytesOf S) := by
  unfold Tk.opLine Tk.opArgs
  rw [hN, hS, ← hl]
  rfl
theorem round_of {q r1 N S : ByteArray} {ops : List Tk.Op} {m : Nat} {o : Tk.Op} (hq : bytesOf q = bytesOf r1 ++ Tk.unlines ((ops.take m).map Tk.opLine)) (ht : ops.take (m + 1) = ops.take m ++ [o]) (ho : Tk.opLine o = 32 :: (bytesOf N ++ bytesOf S)) :
    bytesOf (q ++ ⟨#[32]⟩ ++ N ++ S ++ ⟨#[10]⟩) = bytesOf r1 ++ Tk.unlines ((ops.take (m + 1)).map Tk.opLine) := by
  simp only [bytesOf_app]
  rw [hq, ht, List.map_append, unlines_app, List.map_cons, List.map_nil, unlines_one, ho]
  simp [bytesOf]
theorem round_size {q N S : ByteArray} {n : Int} (hq : (q.size : Int) ≤ n) (hN : (N.size : Int) ≤ 6) (hS : (S.size : Int) ≤ 10) : ((q ++ ⟨#[32]⟩ ++ N ++ S ++ ⟨#[10]⟩).size : Int) ≤ n + 20 := by
  simp only [ByteArray.size_append]
  have : (⟨#[32]⟩ : ByteArray).size = 1 := rfl
  have : (⟨#[10]⟩ : ByteArray).size = 1 := rfl
  omega
set_option maxRecDepth 100000 in
set_option maxHeartbeats 4000000 in
theorem rtext_any {w : World} {A1 A2 A3 : Option Addr} {c1 c2 c3 : Nat} {t : Tk.Table} (hr : TabRd w w.heap.size A1 A2 A3 t) :
    Calls Tryd.prog 15 #[.agg #[.slice A1 t.tasks.length c1, .slice A2 t.sems.length c2, .int .i64 t.mutexes, .slice A3 t.queues.length c3]] w
      fun e w' => ∃ S : ByteArray, e = .returned (.string S) ∧ bytesOf S = Tk.text t ∧ (S.size : Int) ≤ 100000 ∧ Below w.heap.size w w' := by
  have HR := Lib.hid hr
  clear hr
  have hb1 := (Below.refl w.heap.size w).alloc (Nat.le_refl _) (.cells #[.slice A1 t.tasks.length c1, .slice A2 t.sems.length c2, .int .i64 t.mutexes, .slice A3 t.queues.length c3] 26)
  rcases hf : t.fits with _ | _
  · have E := Lib.hid (chk_no hf)
    have ET : Hid (Tk.text t = []) := by show _ = _; unfold Tk.text; rw [hf]; rfl
    clear hf
    go_enter Tryd.func15, Tryd.ntmps15
    go_wp2_with fail
    refine (rcheck_any ((HR.out.below hb1 (Nat.le_refl _)).more (by simp))).mono ?_
    rintro e w2 ⟨rfl, hb2⟩
    rw [E.out]
    go_wp2_with fail
    go_ret
    exact ⟨_, rfl, ET.out.symm, by decide, hb1.trans (hb2.mono (by simp))⟩
  · have E := Lib.hid (chk_yes hf)
    have hq : t.tasks.length ≤ 32 ∧ t.sems.length ≤ 8 ∧ t.queues.length ≤ 8 := by
      have h := hf
      unfold Tk.Table.fits at h
      rw [Bool.and_eq_true, Bool.and_eq_true, Bool.and_eq_true] at h
      have h1 := of_decide_eq_true h.1.1.1
      omega
    obtain ⟨q1, q2, q3⟩ := hq
    have hrd := Tk.fits_reads hf
    have hops : ∀ x ∈ t.tasks, x.ops.length ≤ 100 := by
      intro x hx
      have h := hf
      unfold Tk.Table.fits at h
      rw [Bool.and_eq_true] at h
      have h := List.all_eq_true.1 h.2 x hx
      unfold Tk.Task.fits at h
      rw [Bool.and_eq_true] at h
      exact (of_decide_eq_true h.1).2.2
    have HOPS := Lib.hid hops
    clear hops
    have ET : Hid (Tk.text t = Tk.unlines (headLines t) ++ Tk.unlines (t.tasks.flatMap Tk.taskLines)) := by
      show _ = _
      unfold Tk.text
      rw [hf, if_pos rfl, textLines_head, unlines_app]
    obtain ⟨S1, hS1, C1⟩ := rnumbers_str t.sems (by omega) hrd.sems
    obtain ⟨S2, hS2, C2⟩ := rNum_str t.mutexes hrd.mutexes.1 (by have := hrd.mutexes.2; omega)
    obtain ⟨S3, hS3, C3⟩ := rnumbers_str t.queues (by omega) hrd.queues
    have z1 := text_size hS1 (n := 40) (by have := numbers_len t.sems hrd.sems; omega)
    have z2 := text_size hS2 (n := 4) (numStr_len hrd.mutexes.1 hrd.mutexes.2)
    have z3 := text_size hS3 (n := 40) (by have := numbers_len t.queues hrd.queues; omega)
    have HRD := Lib.hid hrd
    have HS1 := Lib.hid hS1
    have HS2 := Lib.hid hS2
    have HS3 := Lib.hid hS3
    clear hf hrd hS1 hS2 hS3
    go_enter Tryd.func15, Tryd.ntmps15
    go_wp2_with fail
    refine (rcheck_any ((HR.out.below hb1 (Nat.le_refl _)).more (by simp))).mono ?_
    rintro e w2 ⟨rfl, hb2⟩
    rw [E.out]
    have g0 := hb2.cell (p := ⟨w.heap.size, 0, none⟩) (by simp)
    have g1 := hb2.cell (p := ⟨w.heap.size, 1, none⟩) (by simp)
    have g2 := hb2.cell (p := ⟨w.heap.size, 2, none⟩) (by simp)
    have g3 := hb2.cell (p := ⟨w.heap.size, 3, none⟩) (by simp)
    have hz2 := hb2.size
    simp at g0 g1 g2 g3 hz2
    have hb12 := hb1.trans (hb2.mono (by simp))
    have D1 : ∀ n, Calls Tryd.prog 28 #[.slice A2 t.sems.length c2] (w2.drewN n) fun e w' => e = .returned (.string S1) ∧ w' = w2.drewN n := fun n => C1 _ _ _ w.heap.size ((HR.out.below (hb12.drewN' n) (Nat.le_refl _)).sems)
    have D3 : ∀ n, Calls Tryd.prog 28 #[.slice A3 t.queues.length c3] (w2.drewN n) fun e w' => e = .returned (.string S3) ∧ w' = w2.drewN n := fun n => C3 _ _ _ w.heap.size ((HR.out.below (hb12.drewN' n) (Nat.le_refl _)).queues)
    have HB12 := Lib.hid hb12
    clear hb12 hb1
    go_wp2
    refine wp_region_quiet_lit (by kernel_rfl) (by kernel_rfl) ?_
    go_big_quiet_step (fail)
    go_big_quiet_step (fail)
    go_big_quiet_step ((go_at_call 28; exact Calls.quiet_of_same (D1 _)))
    go_big_quiet_step (fail)
    go_big_quiet_step (fail)
    go_big_quiet_step (fail)
    go_big_quiet_step (fail)
    go_big_quiet_step ((go_at_call 29; exact Calls.quiet_of_same (C2 _)))
    go_big_quiet_step (fail)
    go_big_quiet_step (fail)
    go_big_quiet_step (fail)
    go_big_quiet_step (fail)
    go_big_quiet_step ((go_at_call 28; exact Calls.quiet_of_same (D3 _)))
    go_big_quiet_step (fail)
    go_big_quiet_step (fail)
    go_big_quiet_step (fail)
    refine wpQuiet_nil ?_
    intro _ hw'
    obtain ⟨nq, hw''⟩ := hw'
    subst hw''
    obtain ⟨H, eH⟩ : ∃ H : ByteArray, H = ⟨#[115, 101, 109, 115]⟩ ++ S1 ++ ⟨#[10, 109, 117, 116, 101, 120, 101, 115, 32]⟩ ++ S2 ++ ⟨#[10, 113, 117, 101, 117, 101, 115]⟩ ++ S3 ++ ⟨#[10]⟩ := ⟨_, rfl⟩
    have hH : bytesOf H = Tk.unlines (headLines t) := by
      rw [eH]
      simp only [bytesOf_app]
      rw [HS1.out, HS2.out, HS3.out]
      simp [headLines, Tk.unlines, Tk.numbers, bytesOf]
    have hHs : (H.size : Int) ≤ 200 := by
      rw [eH]
      simp only [ByteArray.size_append]
      have : (⟨#[115, 101, 109, 115]⟩ : ByteArray).size = 4 := rfl
      have : (⟨#[10, 109, 117, 116, 101, 120, 101, 115, 32]⟩ : ByteArray).size = 9 := rfl
      have : (⟨#[10, 113, 117, 101, 117, 101, 115]⟩ : ByteArray).size = 7 := rfl
      have : (⟨#[10]⟩ : ByteArray).size = 1 := rfl
      omega
    rw [← eH]
    clear eH
    have HH := Lib.hid hH
    clear hH
    go_wp2_with fail
    go_loopg [4, 3] t.tasks.length (fun kk i s wr => ∃ (j : Nat) (r : ByteArray), j ≤ t.tasks.length ∧ i = .int .i64 j ∧ s = .string r ∧ bytesOf r = Tk.unlines (headLines t) ++ Tk.unlines ((t.tasks.take j).flatMap Tk.taskLines) ∧ (r.size : Int) ≤ 200 + 3000 * j ∧ Below w2.heap.size w2 wr ∧ t.tasks.length - j ≤ kk)
    case atStart => exact ⟨0, H, Nat.zero_le _, rfl, rfl, by rw [HH.out]; simp [Tk.unlines], by omega, (Below.refl _ _).drewN' _, by omega⟩
    case round =>
      obtain ⟨j, r, hj, rfl, rfl, hs, hsz, hbb, hkk⟩ := hrel
      obtain ⟨wo, rfl⟩ : ∃ wo : World, wo = wr := ⟨_, rfl⟩
      have HS := Lib.hid hs
      clear hs
      have hzr := hbb.size
      have k0 := (hbb.cell (p := ⟨w.heap.size, 0, none⟩) (by simp; omega)).trans g0
      by_cases hlt : j < t.tasks.length
      · have hlt' : (j : Int) < t.tasks.length := by omega
        have HB := HB12.out.trans (hbb.mono (by omega))
        obtain ⟨ad, A, c, eA, had, hc0', hc1', hro, hln⟩ := HR.out.task j hlt
        subst eA
        have hc0 := (HB.cell (p := ad.add (j * 2)) (by rw [block_of_add]; exact had)).trans hc0'
        have hc1 := (HB.cell (p := ad.add (j * 2 + 1)) (by rw [block_of_add]; exact had)).trans hc1'
        have HC1 := Lib.hid hc1'
        clear hc0' hc1'
        have hmem := List.getElem_mem hlt
        have hpr := HRD.out.prio _ hmem
        have hol := HOPS.out _ hmem
        have HOO := Lib.hid (HRD.out.ops _ hmem)
        have HT : Hid (t.tasks.take (j + 1) = t.tasks.take j ++ [t.tasks[j]]) := List.take_succ_eq_append_getElem hlt
        obtain ⟨S4, hS4, C4⟩ := rNum_str t.tasks[j].prio hpr.1 (by omega)
        have z4 := text_size hS4 (n := 4) (numStr_len hpr.1 hpr.2)
        have HS4 := Lib.hid hS4
        clear hS4 hmem
        generalize t.tasks[j] = x at *
        obtain ⟨pr, ops⟩ := x
        have hc1' : wo.cell? ⟨(ad.add (j * 2)).block, (ad.add (j * 2)).off + 1, none⟩ = some (.slice A ops.length c) := by rw [← add_pos _ 1 (by decide), add_of_add]; exact hc1
        have HRO := Lib.hid hro
        clear hro hln
        go_wp2_with fail
        refine (C4 _).mono ?_
        rintro e w4 ⟨rfl, rfl⟩
        obtain ⟨r1, er1⟩ : ∃ r1 : ByteArray, r1 = r ++ ⟨#[116, 97, 115, 107, 32]⟩ ++ S4 ++ ⟨#[10]⟩ := ⟨_, rfl⟩
        have hr1 : bytesOf r1 = bytesOf r ++ Tk.unlines [[116, 97, 115, 107] ++ Tk.numbers [pr]] := by
          rw [er1]
          simp only [bytesOf_app]
          rw [HS4.out]
          simp [Tk.unlines, Tk.numbers, bytesOf]
        have hr1s : (r1.size : Int) ≤ 220 + 3000 * j := by
          rw [er1]
          simp only [ByteArray.size_append]
          have : (⟨#[116, 97, 115, 107, 32]⟩ : ByteArray).size = 5 := rfl
          have : (⟨#[10]⟩ : ByteArray).size = 1 := rfl
          omega
        have HR1 := Lib.hid hr1
        clear hr1
        go_wp2_with fail
        rw [← er1]
        clear er1
        go_wp2_with fail
        go_loopg [5, 3] ops.length (fun k2 i s wx => ∃ (m : Nat) (q : ByteArray), m ≤ ops.length ∧ i = .int .i64 m ∧ s = .string q ∧ bytesOf q = bytesOf r1 ++ Tk.unlines ((ops.take m).map Tk.opLine) ∧ (q.size : Int) ≤ 220 + 3000 * j + 20 * m ∧ Below w2.heap.size w2 wx ∧ ops.length - m ≤ k2)
        case atStart => exact ⟨0, r1, Nat.zero_le _, rfl, rfl, by simp [Tk.unlines], by omega, hbb, by omega⟩
        case round =>
          obtain ⟨m, q, hm, rfl, rfl, hqb, hqs, hbx, hk2⟩ := hrel
          obtain ⟨wi, rfl⟩ : ∃ wi : World, wi = wr := ⟨_, rfl⟩
          have HQ := Lib.hid hqb
          clear hqb
          have hzi := hbx.size
          have x0 := (hbx.cell (p := ⟨w.heap.size, 0, none⟩) (by simp; omega)).trans g0
          by_cases hlm : m < ops.length
          · have hlm' : (m : Int) < ops.length := by omega
            have HB2 := HB12.out.trans (hbx.mono (by omega))
            have y1 := (HB2.cell (p := ad.add (j * 2 + 1)) (by rw [block_of_add]; exact had)).trans HC1.out
            have y1' : wi.cell? ⟨(ad.add (j * 2)).block, (ad.add (j * 2)).off + 1, none⟩ = some (.slice A ops.length c) := by rw [← add_pos _ 1 (by decide), add_of_add]; exact y1
            obtain ⟨ad2, eA2, had2, o0, o1, o2⟩ := (HRO.out.below HB2 (Nat.le_refl _)).op hlm
            subst eA2
            obtain ⟨kd, ek, hk15, a1, a2, b1, b2, hb, ha⟩ := HOO.out ops[m] (List.getElem_mem hlm)
            have HTm : Hid (ops.take (m + 1) = ops.take m ++ [ops[m]]) := List.take_succ_eq_append_getElem hlm
            generalize ops[m] = x at *
            obtain ⟨kind, a, b⟩ := x
            have ek' : kind = kd := ek
            subst ek'
            clear ek
            have o1' : wi.cell? ⟨(ad2.add (m * 3)).block, (ad2.add (m * 3)).off + 1, none⟩ = some (.int .i64 a) := by rw [← add_pos _ 1 (by decide), add_of_add]; exact o1
            have o2' : wi.cell? ⟨(ad2.add (m * 3)).block, (ad2.add (m * 3)).off + 2, none⟩ = some (.int .i64 b) := by rw [← add_pos _ 2 (by decide), add_of_add]; exact o2
            obtain ⟨N, p, eN, hN, hNs, ep, ep2, hp⟩ := op_facts kd hk15
            have HN := Lib.hid hN
            have EP2 := Lib.hid ep2
            go_wp2_with fail
            refine (rname_any kd hk15 _).mono ?_
            rintro e w5 ⟨rfl, rfl⟩
            rw [eN, ep]
            rcases hp with rfl | rfl | rfl
            · obtain ⟨S5, hS5, C5⟩ := rnumbers_str [] (by simp) (by simp)
              have z5 := text_size hS5 (n := 10) (by simp [Tk.numbers])
              have HL := Lib.hid (opLine_of (a := a) (b := b) HN.out [] (by rw [EP2.out]; rfl) hS5)
              clear hS5
              go_wp2_with fail
              refine (C5 _ _ _ (wi.heap.size + 2) (⟨rfl, fun h => absurd h (by simp)⟩)).mono ?_
              rintro e w6 ⟨rfl, rfl⟩
              go_wp2_with fail
              go_roundg (ops.length - (m + 1))
              case measure => omega
              case rel => exact ⟨m + 1, _, by omega, by go_num, rfl, round_of HQ.out HTm.out HL.out, by have := round_size hqs hNs z5; omega, (hbx.alloc (by omega) _).alloc (by simp; omega) _, Nat.le_refl _⟩
            · obtain ⟨S5, hS5, C5⟩ := rnumbers_str [a] (by simp) (by simp; omega)
              have z5 := text_size hS5 (n := 10) (by have := numbers_len [a] (by simp; omega); simp at this ⊢; omega)
              have HA := args_one a b
              have HL := Lib.hid (opLine_of (a := a) (b := b) HN.out [a] (by rw [EP2.out]; rfl) hS5)
              clear hS5
              go_wp2_with fail
              refine (C5 _ _ _ _ (args_reads wi _ 3 [a] #[.int .i64 a, .int .i64 b] HA)).mono ?_
              rintro e w6 ⟨rfl, rfl⟩
              go_wp2_with fail
              go_roundg (ops.length - (m + 1))
              case measure => omega
              case rel => exact ⟨m + 1, _, by omega, by go_num, rfl, round_of HQ.out HTm.out HL.out, by have := round_size hqs hNs z5; omega, (hbx.alloc (by omega) _).alloc (by simp; omega) _, Nat.le_refl _⟩
            · obtain ⟨S5, hS5, C5⟩ := rnumbers_str [a, b] (by simp) (by simp; omega)
              have z5 := text_size hS5 (n := 10) (by have := numbers_len [a, b] (by simp; omega); simp at this ⊢; omega)
              have HA := args_two a b
              have HL := Lib.hid (opLine_of (a := a) (b := b) HN.out [a, b] (by rw [EP2.out]; rfl) hS5)
              clear hS5
              go_wp2_with fail
              refine (C5 _ _ _ _ (args_reads wi _ 3 [a, b] #[.int .i64 a, .int .i64 b] HA)).mono ?_
              rintro e w6 ⟨rfl, rfl⟩
              go_wp2_with fail
              go_roundg (ops.length - (m + 1))
              case measure => omega
              case rel => exact ⟨m + 1, _, by omega, by go_num, rfl, round_of HQ.out HTm.out HL.out, by have := round_size hqs hNs z5; omega, (hbx.alloc (by omega) _).alloc (by simp; omega) _, Nat.le_refl _⟩
          · have hge : ¬ (m : Int) < ops.length := by omega
            obtain rfl : m = ops.length := by omega
            have HB2 := HB12.out.trans (hbx.mono (by omega))
            have y1 := (HB2.cell (p := ad.add (j * 2 + 1)) (by rw [block_of_add]; exact had)).trans HC1.out
            have y1' : wi.cell? ⟨(ad.add (j * 2)).block, (ad.add (j * 2)).off + 1, none⟩ = some (.slice A ops.length c) := by rw [← add_pos _ 1 (by decide), add_of_add]; exact y1
            go_wp2_with fail
            go_roundg (t.tasks.length - (j + 1))
            case measure => omega
            case rel => exact ⟨j + 1, q, by omega, by go_num, rfl, by rw [HQ.out, HR1.out, HS.out, HT.out, List.take_length, List.flatMap_append, unlines_app]; simp [Tk.unlines, Tk.taskLines], by omega, hbx, Nat.le_refl _⟩
      · have hge : ¬ (j : Int) < t.tasks.length := by omega
        obtain rfl : j = t.tasks.length := by omega
        go_wp2_with fail
        go_ret
        exact ⟨_, rfl, by rw [HS.out, ET.out, List.take_length], by omega, HB12.out.trans (hbb.mono (by omega))⟩
end Go.Proofs.YtadcfedjmofjjaaDoor
