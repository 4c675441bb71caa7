/-
  The calls: the walk of recv.
  The loops' map: read and written.
-/
import Derived.Test.YtncbgnpoffolcaaNt
import Derived.Test.YtncbgnpoffolcaaM9
import Derived.Test.YtncbgnpoffolcaaM3
import Derived.Maps.Views
/-! The calls: the walk of recv. -/
namespace Go.Proofs.Ytncbgnpoffolcaa
open Go.RowKit
theorem run_cut3 (g off : Nat) (n c : Nat) (h1 : 1 ≤ n) (h2 : n ≤ c) (W : World) : (Instr.slice 24 (.slice (some ⟨g, off, none⟩) n c) (some (.int .i64 1)) (some (.int .i64 n)) (some (.int .i64 n))).run Try.prog W = .ok (.slice (some ⟨g, if n = 1 then off else off + 1, none⟩) (n - 1) (n - 1)) W := by
 have hu := Try.underlying24
 simp [Instr.slice, Instr.sliceBounds, Instr.sliceBound, asIntOf, run_underlying hu, go_sem]
 rw [if_pos (by omega)]
 by_cases hc : n = 1
 ·simp [hc]
 ·simp [hc]
  intro h
  omega
theorem KM.headCons {w : World} {B : Nat} {k : Kn.K} {L : Lay} {x : Nat} {y : Int} {r : List Int} (h : KM w B k L) (hx : x < 72) (hl : k.l x = y :: r) :
 L.nil (.l x) = false ∧ L.hd (.l x) (k.l x).length = .slice (some ⟨L.b (.l x), L.off (.l x), none⟩) (r.length + 1) (L.cap (.l x)) ∧ ListIs w.heap[L.b (.l x)]? (L.off (.l x)) (L.cap (.l x)) (y :: r) := by
 cases hn : L.nil (.l x) with
 | true => have := h.nil.2.2.2.2.2 x hn; rw [hl] at this; cases this
 | false =>
   refine ⟨rfl, ?_, ?_⟩
   ·unfold Lay.hd
    rw [hn, hl]
    rfl
   ·have := h.cont (.l x) ⟨hx, hn⟩
    show ListIs _ _ _ _
    rw [← hl]
    exact this
theorem ListIs.tail {o : Option Obj} {off cap : Nat} {y : Int} {r : List Int} (h : ListIs o off cap (y :: r)) : ListIs o (if r.length + 1 = 1 then off else off + 1) r.length r := by
 obtain ⟨cur, hb, h1, h2, h3, h4⟩ := h
 rw [List.length_cons] at h1
 refine ⟨cur, hb, zl _, ?_, h3, fun j x hj => ?_⟩
 ·split <;> omega
 ·have hjl := (List.getElem?_eq_some_iff.1 hj).1
  rw [if_neg (by omega), Nat.add_assoc, Nat.add_comm 1 j]
  exact h4 (j + 1) x (by simpa using hj)
set_option maxRecDepth 100000 in
set_option maxHeartbeats 16000000 in
theorem recv_any {w : World} {B : Nat} {k : Kn.K} {L : Lay} {m a : Nat} {kd ob : Int} (h : KM w B k L) (hk : Kn.Ok k) (hm : m < k.tasks.length) (hB : B ≤ w.heap.size) (_hs : (kT k m).state = 0) (ha : a ≤ 15) :
 Calls Try.prog 67 #[callV L m ⟨kd, a, ob⟩] w (CallPost w B (k.recv m ⟨kd, a, ob⟩) L) := by
 obtain ⟨W, hW⟩ : ∃ W, W = w.alloc (.cells #[.pointer (some ⟨L.b .ker, 0, none⟩), .int .i64 m, .pointer (some ⟨L.b (.t m), 0, none⟩), .int .i64 kd, .int .i64 (a : Int), .int .i64 ob] 112) := ⟨_, rfl⟩
 have hbb : Below w.heap.size w W := by rw [hW]; exact (zr _ _).alloc (zl _) _
 have hK := h.below hbb
 have wc : Whole W w.heap.size 112 #[.pointer (some ⟨L.b .ker, 0, none⟩), .int .i64 m, .pointer (some ⟨L.b (.t m), 0, none⟩), .int .i64 kd, .int .i64 (a : Int), .int .i64 ob] := by rw [hW]; exact zm w 112 _
 have hoW : Out W k L w.heap.size := ⟨wc.lt, fun c hc e => by have := h.lt hc; omega⟩
 have hBW : Below B w W := hbb.mono hB
 have hzW := hBW.size
 have c0 : W.cell? ⟨w.heap.size, 0, none⟩ = some (.pointer (some ⟨L.b .ker, 0, none⟩)) := wc.cell 0
 have c1 : W.cell? ⟨w.heap.size, 1, none⟩ = some (.int .i64 m) := wc.cell 1
 have c2 : W.cell? ⟨w.heap.size, 2, none⟩ = some (.pointer (some ⟨L.b (.t m), 0, none⟩)) := wc.cell 2
 have c3 : W.cell? ⟨w.heap.size, 3, none⟩ = some (.int .i64 kd) := wc.cell 3
 have c4 : W.cell? ⟨w.heap.size, 4, none⟩ = some (.int .i64 (a : Int)) := wc.cell 4
 have c5 : W.cell? ⟨w.heap.size, 5, none⟩ = some (.int .i64 ob) := wc.cell 5
 have s0 := hK.queHead
 obtain ⟨A, cp, hA⟩ := hd_slice L .qa k.size.length hK.nil.2.2.2.1
 rw [hA] at s0
 have hfew := hK.few
 have HA := zh hA
 have HW := zh hW
 have WC := zh wc
 have OW := zh hoW
 have BW := zh hBW
 have KW := zh hK
 have OK := zh hk
 clear h hW wc hoW hBW hbb hK hk
 clear hA
 by_cases hlt : a < k.size.length
 ·have ia : (a : Int) < k.size.length := by omega
  have ha8 : a < 8 := by omega
  have hd : decide (k.size.length ≤ a) = false := decide_eq_false (by omega)
  obtain ⟨e1, s1⟩ := KW.out.quePtr hlt
  rw [HA.out] at e1
  injection e1 with e1 _ e3
  subst e1
  subst e3
  have EK : Hid (k.recv m ⟨kd, a, ob⟩ = match k.l (48 + a) with | [] => k.wait m (some (64 + a)) 0 | x :: r => k.recv1 m a x r) := by
   show _ = _
   unfold Kn.K.recv
   rw [if_neg (by show ¬ k.size.length ≤ ((a : Int)).toNat; omega)]
   rfl
  have hq := KW.out.que hlt
  have u1 : W.cell? ⟨L.b (.q a), 1, none⟩ = some (L.hd (.l (48 + a)) (k.l (48 + a)).length) := hq.cell 1
  have uf1 := hq.frozen 1
  have hlen8 := OK.out.good.que (48 + a) (by omega) (by omega)
  clear hq
  rcases hl : k.l (48 + a) with _ | ⟨x, r⟩
  ·have ED : Hid (k.recv m ⟨kd, a, ob⟩ = k.wait m (some (64 + a)) 0) := by show _ = _; rw [EK.out, hl]
   obtain ⟨A8, c8, hAc8⟩ := hd_slice L (.l (48 + a)) (k.l (48 + a)).length (fun q => by rw [KW.out.nil.2.2.2.2.2 _ q]; rfl)
   rw [hAc8, hl] at u1
   have u1' : W.cell? ⟨L.b (.q a), 1, none⟩ = some (.slice A8 0 c8) := u1
   clear u1 hAc8 hl EK
   unfold callV
   go_enter Try.func67, Try.ntmps67
   go_upto_region 1 with fail
   rw [← HW.out]
   refine zy ?_
   repeat go_big_quiet_step (fail)
   refine wpQuiet_nil ?_
   intro _ hw'
   obtain ⟨n1, hw''⟩ := hw'
   subst hw''
   go_upto_region 3 with fail
   refine zy ?_
   repeat go_big_quiet_step (fail)
   refine wpQuiet_nil ?_
   intro _ hw'
   obtain ⟨n2, hw''⟩ := hw'
   subst hw''
   have KW2 : Hid (KM (W.drewN (n1 + n2)) B k L) := KW.out.below ((zr _ _).drewN' (n1 + n2))
   have BW2 : Hid (Below B w (W.drewN (n1 + n2))) := BW.out.drewN' (n1 + n2)
   have hBW2 : B ≤ (W.drewN (n1 + n2)).heap.size := by show B ≤ W.heap.size; omega
   have HWE := zh (fun n => wait_empty (w := W.drewN n) (m := m) (i := a) 0 (KW.out.below ((zr _ _).drewN' n)) OK.out.fine (by decide) hm hBW2 hlt)
   unfold Lay.ptr at HWE
   go_upto_region 5 with fail
   refine wp_region_still_tail 8 (by kernel_rfl) (by kernel_rfl) ?_
   simp only [List.take_succ_cons, List.take_zero, List.drop_succ_cons, List.drop_zero]
   change wpStill _ _ (World.drewN _ 1) _ _ _
   repeat still_step
   refine wpStill_nil ?_
   change wpList _ _ _ _ _ (World.drewN _ 1)
   go_wp2_with (go_at_call 84; refine (HWE.out _).mono ?_; rintro e w1 ⟨rfl, L1, k1, s1, b1⟩)
   go_wp2_with fail
   go_end0
   rw [ED.out]
   exact ⟨rfl, L1, k1, s1, (BW.out.drewN' _).trans b1⟩
  ·have ED0 : Hid (k.recv m ⟨kd, a, ob⟩ = k.recv1 m a x r) := by show _ = _; rw [EK.out, hl]
   obtain ⟨hnl, hhd, hLI⟩ := KW.out.headCons (x := 48 + a) (by omega) hl
   rw [hhd] at u1
   rw [hl, List.length_cons] at hlen8
   have hcx := hLI.cell (j := 0) (by simp)
   simp at hcx
   have hpos : (0 : Int) < (r.length : Int) + 1 := by omega
   have hne0 : ¬ ((r.length : Int) + 1 = 0) := by omega
   have HL := zh hl
   have HNL := zh hnl
   have HHD := zh hhd
   have hoT := OW.out.2 (.t m) hm
   have hoT2 : w.heap.size ≠ L.b (.t m) := fun e => hoT e.symm
   have hoQ := OW.out.2 (.q a) hlt
   have hoQ2 : w.heap.size ≠ L.b (.q a) := fun e => hoQ e.symm
   clear hl hnl hhd hLI EK
   unfold callV
   go_enter Try.func67, Try.ntmps67
   go_upto_region 1 with fail
   rw [← HW.out]
   refine zy ?_
   repeat go_big_quiet_step (fail)
   refine wpQuiet_nil ?_
   intro _ hw'
   obtain ⟨n1, hw''⟩ := hw'
   subst hw''
   go_upto_region 3 with fail
   refine zy ?_
   repeat go_big_quiet_step (fail)
   refine wpQuiet_nil ?_
   intro _ hw'
   obtain ⟨n2, hw''⟩ := hw'
   subst hw''
   have KW2 : Hid (KM (W.drewN (n1 + n2)) B k L) := KW.out.below ((zr _ _).drewN' (n1 + n2))
   have BW2 : Hid (Below B w (W.drewN (n1 + n2))) := BW.out.drewN' (n1 + n2)
   have hBW2 : B ≤ (W.drewN (n1 + n2)).heap.size := by show B ≤ W.heap.size; omega
   have HS := zh (fun n => say_near (o := ⟨kd, a, ob⟩) (w := W.drewN n) (m := m) x (KW.out.below ((zr _ _).drewN' n)) hm hBW2)
   unfold callV at HS
   go_upto_region 6 with fail
   refine wp_region_still_tail 7 (by kernel_rfl) (by kernel_rfl) ?_
   simp only [List.take_succ_cons, List.take_zero, List.drop_succ_cons, List.drop_zero]
   change wpStill _ _ (World.drewN _ 1) _ _ _
   repeat still_step
   refine wpStill_nil ?_
   change wpList _ _ _ _ _ (World.drewN _ 1)
   go_wp2_with (go_at_call 83; refine (HS.out _).mono ?_; rintro e w1 ⟨rfl, k1, b1, f1⟩)
   iterate 1
    have wc1 : Whole w1 w.heap.size 112 #[.pointer (some ⟨L.b .ker, 0, none⟩), .int .i64 m, .pointer (some ⟨L.b (.t m), 0, none⟩), .int .i64 kd, .int .i64 (a : Int), .int .i64 ob] := WC.out.same (f1 _ OW.out.1 hoT2)
    have hz1 := b1.size
    have hz1' : W.heap.size ≤ w1.heap.size := hz1
    have hB1 : B ≤ w1.heap.size := by omega
    have BB1 : Hid (Below B w w1) := (BW.out.drewN' _).trans b1
    have OW1 : Hid (Out w1 (k.say m x) L w.heap.size) := ⟨wc1.lt, fun c hc => OW.out.2 c ((setT_live hm rfl c).1 hc)⟩
    have hl1 : (k.say m x).l (48 + a) = x :: r := HL.out
    obtain ⟨hnl, hhd, hLI⟩ := k1.headCons (x := 48 + a) (by omega) hl1
    have wq1 := k1.que (a := a) hlt
    clear u1 uf1 hcx c0 c1 c2 c3 c4 c5 s0 s1
    have u1 : w1.cell? ⟨L.b (.q a), 1, none⟩ = some (L.hd (.l (48 + a)) ((k.say m x).l (48 + a)).length) := wq1.cell 1
    rw [hhd] at u1
    have uf1 := wq1.frozen 1
    obtain ⟨q1, q2⟩ := holder_que ha8
    have hcap : r.length + 1 ≤ L.cap (.l (48 + a)) := by obtain ⟨cur, _, q, _⟩ := hLI; rw [List.length_cons] at q; exact q
    have hcut := run_cut3 (L.b (.l (48 + a))) (L.off (.l (48 + a))) (r.length + 1) (L.cap (.l (48 + a))) (by omega) hcap
    obtain ⟨off', hoff⟩ : ∃ off', off' = if r.length + 1 = 1 then L.off (.l (48 + a)) else L.off (.l (48 + a)) + 1 := ⟨_, rfl⟩
    rw [← hoff, Nat.add_sub_cancel] at hcut
    have hcut' : ∀ W : World, (Instr.slice 24 (.slice (some ⟨L.b (.l (48 + a)), L.off (.l (48 + a)), none⟩) (r.length + 1) (L.cap (.l (48 + a)))) (some (.int .i64 1)) (some (.int .i64 ((r.length : Int) + 1))) (some (.int .i64 ((r.length : Int) + 1)))).run Try.prog W = .ok (.slice (some ⟨L.b (.l (48 + a)), off', none⟩) r.length r.length) W := hcut
    clear hcut
    have hLI5 := hLI.tail
    rw [← hoff] at hLI5
    obtain ⟨L5, k5', s5, n5⟩ := (k1.below ((zr _ _).drewN' 1)).putListN (w1 := w1.drewN 1) (f := fun _ => r) (v := .slice (some ⟨L.b (.l (48 + a)), off', none⟩) r.length r.length) (show 48 + a < 72 by omega) (by rw [q1]; exact hlt) (.inr ⟨_, off', r.length, rfl, rfl, hLI5⟩) (fun b _ _ => rfl) (fun b hb => .inl ⟨hnl, by injection hb with hb; exact hb.symm⟩) hB1
    rw [q1, q2] at k5'
    have OK5 : Hid (Kn.Ok ((k.say m x).setL (48 + a) fun _ => r)) := ((OK.out.say (a := x) hm).1.queSet (a := a) (f := fun _ => r) ha8 (by show r.length ≤ 16; omega)).1
    have OK8 : Hid (∀ v : Int, Kn.Ok (((k.say m x).setL (48 + a) fun _ => r).setL (48 + a) (· ++ [v]))) := fun v => (OK5.out.queSet (a := a) (f := (· ++ [v])) ha8 (by rw [Kn.l_setL' (k := k.say m x) OK.out.inv.lens (by omega), if_pos rfl]; show (r ++ [v]).length ≤ 16; simp; omega)).1
    have HTL : Hid (((k.say m x).setL (48 + a) fun _ => r).tasks.length = k.tasks.length) := by show (k.setT m _).tasks.length = _; rw [setT_len]
    have ED1 : Hid (k.recv m ⟨kd, a, ob⟩ = ((k.say m x).setL (48 + a) fun _ => r).recv2 a (((k.say m x).setL (48 + a) fun _ => r).best (((k.say m x).setL (48 + a) fun _ => r).l (56 + a)))) := by
     show _ = _
     rw [ED0.out]
     unfold Kn.K.recv1
     rw [Kn.l_setL' (k := k.say m x) OK.out.inv.lens (by omega), if_neg (by omega)]
     rfl
    have hltk : ((k.say m x).setL (48 + a) fun _ => r).size.length = k.size.length := rfl
    obtain ⟨W5, hW5⟩ : ∃ W5, W5 = (w1.drewN 1).setCell ⟨L.b (.q a), 1, none⟩ (.slice (some ⟨L.b (.l (48 + a)), off', none⟩) r.length r.length) := ⟨_, rfl⟩
    have hlowQ := k1.low (.q a) hlt
    have WC5 : Hid (Whole W5 w.heap.size 112 #[.pointer (some ⟨L.b .ker, 0, none⟩), .int .i64 m, .pointer (some ⟨L.b (.t m), 0, none⟩), .int .i64 kd, .int .i64 (a : Int), .int .i64 ob]) := by show Whole _ _ _ _; rw [hW5]; exact Whole.far (w := w1.drewN 1) wc1 hoQ2 _
    have BB5 : Hid (Below B w W5) := by show Below _ _ _; rw [hW5]; exact (BB1.out.drewN' 1).setCell (p := ⟨L.b (.q a), 1, none⟩) hlowQ _
    have OW5 : Hid (Out W5 ((k.say m x).setL (48 + a) fun _ => r) L5 w.heap.size) := OW1.out.near n5 (by rw [hW5, World.size_setCell]; exact zl _)
    rw [← hW5] at k5'
    have K5 := zh k5'
    have S5 := zh s5
    clear k1 b1 f1 wc1 hhd hLI hLI5 wq1 hoff k5' s5 n5 hnl hl1
    have QQ := zh (⟨q1, q2⟩ : holder (48 + a) = .q a ∧ holdAt (48 + a) = 1)
    clear q1 q2
    go_upto_region 7 with fail
    refine wp_region_still_tail 18 (by kernel_rfl) (by kernel_rfl) ?_
    simp only [List.take_succ_cons, List.take_zero, List.drop_succ_cons, List.drop_zero]
    change wpStill _ _ (World.drewN _ 1) _ _ _
    repeat still_step
    refine wpStill_nil ?_
    change wpList _ _ _ _ _ (World.drewN _ 1)
    go_upto_region 8 with fail
    rw [← hW5]
    clear u1 uf1 hcut' hW5
    have hz5 := BB5.out.size
    have hlt5 := OW5.out.1
    generalize hk5 : ((k.say m x).setL (48 + a) fun _ => r) = k5 at *
    have hlt5' : a < k5.size.length := by rw [hltk]; exact hlt
    have hq5 := K5.out.que (a := a) hlt5'
    obtain ⟨A, c, hAc, hrd⟩ := K5.out.readList (x := 56 + a) (by omega)
    have eK5 : L5.b .ker = L.b .ker := S5.out .ker rfl
    have eQ : L5.b (.q a) = L.b (.q a) := S5.out (.q a) rfl
    have v2 : W5.cell? ⟨L.b (.q a), 2, none⟩ = some (.slice A (k5.l (56 + a)).length c) := by
     have := hq5.cell 2
     rw [eQ] at this
     rw [this]
     show some (L5.hd (.l (56 + a)) (k5.l (56 + a)).length) = _
     rw [hAc]
    have hvl := OK5.out.fine.val (56 + a) (by omega)
    have hlen5 : (k5.l (56 + a)).length ≤ 1000000 := by have := OK5.out.fine.len (56 + a); omega
    have htl : k5.tasks.length ≤ 1000000 := by have := OK5.out.fine.tasks; omega
    have HBE := zh (fun n => best_any (w := W5.drewN n) (c := c) (K5.out.below ((zr _ _).drewN' n)) (xs := k5.l (56 + a)) hvl hrd hlen5 htl)
    have hbv := OK5.out.inv.best (x := 56 + a) (by unfold Kn.TL; omega) (by omega)
    obtain ⟨b, hb⟩ : ∃ b, k5.best (k5.l (56 + a)) = b := ⟨_, rfl⟩
    rw [hb] at HBE hbv ED1
    unfold Lay.ptr at HBE
    rw [eK5] at HBE
    clear hb hAc hq5 hrd hvl
    have d0 : W5.cell? ⟨w.heap.size, 0, none⟩ = some (.pointer (some ⟨L.b .ker, 0, none⟩)) := WC5.out.cell 0
    have d1 : W5.cell? ⟨w.heap.size, 1, none⟩ = some (.int .i64 m) := WC5.out.cell 1
    have d2 : W5.cell? ⟨w.heap.size, 2, none⟩ = some (.pointer (some ⟨L.b (.t m), 0, none⟩)) := WC5.out.cell 2
    have d3 : W5.cell? ⟨w.heap.size, 3, none⟩ = some (.int .i64 kd) := WC5.out.cell 3
    have d4 : W5.cell? ⟨w.heap.size, 4, none⟩ = some (.int .i64 (a : Int)) := WC5.out.cell 4
    have d5 : W5.cell? ⟨w.heap.size, 5, none⟩ = some (.int .i64 ob) := WC5.out.cell 5
    rcases hbv with rfl | ⟨j, rfl, hj, hsj, _⟩
    ·refine wp_region_still_tail 7 (by kernel_rfl) (by kernel_rfl) ?_
     simp only [List.take_succ_cons, List.take_zero, List.drop_succ_cons, List.drop_zero]
     change wpStill _ _ (World.drewN _ 1) _ _ _
     repeat still_step
     refine wpStill_nil ?_
     change wpList _ _ _ _ _ (World.drewN _ 1)
     go_upto_region 9 with (go_at_call 81; refine (HBE.out _).mono ?_; rintro e w6 ⟨rfl, b6⟩)
     have k6 := (K5.out.below ((zr _ _).drewN' _)).below b6
     have hz6 := b6.size
     have hz6' : W5.heap.size ≤ w6.heap.size := hz6
     have hB6 : B ≤ w6.heap.size := by omega
     have WC6 : Hid (Whole w6 w.heap.size 112 #[.pointer (some ⟨L.b .ker, 0, none⟩), .int .i64 m, .pointer (some ⟨L.b (.t m), 0, none⟩), .int .i64 kd, .int .i64 (a : Int), .int .i64 ob]) := WC5.out.same (b6.block _ hlt5)
     have OW6 : Hid (Out w6 k5 L5 w.heap.size) := ⟨WC6.out.lt, OW5.out.2⟩
     have BB6 : Hid (Below B w w6) := (BB5.out.drewN' _).trans (b6.mono (by show B ≤ W5.heap.size; omega))
     have hlt6 : w.heap.size < w6.heap.size := WC6.out.lt
     clear d0 d1 d2 d3 d4 d5 v2
     have d0 : w6.cell? ⟨w.heap.size, 0, none⟩ = some (.pointer (some ⟨L.b .ker, 0, none⟩)) := WC6.out.cell 0
     have d1 : w6.cell? ⟨w.heap.size, 1, none⟩ = some (.int .i64 m) := WC6.out.cell 1
     have d2 : w6.cell? ⟨w.heap.size, 2, none⟩ = some (.pointer (some ⟨L.b (.t m), 0, none⟩)) := WC6.out.cell 2
     have d3 : w6.cell? ⟨w.heap.size, 3, none⟩ = some (.int .i64 kd) := WC6.out.cell 3
     have d4 : w6.cell? ⟨w.heap.size, 4, none⟩ = some (.int .i64 (a : Int)) := WC6.out.cell 4
     have d5 : w6.cell? ⟨w.heap.size, 5, none⟩ = some (.int .i64 ob) := WC6.out.cell 5
     have ED : Hid (k.recv m ⟨kd, a, ob⟩ = k5) := by show _ = _; rw [ED1.out]; unfold Kn.K.recv2; rw [if_neg (by omega)]
     have K6 := zh k6
     clear k6 b6
     go_wp2_with fail
     go_end0
     rw [ED.out]
     exact ⟨rfl, L5, K6.out, S5.out, BB6.out⟩
    ·refine wp_region_still_tail 7 (by kernel_rfl) (by kernel_rfl) ?_
     simp only [List.take_succ_cons, List.take_zero, List.drop_succ_cons, List.drop_zero]
     change wpStill _ _ (World.drewN _ 1) _ _ _
     repeat still_step
     refine wpStill_nil ?_
     change wpList _ _ _ _ _ (World.drewN _ 1)
     go_upto_region 9 with (go_at_call 81; refine (HBE.out _).mono ?_; rintro e w6 ⟨rfl, b6⟩)
     have k6 := (K5.out.below ((zr _ _).drewN' _)).below b6
     have hz6 := b6.size
     have hz6' : W5.heap.size ≤ w6.heap.size := hz6
     have hB6 : B ≤ w6.heap.size := by omega
     have WC6 : Hid (Whole w6 w.heap.size 112 #[.pointer (some ⟨L.b .ker, 0, none⟩), .int .i64 m, .pointer (some ⟨L.b (.t m), 0, none⟩), .int .i64 kd, .int .i64 (a : Int), .int .i64 ob]) := WC5.out.same (b6.block _ hlt5)
     have OW6 : Hid (Out w6 k5 L5 w.heap.size) := ⟨WC6.out.lt, OW5.out.2⟩
     have BB6 : Hid (Below B w w6) := (BB5.out.drewN' _).trans (b6.mono (by show B ≤ W5.heap.size; omega))
     have hlt6 : w.heap.size < w6.heap.size := WC6.out.lt
     clear d0 d1 d2 d3 d4 d5 v2
     have d0 : w6.cell? ⟨w.heap.size, 0, none⟩ = some (.pointer (some ⟨L.b .ker, 0, none⟩)) := WC6.out.cell 0
     have d1 : w6.cell? ⟨w.heap.size, 1, none⟩ = some (.int .i64 m) := WC6.out.cell 1
     have d2 : w6.cell? ⟨w.heap.size, 2, none⟩ = some (.pointer (some ⟨L.b (.t m), 0, none⟩)) := WC6.out.cell 2
     have d3 : w6.cell? ⟨w.heap.size, 3, none⟩ = some (.int .i64 kd) := WC6.out.cell 3
     have d4 : w6.cell? ⟨w.heap.size, 4, none⟩ = some (.int .i64 (a : Int)) := WC6.out.cell 4
     have d5 : w6.cell? ⟨w.heap.size, 5, none⟩ = some (.int .i64 ob) := WC6.out.cell 5
     obtain ⟨vj, hvj⟩ : ∃ vj, vj = (kT k5 j).value := ⟨_, rfl⟩
     have ED : Hid (k.recv m ⟨kd, a, ob⟩ = (k5.setL (48 + a) (· ++ [vj])).wake j 0) := by show _ = _; rw [ED1.out]; unfold Kn.K.recv2; rw [if_pos (by omega), hvj]; rfl
     obtain ⟨q1, q2⟩ := QQ.out
     have eA5 : L5.b .ta = L.b .ta := S5.out .ta rfl
     have eT5 : L5.b (.t j) = L.b (.t j) := S5.out (.t j) rfl
     have h0 := k6.tasksHead (by omega)
     rw [eK5, eA5, HTL.out] at h0
     obtain ⟨cT, hcT⟩ : ∃ cT, cT = L5.cap .ta := ⟨_, rfl⟩
     rw [← hcT] at h0
     have h1 := k6.taskPtr hj
     rw [eA5, eT5] at h1
     have h2 : w6.cell? ⟨L.b (.t j), 9, none⟩ = some (.int .i64 (kT k5 j).value) := by
      have := (k6.task hj).cell 9
      rw [eT5] at this
      exact this
     rw [← hvj] at h2
     have hnta : Part.live k5 L5 .ta := k6.taOk (by omega)
     have ij : (j : Int) < k.tasks.length := by have := HTL.out; omega
     have ij0 : (0 : Int) ≤ j := by omega
     have OK8v := zh (OK8.out vj)
     have wq6 := k6.que hlt5'
     have p1 : w6.cell? ⟨L.b (.q a), 1, none⟩ = some (L5.hd (.l (48 + a)) (k5.l (48 + a)).length) := by
      have := wq6.cell 1
      rw [eQ] at this
      exact this
     have pf1 := wq6.frozen 1
     rw [eQ] at pf1
     have hkq : L.b .ker ≠ L.b (.q a) := fun e => by cases k6.apart .ker (.q a) trivial hlt5' (by rw [eK5, eQ]; exact e)
     have haq : L.b .ta ≠ L.b (.q a) := fun e => by cases k6.apart .ta (.q a) hnta hlt5' (by rw [eA5, eQ]; exact e)
     have htq : L.b (.t j) ≠ L.b (.q a) := fun e => by cases k6.apart (.t j) (.q a) hj hlt5' (by rw [eT5, eQ]; exact e)
     have hqk := hkq.symm
     have hqa := haq.symm
     have hqt := htq.symm
     have hltQ := k6.lt (c := .q a) hlt5'
     rw [eQ] at hltQ
     have hltK := k6.lt (c := .ker) trivial
     rw [eK5] at hltK
     have hltA := k6.lt (c := .ta) hnta
     rw [eA5] at hltA
     have hltT := k6.lt (c := .t j) hj
     rw [eT5] at hltT
     have hbd : Below w6.heap.size w6 ((w6.alloc (.cells #[.int .i64 vj] 3)).drew) := ((zr w6.heap.size w6).alloc (zl _) _).drew
     obtain ⟨gl, hLH, hap⟩ := k6.push vj (show 48 + a < 72 by omega) (by rw [q1]; exact hlt5') hbd hB6
     have HAP := zh hap
     have HLA := zh hLH
     have hlen9 : (k5.l (48 + a)).length ≤ 1000000 := by have := OK5.out.good.que (48 + a) (by omega) (by omega); omega
     have hnew : ((w6.alloc (.cells #[.int .i64 vj] 3)).drew).cell? ⟨w6.heap.size, 0, none⟩ = some (.int .i64 vj) := (zm w6 3 #[.int .i64 vj]).cell 0
     generalize hVV : L5.hd (.l (48 + a)) (k5.l (48 + a)).length = V8 at *
     have p1a : ((w6.alloc (.cells #[.int .i64 vj] 3)).drew).cell? ⟨L.b (.q a), 1, none⟩ = some V8 := (zw w6 _ ⟨L.b (.q a), 1, none⟩ hltQ).trans p1
     clear hVV hvj hcT k6 b6 hap hLH wq6 hz6 hz6'
     go_upto_region 10 with fail
     refine wp_region_held_drew (S := fun w' => w'.cell? ⟨w.heap.size, 0, none⟩ = some (.pointer (some ⟨L.b .ker, 0, none⟩)) ∧ w'.cell? ⟨L.b .ker, 0, none⟩ = some (.slice (some ⟨L.b .ta, 0, none⟩) k.tasks.length cT) ∧ w'.cell? ⟨L.b .ta, j, none⟩ = some (.pointer (some ⟨L.b (.t j), 0, none⟩)) ∧ w'.cell? ⟨L.b (.t j), 9, none⟩ = some (.int .i64 vj)) (by kernel_rfl) ?_ (fun hHeld => ?_)
     ·(try dsimp only)
      refine ⟨?_, ?_, ?_, ?_⟩ <;> go_keep
     refine tkH 0 (v := ?_) ?_ ?_; rotate_left 2
     refine tkH 1 (v := ?_) ?_ ?_; rotate_left 2
     refine tkH 2 (v := ?_) ?_ ?_; rotate_left 2
     refine tkH 3 (v := ?_) ?_ ?_; rotate_left 2
     refine tkH 5 (v := ?_) ?_ ?_; rotate_left 2
     refine tkH 6 (v := ?_) ?_ ?_; rotate_left 2
     refine tkH 7 (v := ?_) ?_ ?_; rotate_left 2
     refine tkH 8 (v := ?_) ?_ ?_; rotate_left 2
     refine tkH 9 (v := ?_) ?_ ?_; rotate_left 2
     refine tkH 10 (v := ?_) ?_ ?_; rotate_left 2
     refine tkH 11 (v := ?_) ?_ ?_; rotate_left 2
     refine tkH 12 (v := ?_) ?_ ?_; rotate_left 2
     refine tkH 13 (v := ?_) ?_ ?_; rotate_left 2
     refine tkH 14 (v := ?_) ?_ ?_; rotate_left 2
     refine tkH 15 (v := ?_) ?_ ?_; rotate_left 2
     rotate_left
     iterate 15 (rotate_left; focus (intro w hSw; (try dsimp only at hSw); obtain ⟨hS0, hS1, hS2, hS3⟩ := hSw; go_simp; with_reducible rfl))
     try simp only [Act.put, p4]
     refine wpAnyH_ready (rs := [4, 16]) (by kernel_rfl) (by simp) ?_
     refine AllReadyH.cons rfl (fun K hK => ?_) ?_
     ·go_simp
      refine hK.out _ _ ?_ (fun hHeld => ?_)
      ·(try dsimp only)
       refine ⟨?_, ?_, ?_, ?_⟩ <;> go_keep
      clear hK K
      try simp only [Act.put, p4, p5, p6]
      refine wpAnyH_ready (rs := [16]) (by kernel_rfl) (by simp) ?_
      refine AllReadyH.cons rfl (fun K hK => ?_) ?_
      ·go_simp
       refine hK.out _ _ ?_ (fun hHeld => ?_)
       ·(try dsimp only)
        refine ⟨?_, ?_, ?_, ?_⟩ <;> go_keep
       clear hK K
       try simp only [Act.put, p4, p5, p6]
       refine wpAnyH_ready (rs := [17]) (by kernel_rfl) (by simp) ?_
       refine AllReadyH.cons rfl (fun K hK => ?_) ?_
       ·(refine step_append_list rfl _ _ rfl (by rfl) HLA.out hlen9 vj ⟨w6.heap.size, 0, none⟩ 1 (by rfl) (by exact hnew) ?_; intro v' w7 hpost; obtain ⟨⟨A7, c7, e7⟩, hk7, hb7, hkm7, ho7⟩ := HAP.out v' w7 hpost; subst e7; have z2 : w7.cell? ⟨L.b (.q a), 1, none⟩ = some V8 := (zq (a := ⟨L.b (.q a), 1, none⟩) (by rw [← eQ]; exact hk7 (.q a) (by simp) hlt5')).trans p1; have z3 : w7.frozen? ⟨L.b (.q a), 1, none⟩ = false := (zx (a := ⟨L.b (.q a), 1, none⟩) (by rw [← eQ]; exact hk7 (.q a) (by simp) hlt5')).trans pf1; have wc7 := WC6.out.same (ho7 _ OW6.out); have y0 : w7.cell? ⟨w.heap.size, 0, none⟩ = some (.pointer (some ⟨L.b .ker, 0, none⟩)) := wc7.cell 0; have y1 : w7.cell? ⟨L.b .ker, 0, none⟩ = some (.slice (some ⟨L.b .ta, 0, none⟩) k.tasks.length cT) := (zq (a := ⟨L.b .ker, 0, none⟩) (by rw [← eK5]; exact hk7 .ker (by simp) trivial)).trans h0; have y2 : w7.cell? ⟨L.b .ta, j, none⟩ = some (.pointer (some ⟨L.b (.t j), 0, none⟩)) := (zq (a := ⟨L.b .ta, j, none⟩) (by rw [← eA5]; exact hk7 .ta (by simp) hnta)).trans h1; have y3 : w7.cell? ⟨L.b (.t j), 9, none⟩ = some (.int .i64 vj) := (zq (a := ⟨L.b (.t j), 9, none⟩) (by rw [← eT5]; exact hk7 (.t j) (by simp) hj)).trans h2)
        refine hK.out _ _ ?_ (fun hHeld => ?_)
        ·(try dsimp only)
         refine ⟨?_, ?_, ?_, ?_⟩ <;> go_keep
        clear hK K
        try simp only [Act.put, p4]
        refine tkH 18 (v := ?_) ?_ ?_; rotate_left 2
        refine tkH 19 (v := ?_) ?_ ?_; rotate_left 2
        rotate_left
        iterate 2 (rotate_left; focus (intro w hSw; (try dsimp only at hSw); obtain ⟨hS0, hS1, hS2, hS3⟩ := hSw; go_simp; with_reducible rfl))
        try simp only [Act.put]
        refine wpAnyH_ready (rs := [20]) (by kernel_rfl) (by simp) ?_
        refine AllReadyH.cons rfl (fun K hK => ?_) ?_
        ·go_simp
         refine hK.out _ _ ?_ (fun hHeld => ?_)
         ·(try dsimp only)
          refine ⟨?_, ?_, ?_, ?_⟩ <;> go_keep
         clear hK K
         try simp only [Act.put, p4, p5, p6]
         refine wpAnyH_done (by kernel_rfl) ?_ _
         obtain ⟨L8, k8, s8, n8⟩ := hkm7
         rw [q1, q2, eQ] at k8
         have hz7 := hb7.size
         obtain ⟨W8, hW8⟩ : ∃ W8, W8 = w7.setCell ⟨L.b (.q a), 1, none⟩ (.slice A7 ((k5.l (48 + a)).length + 1) c7) := ⟨_, rfl⟩
         have wc8 : Whole W8 w.heap.size 112 #[.pointer (some ⟨L.b .ker, 0, none⟩), .int .i64 m, .pointer (some ⟨L.b (.t m), 0, none⟩), .int .i64 kd, .int .i64 (a : Int), .int .i64 ob] := by rw [hW8]; exact wc7.far hoQ2 _
         rw [← hW8] at k8 ⊢
         have hB8 : B ≤ W8.heap.size := by rw [hW8, World.size_setCell]; omega
         have eK8 : L8.b .ker = L.b .ker := (s8 .ker rfl).trans eK5
         have HWK := zh (wake_any (m := j) 0 k8 OK8v.out.fine (by decide) hj hB8 (fun x hx => OK8v.out.fine.on j x hj hx))
         unfold Lay.ptr at HWK
         rw [eK8] at HWK
         clear y0 y1 y2 y3 z2 z3 d0 d1 d2 d3 d4 d5 h0 h1 h2
         have d0 : W8.cell? ⟨w.heap.size, 0, none⟩ = some (.pointer (some ⟨L.b .ker, 0, none⟩)) := wc8.cell 0
         have d1 : W8.cell? ⟨w.heap.size, 1, none⟩ = some (.int .i64 m) := wc8.cell 1
         have d2 : W8.cell? ⟨w.heap.size, 2, none⟩ = some (.pointer (some ⟨L.b (.t m), 0, none⟩)) := wc8.cell 2
         have d3 : W8.cell? ⟨w.heap.size, 3, none⟩ = some (.int .i64 kd) := wc8.cell 3
         have d4 : W8.cell? ⟨w.heap.size, 4, none⟩ = some (.int .i64 (a : Int)) := wc8.cell 4
         have d5 : W8.cell? ⟨w.heap.size, 5, none⟩ = some (.int .i64 ob) := wc8.cell 5
         have B8 : Hid (Below B w6 W8) := by show Below _ _ _; rw [hW8]; exact hb7.setCell (p := ⟨L.b (.q a), 1, none⟩) hlowQ _
         have S8 := zh s8
         clear k8 s8 n8 ho7 hb7 hk7 wc7 wc8 hW8
         go_wp2_with (go_at_call 55; refine HWK.out.mono ?_; rintro e w9 ⟨rfl, L9, k9, s9, b9⟩)
         go_wp2_with fail
         go_end0
         rw [ED.out]
         exact ⟨rfl, L9, k9, (S5.out.trans S8.out).trans s9, (BB6.out.trans B8.out).trans b9⟩
        exact AllReadyH.nil
       exact AllReadyH.nil
      exact AllReadyH.nil
     refine AllReadyH.cons rfl (fun K hK => ?_) ?_
     ·go_simp
      refine hK.out _ _ ?_ (fun hHeld => ?_)
      ·(try dsimp only)
       refine ⟨?_, ?_, ?_, ?_⟩ <;> go_keep
      clear hK K
      try simp only [Act.put, p4, p5, p6]
      refine wpAnyH_ready (rs := [4]) (by kernel_rfl) (by simp) ?_
      refine AllReadyH.cons rfl (fun K hK => ?_) ?_
      ·go_simp
       refine hK.out _ _ ?_ (fun hHeld => ?_)
       ·(try dsimp only)
        refine ⟨?_, ?_, ?_, ?_⟩ <;> go_keep
       clear hK K
       try simp only [Act.put, p4, p5, p6]
       refine wpAnyH_ready (rs := [17]) (by kernel_rfl) (by simp) ?_
       refine AllReadyH.cons rfl (fun K hK => ?_) ?_
       ·(refine step_append_list rfl _ _ rfl (by rfl) HLA.out hlen9 vj ⟨w6.heap.size, 0, none⟩ 1 (by rfl) (by exact hnew) ?_; intro v' w7 hpost; obtain ⟨⟨A7, c7, e7⟩, hk7, hb7, hkm7, ho7⟩ := HAP.out v' w7 hpost; subst e7; have z2 : w7.cell? ⟨L.b (.q a), 1, none⟩ = some V8 := (zq (a := ⟨L.b (.q a), 1, none⟩) (by rw [← eQ]; exact hk7 (.q a) (by simp) hlt5')).trans p1; have z3 : w7.frozen? ⟨L.b (.q a), 1, none⟩ = false := (zx (a := ⟨L.b (.q a), 1, none⟩) (by rw [← eQ]; exact hk7 (.q a) (by simp) hlt5')).trans pf1; have wc7 := WC6.out.same (ho7 _ OW6.out); have y0 : w7.cell? ⟨w.heap.size, 0, none⟩ = some (.pointer (some ⟨L.b .ker, 0, none⟩)) := wc7.cell 0; have y1 : w7.cell? ⟨L.b .ker, 0, none⟩ = some (.slice (some ⟨L.b .ta, 0, none⟩) k.tasks.length cT) := (zq (a := ⟨L.b .ker, 0, none⟩) (by rw [← eK5]; exact hk7 .ker (by simp) trivial)).trans h0; have y2 : w7.cell? ⟨L.b .ta, j, none⟩ = some (.pointer (some ⟨L.b (.t j), 0, none⟩)) := (zq (a := ⟨L.b .ta, j, none⟩) (by rw [← eA5]; exact hk7 .ta (by simp) hnta)).trans h1; have y3 : w7.cell? ⟨L.b (.t j), 9, none⟩ = some (.int .i64 vj) := (zq (a := ⟨L.b (.t j), 9, none⟩) (by rw [← eT5]; exact hk7 (.t j) (by simp) hj)).trans h2)
        refine hK.out _ _ ?_ (fun hHeld => ?_)
        ·(try dsimp only)
         refine ⟨?_, ?_, ?_, ?_⟩ <;> go_keep
        clear hK K
        try simp only [Act.put, p4]
        refine tkH 18 (v := ?_) ?_ ?_; rotate_left 2
        refine tkH 19 (v := ?_) ?_ ?_; rotate_left 2
        rotate_left
        iterate 2 (rotate_left; focus (intro w hSw; (try dsimp only at hSw); obtain ⟨hS0, hS1, hS2, hS3⟩ := hSw; go_simp; with_reducible rfl))
        try simp only [Act.put]
        refine wpAnyH_ready (rs := [20]) (by kernel_rfl) (by simp) ?_
        refine AllReadyH.cons rfl (fun K hK => ?_) ?_
        ·go_simp
         refine hK.out _ _ ?_ (fun hHeld => ?_)
         ·(try dsimp only)
          refine ⟨?_, ?_, ?_, ?_⟩ <;> go_keep
         clear hK K
         try simp only [Act.put, p4, p5, p6]
         refine wpAnyH_done (by kernel_rfl) ?_ _
         obtain ⟨L8, k8, s8, n8⟩ := hkm7
         rw [q1, q2, eQ] at k8
         have hz7 := hb7.size
         obtain ⟨W8, hW8⟩ : ∃ W8, W8 = w7.setCell ⟨L.b (.q a), 1, none⟩ (.slice A7 ((k5.l (48 + a)).length + 1) c7) := ⟨_, rfl⟩
         have wc8 : Whole W8 w.heap.size 112 #[.pointer (some ⟨L.b .ker, 0, none⟩), .int .i64 m, .pointer (some ⟨L.b (.t m), 0, none⟩), .int .i64 kd, .int .i64 (a : Int), .int .i64 ob] := by rw [hW8]; exact wc7.far hoQ2 _
         rw [← hW8] at k8 ⊢
         have hB8 : B ≤ W8.heap.size := by rw [hW8, World.size_setCell]; omega
         have eK8 : L8.b .ker = L.b .ker := (s8 .ker rfl).trans eK5
         have HWK := zh (wake_any (m := j) 0 k8 OK8v.out.fine (by decide) hj hB8 (fun x hx => OK8v.out.fine.on j x hj hx))
         unfold Lay.ptr at HWK
         rw [eK8] at HWK
         clear y0 y1 y2 y3 z2 z3 d0 d1 d2 d3 d4 d5 h0 h1 h2
         have d0 : W8.cell? ⟨w.heap.size, 0, none⟩ = some (.pointer (some ⟨L.b .ker, 0, none⟩)) := wc8.cell 0
         have d1 : W8.cell? ⟨w.heap.size, 1, none⟩ = some (.int .i64 m) := wc8.cell 1
         have d2 : W8.cell? ⟨w.heap.size, 2, none⟩ = some (.pointer (some ⟨L.b (.t m), 0, none⟩)) := wc8.cell 2
         have d3 : W8.cell? ⟨w.heap.size, 3, none⟩ = some (.int .i64 kd) := wc8.cell 3
         have d4 : W8.cell? ⟨w.heap.size, 4, none⟩ = some (.int .i64 (a : Int)) := wc8.cell 4
         have d5 : W8.cell? ⟨w.heap.size, 5, none⟩ = some (.int .i64 ob) := wc8.cell 5
         have B8 : Hid (Below B w6 W8) := by show Below _ _ _; rw [hW8]; exact hb7.setCell (p := ⟨L.b (.q a), 1, none⟩) hlowQ _
         have S8 := zh s8
         clear k8 s8 n8 ho7 hb7 hk7 wc7 wc8 hW8
         go_wp2_with (go_at_call 55; refine HWK.out.mono ?_; rintro e w9 ⟨rfl, L9, k9, s9, b9⟩)
         go_wp2_with fail
         go_end0
         rw [ED.out]
         exact ⟨rfl, L9, k9, (S5.out.trans S8.out).trans s9, (BB6.out.trans B8.out).trans b9⟩
        exact AllReadyH.nil
       exact AllReadyH.nil
      exact AllReadyH.nil
     exact AllReadyH.nil
 ·have ED : Hid (k.recv m ⟨kd, a, ob⟩ = k.say m 2) := by show _ = _; unfold Kn.K.recv; rw [if_pos (by show k.size.length ≤ ((a : Int)).toNat; omega)]
  have ia : (k.size.length : Int) ≤ a := by omega
  clear hlt
  unfold callV
  go_enter Try.func67, Try.ntmps67
  go_upto_region 1 with fail
  rw [← HW.out]
  refine zy ?_
  repeat go_big_quiet_step (fail)
  refine wpQuiet_nil ?_
  intro _ hw'
  obtain ⟨n1, hw''⟩ := hw'
  subst hw''
  have HS := zh (CallPost.say (W := W.drewN n1) (w := w) (a := 2) (o := ⟨kd, a, ob⟩) (KW.out.below (Below.drewN' (zr _ _) _)) hm (by show B ≤ W.heap.size; omega) (BW.out.drewN' n1))
  unfold callV at HS
  go_wp2_with (go_at_call 83; refine HS.out.mono ?_; intro e w1 hp; obtain ⟨rfl, hp⟩ := hp)
  go_wp2_with fail
  go_end0
  rw [ED.out]
  exact ⟨rfl, hp⟩
end Go.Proofs.Ytncbgnpoffolcaa
/-! The loops' map: read and written. -/
namespace Go.Proofs.Ytncbgnpoffolcaa
open Go.RowKit
open Go.Maps (Keyed)
theorem insert_split (x : Lit × DataW Unit) : ∀ l : List (Lit × DataW Unit), ∃ a b, l = a ++ b ∧ DataW.insert x l = a ++ x :: b
 | [] => ⟨[], [], rfl, rfl⟩
 | y :: r => by
   unfold DataW.insert
   split
   ·exact ⟨[], y :: r, rfl, rfl⟩
   ·obtain ⟨a, b, h1, h2⟩ := insert_split x r
    exact ⟨y :: a, b, by rw [h1]; rfl, by rw [h2]; rfl⟩
theorem filter_keys (j : Int) : ∀ (l : List (Lit × DataW Unit)) (ks : List Int), l.map (·.1) = ks.map (Lit.int .i64 ·) → (l.filter fun p => !p.1.sameKey (.int .i64 j)).map (·.1) = (ks.filter fun z => z != j).map (Lit.int .i64 ·)
 | [], [], _ => rfl
 | [], _ :: _, h => by simp at h
 | _ :: _, [], h => by simp at h
 | x :: l, z :: ks, h => by
   simp only [List.map_cons, List.cons.injEq] at h
   have ih := filter_keys j l ks h.2
   rw [List.filter_cons, List.filter_cons]
   have e : (!x.1.sameKey (.int .i64 j)) = (z != j) := by
    rw [h.1]
    simp only [Lit.sameKey, true_and]
    by_cases q : z = j <;> simp [q]
   rw [e]
   split
   ·simp only [List.map_cons, ih, h.1]
   ·exact ih
theorem Small.put {D : DataW Unit} {N : Nat} {j : Nat} (h : Small D N) (hj : j < N) (d : DataW Unit) : Small (D.put (.int .i64 j) d) N := by
 obtain ⟨l, ks, rfl, hk, hn, hr⟩ := h
 have hf := filter_keys (j : Int) l ks hk
 obtain ⟨a, b, h1, h2⟩ := insert_split (.int .i64 (j : Int), d) (l.filter fun p => !p.1.sameKey (.int .i64 (j : Int)))
 rw [h1, List.map_append] at hf
 obtain ⟨ka, kb, e1, e2, e3⟩ := List.map_eq_append_iff.1 hf.symm
 refine ⟨_, ka ++ (j : Int) :: kb, rfl, ?_, ?_, ?_⟩
 ·rw [h2]
  simp only [List.map_append, List.map_cons, e2, e3]
 ·rw [List.perm_middle.nodup_iff, List.nodup_cons, ← e1]
  exact ⟨by simp, hn.filter _⟩
 ·intro z hz
  rw [List.perm_middle.mem_iff, List.mem_cons, ← e1] at hz
  rcases hz with rfl | hz
  ·omega
  ·exact hr z ((List.mem_filter.1 hz).1)
theorem LoopsAre.owns {w : World} {g : Nat} {ls : List Int} (h : LoopsAre w.heap[g]? ls) : ∃ D : DataW Unit, w.ownsMap Try.prog 3 (plainElem Try.prog 3) g ls.length D ∧ Small D ls.length ∧ ∀ j, j < ls.length → D.atKey (.int .i64 j) (.lit (.int .i64 0)) = .lit (.int .i64 (ls.getD j 0)) := by
 obtain ⟨w0, b, n, D, h1, h2, h3, h4⟩ := h
 obtain ⟨es, clock, hb, F, hs, hD⟩ := h1
 refine ⟨D, ⟨es, clock, h2.symm.trans hb, F, ?_, hD⟩, h3, h4⟩
 obtain ⟨l, ks, rfl, hk, hn, hr⟩ := h3
 have e1 : l.length = ks.length := by
  have := congrArg List.length hk
  simpa using this
 have e2 := nodup_len ls.length ks hn hr
 injection hD with hD
 have e3 := congrArg List.length hD
 rw [length_sorted] at e3
 simp at e3
 omega
theorem LoopsAre.mk' {w : World} {g n : Nat} {ls : List Int} {D : DataW Unit} (h1 : w.ownsMap Try.prog 3 (plainElem Try.prog 3) g n D) (h2 : Small D ls.length) (h3 : ∀ j, j < ls.length → D.atKey (.int .i64 j) (.lit (.int .i64 0)) = .lit (.int .i64 (ls.getD j 0))) : LoopsAre w.heap[g]? ls :=
 ⟨w, g, n, D, h1, rfl, h2, h3⟩
theorem Small.isMap {D : DataW Unit} {N : Nat} (h : Small D N) : Go.Maps.IsMap D := by
 obtain ⟨l, _, rfl, _⟩ := h
 exact ⟨l, rfl⟩
/-- One count is another one. -/
theorem LoopsAre.put {w1 : World} {g n j : Nat} {ls : List Int} {D : DataW Unit} {v : Int} (hs : Small D ls.length) (ha : ∀ j, j < ls.length → D.atKey (.int .i64 j) (.lit (.int .i64 0)) = .lit (.int .i64 (ls.getD j 0))) (hj : j < ls.length)
 (h1 : w1.ownsMap Try.prog 3 (plainElem Try.prog 3) g n (D.put (.int .i64 j) (.lit (.int .i64 v)))) : LoopsAre w1.heap[g]? (ls.set j v) := by
 refine LoopsAre.mk' h1 (by rw [List.length_set]; exact hs.put hj _) (fun i hi => ?_)
 rw [List.length_set] at hi
 by_cases e : i = j
 ·subst e
  rw [Go.Maps.atKey_put_same hs.isMap (by first | exact trivial | decide | simp [WideAt.IsKeyLit])]
  simp [hi]
 ·rw [Go.Maps.atKey_put_other (by intro q; injection q with _ q; omega), ha i hi]
  simp [Ne.symm e]
theorem modify_set {l : List Int} {j : Nat} {f : Int → Int} (hj : j < l.length) : l.modify j f = l.set j (f (l.getD j 0)) := by
 apply List.ext_getElem?
 intro i
 rw [List.getElem?_modify, List.getElem?_set]
 by_cases e : j = i
 ·subst e
  simp [hj]
 ·simp [e]
section
variable {w w' : World} {B : Nat} {k : Kn.K} {L : Lay} {i : Nat} {f : Kn.T → Kn.T}
theorem loops_cont {c : Part} {ob : Option Obj} {ls : List Int} (hi : i < k.tasks.length) (hne : c ≠ .lp i) (hc : c.cont k L ob) : c.cont (k.setT i fun t => { t with loops := ls }) L ob := by
 have hops : ∀ j, (kT (k.setT i fun t => { t with loops := ls }) j).ops = (kT k j).ops := fun j => by
  by_cases e : j = i
  ·subst e; rw [kT_set hi]
  ·rw [kT_other e]
 cases c with
 | t j =>
   show ob = _
   have e1 : taskCells (k.setT i fun t => { t with loops := ls }) L j = taskCells k L j := by
    unfold taskCells
    by_cases e : j = i
    ·subst e; rw [kT_set hi]
    ·rw [kT_other e]
   rw [e1]
   exact hc
 | lp j =>
   have e : j ≠ i := fun e => hne (by rw [e])
   show LoopsAre _ _
   rw [kT_other e]
   exact hc
 | o j =>
   obtain ⟨q1, cur, q2, q3⟩ := hc
   refine ⟨q1, cur, q2, ?_⟩
   rw [hops]
   exact q3
 | ta =>
   obtain ⟨q1, q2⟩ := hc
   refine ⟨q1, ?_⟩
   rw [setT_len]
   exact q2
 | ker =>
   show ob = _
   have e1 : kerCells (k.setT i fun t => { t with loops := ls }) L = kerCells k L := by unfold kerCells; rw [setT_len]; rfl
   rw [e1]
   exact hc
 | _ => exact hc
/-- A task's map is written. -/
theorem KM.putLoops {ls : List Int} (h : KM w B k L) (hi : i < k.tasks.length) (hg : w.grownBy w' (some (L.b (.lp i)))) (hl : LoopsAre w'.heap[L.b (.lp i)]? ls) : KM w' B (k.setT i fun t => { t with loops := ls }) L :=
 h.one (.lp i) (setT_live hi rfl) (by
  obtain ⟨n1, n2, n3, n4, n5, n6⟩ := h.nil
  exact ⟨fun hh => by rw [setT_len]; exact n1 hh, n2, n3, n4, n5, n6⟩) h.lens h.few (fun g hg' hlt => hg.block g hlt (fun e => hg' (by injection e)))
  (fun _ => by
   show LoopsAre _ _
   rw [kT_set hi]
   exact hl) (fun c o hne _ hc => loops_cont hi hne hc) hi
end
end Go.Proofs.Ytncbgnpoffolcaa
