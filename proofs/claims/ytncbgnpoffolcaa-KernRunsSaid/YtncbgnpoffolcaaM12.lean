/-
  A task's next operation: the walk of do.
-/
import Derived.Test.YtncbgnpoffolcaaNt
import Derived.Test.YtncbgnpoffolcaaM10
import Derived.Test.YtncbgnpoffolcaaM11
import Derived.Laws.Tables
import Derived.Laws.Rows
import Derived.Great.BuildSlice
/-! A task's next operation: the walk of do. -/
namespace Go.Proofs.Ytncbgnpoffolcaa
open Go.RowKit
theorem opsC_len (l : List Kn.Op) : (opsC l).length = l.length * 3 := flat_len (f := opC) (n := 3) (fun _ => rfl) l
theorem opsC_at (l : List Kn.Op) (k j : Nat) (hk : k < l.length) (hj : j < 3) : (opsC l)[k * 3 + j]? = (opC l[k])[j]? := flat_at (f := opC) (n := 3) (fun _ => rfl) l k j hk hj
theorem KM.op {w : World} {B : Nat} {k : Kn.K} {L : Lay} {i p : Nat} (h : KM w B k L) (hi : i < k.tasks.length) (hp : p < (kT k i).ops.length) :
 L.opA i = some ⟨L.b (.o i), 0, none⟩ ∧ w.cell? ⟨L.b (.o i), p * 3, none⟩ = some (.int .i64 ((kT k i).ops[p]).kind) ∧ w.cell? ⟨L.b (.o i), p * 3 + 1, none⟩ = some (.int .i64 ((kT k i).ops[p]).a) ∧ w.cell? ⟨L.b (.o i), p * 3 + 2, none⟩ = some (.int .i64 ((kT k i).ops[p]).b) := by
 obtain ⟨h1, cur, h2, h3⟩ := h.cont (.o i) ⟨hi, by omega⟩
 refine ⟨h1, ?_, ?_, ?_⟩
 ·rw [cell_of_row w _ _ cur 32 (0, 0) h2]
  exact h3 (p * 3 + 0) _ (opsC_at _ p 0 hp (by omega))
 ·rw [cell_of_row w _ _ cur 32 (0, 0) h2]
  exact h3 (p * 3 + 1) _ (opsC_at _ p 1 hp (by omega))
 ·rw [cell_of_row w _ _ cur 32 (0, 0) h2]
  exact h3 (p * 3 + 2) _ (opsC_at _ p 2 hp (by omega))
def callFs (L : Lay) (m : Nat) (o : Kn.Op) : Array Value := #[.func (.func 59) #[.agg #[.pointer (some ⟨L.b .ker, 0, none⟩), .int .i64 m, .pointer (some ⟨L.b (.t m), 0, none⟩), .int .i64 o.kind, .int .i64 o.a, .int .i64 o.b]] #[], .func (.func 60) #[.agg #[.pointer (some ⟨L.b .ker, 0, none⟩), .int .i64 m, .pointer (some ⟨L.b (.t m), 0, none⟩), .int .i64 o.kind, .int .i64 o.a, .int .i64 o.b]] #[], .func (.func 61) #[.agg #[.pointer (some ⟨L.b .ker, 0, none⟩), .int .i64 m, .pointer (some ⟨L.b (.t m), 0, none⟩), .int .i64 o.kind, .int .i64 o.a, .int .i64 o.b]] #[], .func (.func 62) #[.agg #[.pointer (some ⟨L.b .ker, 0, none⟩), .int .i64 m, .pointer (some ⟨L.b (.t m), 0, none⟩), .int .i64 o.kind, .int .i64 o.a, .int .i64 o.b]] #[], .func (.func 63) #[.agg #[.pointer (some ⟨L.b .ker, 0, none⟩), .int .i64 m, .pointer (some ⟨L.b (.t m), 0, none⟩), .int .i64 o.kind, .int .i64 o.a, .int .i64 o.b]] #[], .func (.func 64) #[.agg #[.pointer (some ⟨L.b .ker, 0, none⟩), .int .i64 m, .pointer (some ⟨L.b (.t m), 0, none⟩), .int .i64 o.kind, .int .i64 o.a, .int .i64 o.b]] #[], .func (.func 65) #[.agg #[.pointer (some ⟨L.b .ker, 0, none⟩), .int .i64 m, .pointer (some ⟨L.b (.t m), 0, none⟩), .int .i64 o.kind, .int .i64 o.a, .int .i64 o.b]] #[], .func (.func 66) #[.agg #[.pointer (some ⟨L.b .ker, 0, none⟩), .int .i64 m, .pointer (some ⟨L.b (.t m), 0, none⟩), .int .i64 o.kind, .int .i64 o.a, .int .i64 o.b]] #[], .func (.func 67) #[.agg #[.pointer (some ⟨L.b .ker, 0, none⟩), .int .i64 m, .pointer (some ⟨L.b (.t m), 0, none⟩), .int .i64 o.kind, .int .i64 o.a, .int .i64 o.b]] #[], .func (.func 68) #[.agg #[.pointer (some ⟨L.b .ker, 0, none⟩), .int .i64 m, .pointer (some ⟨L.b (.t m), 0, none⟩), .int .i64 o.kind, .int .i64 o.a, .int .i64 o.b]] #[], .func (.func 69) #[.agg #[.pointer (some ⟨L.b .ker, 0, none⟩), .int .i64 m, .pointer (some ⟨L.b (.t m), 0, none⟩), .int .i64 o.kind, .int .i64 o.a, .int .i64 o.b]] #[], .func (.func 70) #[.agg #[.pointer (some ⟨L.b .ker, 0, none⟩), .int .i64 m, .pointer (some ⟨L.b (.t m), 0, none⟩), .int .i64 o.kind, .int .i64 o.a, .int .i64 o.b]] #[], .func (.func 71) #[.agg #[.pointer (some ⟨L.b .ker, 0, none⟩), .int .i64 m, .pointer (some ⟨L.b (.t m), 0, none⟩), .int .i64 o.kind, .int .i64 o.a, .int .i64 o.b]] #[], .func (.func 72) #[.agg #[.pointer (some ⟨L.b .ker, 0, none⟩), .int .i64 m, .pointer (some ⟨L.b (.t m), 0, none⟩), .int .i64 o.kind, .int .i64 o.a, .int .i64 o.b]] #[], .func (.func 73) #[.agg #[.pointer (some ⟨L.b .ker, 0, none⟩), .int .i64 m, .pointer (some ⟨L.b (.t m), 0, none⟩), .int .i64 o.kind, .int .i64 o.a, .int .i64 o.b]] #[]]
set_option maxRecDepth 100000 in
set_option maxHeartbeats 16000000 in
theorem do_any {w : World} {B : Nat} {k : Kn.K} {L : Lay} {m : Nat} (h : KM w B k L) (hk : Kn.Ok k) (hm : m < k.tasks.length) (hB : B ≤ w.heap.size) (hs : (kT k m).state = 0) (hpl : (kT k m).place < (kT k m).ops.length) (ho : k.out.length ≤ 1000000) :
 Calls Try.prog 45 #[L.ptr .ker 0, .int .i64 m] w (CallPost w B (k.do_ m) L) := by
 have h0 := h.tasksHead (by omega)
 have h1 := h.taskPtr hm
 have wt := h.task hm
 obtain ⟨q0, q1, q2, q3⟩ := h.op hm hpl
 have t0 : w.cell? ⟨L.b (.t m), 0, none⟩ = some (.slice (L.opA m) (kT k m).ops.length (L.cap (.o m))) := wt.cell 0
 rw [q0] at t0
 have t4 : w.cell? ⟨L.b (.t m), 4, none⟩ = some (.int .i64 ((kT k m).place : Int)) := wt.cell 4
 have tf4 := wt.frozen 4
 have g := hk.good.task m hm
 have g3 := g.few
 have gf := g.fits (kT k m).place hpl
 rw [← kT_ti] at g3
 have ED : Hid (k.do_ m = (k.setT m fun t => { t with place := (kT k m).place + 1 }).act m ((kT k m).ops[(kT k m).place])) := by
  show _ = _
  rw [Kn.do_eq]
  have e1 : ((k.t (m : Int)).ops.getD (k.t (m : Int)).place ⟨0, 0, 0⟩) = (kT k m).ops[(kT k m).place] := by
   show (kT k m).ops.getD (kT k m).place ⟨0, 0, 0⟩ = _
   simp [hpl]
  rw [e1, setT_same k m (fun t => { t with place := t.place + 1 }) (fun t => { t with place := (kT k m).place + 1 }) rfl]
 have O1 : Hid (Kn.Ok (k.setT m fun t => { t with place := (kT k m).place + 1 })) := (hk.task (k' := k.setT m fun t => { t with place := (kT k m).place + 1 }) (f := fun t => { t with place := (kT k m).place + 1 }) hm rfl rfl rfl rfl rfl rfl rfl ⟨rfl, rfl, rfl⟩ ⟨g.base, g.left, g.few, g.fits, g.loops, g.loop, by show (kT k m).place + 1 ≤ (k.ti m).ops.length; exact hpl⟩).1
 have hfit : ((kT k m).ops[(kT k m).place]).fits ((kT k m).place : Int) = true := gf
 have hfc := Kn.fits_cases hfit
 obtain ⟨pl, hple⟩ : ∃ pl, pl = (kT k m).place := ⟨_, rfl⟩
 have hpl100 : pl ≤ 1000 := by omega
 have hT1 : Hid (kT (k.setT m fun t => { t with place := (kT k m).place + 1 }) m = { kT k m with place := (kT k m).place + 1 }) := by show _ = _; rw [kT_set hm]
 have hO1m : Hid (m < (k.setT m fun t => { t with place := (kT k m).place + 1 }).tasks.length) := by show _ < _; rw [setT_len]; exact hm
 generalize ((kT k m).ops[(kT k m).place]) = o at *
 obtain ⟨nop, hnop⟩ : ∃ nop, nop = (kT k m).ops.length := ⟨_, rfl⟩
 rw [← hple, ← hnop] at hpl
 rw [← hple] at q1 q2 q3 t4 ED O1 hT1 hO1m
 rw [← hnop] at t0
 have ipl : (pl : Int) < nop := by omega
 have hwp : IntKind.i64.wrap ((pl : Int) + 1) = (pl : Int) + 1 := by rw [IntKind.wrap_i64]; omega
 have hlowT := h.low (.t m) hm
 have hltT := h.lt (c := .t m) hm
 have im : (m : Int) < k.tasks.length := by omega
 have im0 : (0 : Int) ≤ m := by omega
 obtain ⟨W1, hW1⟩ : ∃ W1, W1 = (w.alloc (.cells #[.pointer (some ⟨L.b .ker, 0, none⟩), .int .i64 m, .pointer (some ⟨L.b (.t m), 0, none⟩), .int .i64 o.kind, .int .i64 o.a, .int .i64 o.b] 112)).drew := ⟨_, rfl⟩
 obtain ⟨W2, hW2⟩ : ∃ W2, W2 = W1.setCell ⟨L.b (.t m), 4, none⟩ (.int .i64 ((pl : Int) + 1)) := ⟨_, rfl⟩
 have hKW1 : KM W1 B k L := by rw [hW1]; exact h.below (((zr _ _).alloc (zl _) _).drew)
 have hK2 : KM W2 B (k.setT m fun t => { t with place := pl + 1 }) L := by
  rw [hW2]
  exact hKW1.putTask (j := 4) (v := .int .i64 ((pl : Int) + 1)) (f := fun t => { t with place := pl + 1 }) hm rfl rfl (taskCells_place hm)
 have wc1 : Whole W1 w.heap.size 112 #[.pointer (some ⟨L.b .ker, 0, none⟩), .int .i64 m, .pointer (some ⟨L.b (.t m), 0, none⟩), .int .i64 o.kind, .int .i64 o.a, .int .i64 o.b] := by rw [hW1]; exact zm w 112 _
 have wc2 : Whole W2 w.heap.size 112 #[.pointer (some ⟨L.b .ker, 0, none⟩), .int .i64 m, .pointer (some ⟨L.b (.t m), 0, none⟩), .int .i64 o.kind, .int .i64 o.a, .int .i64 o.b] := by rw [hW2]; exact wc1.far (by show w.heap.size ≠ L.b (.t m); omega) _
 have hB2 : Below B w W2 := by
  rw [hW2, hW1]
  exact ((((zr B w).alloc hB _).drew).setCell (p := ⟨L.b (.t m), 4, none⟩) hlowT _)
 have hz1 : W1.heap.size = w.heap.size + 1 := by rw [hW1]; simp
 have hz2 : W2.heap.size = W1.heap.size := by rw [hW2, World.size_setCell]
 have K2 := zh hK2
 have WC2 := zh wc2
 have B2 := zh hB2
 have hKW1b := hKW1
 have t4w : W1.cell? ⟨L.b (.t m), 4, none⟩ = some (.int .i64 (pl : Int)) := by
  have := (hKW1.task hm).cell 4
  rw [this, hple]
  rfl
 have tf4w := (hKW1.task hm).frozen 4
 have HNEW : Hid ((W2.alloc (.cells #[.nilFunc, .nilFunc, .nilFunc, .nilFunc, .nilFunc, .nilFunc, .nilFunc, .nilFunc, .nilFunc, .nilFunc, .nilFunc, .nilFunc, .nilFunc, .nilFunc, .nilFunc] 113)).heap[w.heap.size + 1]? = some (.cells #[.nilFunc, .nilFunc, .nilFunc, .nilFunc, .nilFunc, .nilFunc, .nilFunc, .nilFunc, .nilFunc, .nilFunc, .nilFunc, .nilFunc, .nilFunc, .nilFunc, .nilFunc] 113 (0, 0))) := by
  have := heap_alloc_new W2 (.cells #[.nilFunc, .nilFunc, .nilFunc, .nilFunc, .nilFunc, .nilFunc, .nilFunc, .nilFunc, .nilFunc, .nilFunc, .nilFunc, .nilFunc, .nilFunc, .nilFunc, .nilFunc] 113)
  rw [hz2, hz1] at this
  exact this
 have HS := zh hs
 have HFC := zh hfc
 have HW1 := zh hW1
 have HW2 := zh hW2
 clear h hk wt g hW2 hW1 hKW1 hKW1b hK2 wc1 wc2 hB2 hs gf hfit hfc g3 hnop hple
 unfold Lay.ptr
 go_enter Try.func45, Try.ntmps45
 go_upto_region 1 with fail
 refine wp_region_held_drew (S := fun w' => w'.cell? ⟨L.b (.t m), 0, none⟩ = some (.slice (some ⟨L.b (.o m), 0, none⟩) nop (L.cap (.o m))) ∧ w'.cell? ⟨L.b (.t m), 4, none⟩ = some (.int .i64 (pl : Int)) ∧ w'.cell? ⟨L.b (.o m), pl * 3, none⟩ = some (.int .i64 o.kind) ∧ w'.cell? ⟨L.b (.o m), pl * 3 + 1, none⟩ = some (.int .i64 o.a) ∧ w'.cell? ⟨L.b (.o m), pl * 3 + 2, none⟩ = some (.int .i64 o.b)) (by kernel_rfl) ?_ (fun hHeld => ?_)
 ·(try dsimp only)
  refine ⟨?_, ?_, ?_, ?_, ?_⟩ <;> go_keep
 refine tkH 0 (v := ?_) ?_ ?_; rotate_left 2
 refine tkH 1 (v := ?_) ?_ ?_; rotate_left 2
 refine tkH 2 (v := ?_) ?_ ?_; rotate_left 2
 refine tkH 3 (v := ?_) ?_ ?_; rotate_left 2
 refine tkH 4 (v := ?_) ?_ ?_; rotate_left 2
 refine tkH 5 (v := ?_) ?_ ?_; rotate_left 2
 refine tkH 6 (v := ?_) ?_ ?_; rotate_left 2
 refine tkH 7 (v := ?_) ?_ ?_; rotate_left 2
 refine tkH 8 (v := ?_) ?_ ?_; rotate_left 2
 refine tkH 9 (v := ?_) ?_ ?_; rotate_left 2
 refine tkH 10 (v := ?_) ?_ ?_; rotate_left 2
 refine tkH 11 (v := ?_) ?_ ?_; rotate_left 2
 refine tkH 12 (v := ?_) ?_ ?_; rotate_left 2
 refine tkH 13 (v := ?_) ?_ ?_; rotate_left 2
 rotate_left
 iterate 14 (rotate_left; focus (intro w hSw; (try dsimp only at hSw); obtain ⟨hS0, hS1, hS2, hS3, hS4⟩ := hSw; go_simp; with_reducible rfl))
 try simp only [Act.put, p1, p2, p3, p4, p5, p6]
 refine wpAnyH_ready (rs := [14]) (by kernel_rfl) (by simp) ?_
 refine AllReadyH.cons rfl (fun K hK => ?_) ?_
 ·go_simp
  refine hK.out _ _ ?_ (fun hHeld => ?_)
  ·(try dsimp only)
   refine ⟨?_, ?_, ?_, ?_, ?_⟩ <;> go_keep
  clear hK K
  try simp only [Act.put, p4, p5, p6]
  refine wpAnyH_ready (rs := [15]) (by kernel_rfl) (by simp) ?_
  refine AllReadyH.cons rfl (fun K hK => ?_) ?_
  ·go_simp
   refine hK.out _ _ ?_ (fun hHeld => ?_)
   ·(try dsimp only)
    refine ⟨?_, ?_, ?_, ?_, ?_⟩ <;> go_keep
   clear hK K
   try simp only [Act.put, p4, p5, p6]
   refine wpAnyH_done (by kernel_rfl) ?_ _
   go_upto_region 2 with fail
   rw [← HW1.out]
   clear t4 tf4 t0 q0 q1 q2 q3 h0 h1 hHeld
   go_upto_region 3 with fail
   rw [← HW2.out]
   clear t4w tf4w
   have d0 : W2.cell? ⟨w.heap.size, 0, none⟩ = some (.pointer (some ⟨L.b .ker, 0, none⟩)) := WC2.out.cell 0
   have d1 : W2.cell? ⟨w.heap.size, 1, none⟩ = some (.int .i64 m) := WC2.out.cell 1
   have d2 : W2.cell? ⟨w.heap.size, 2, none⟩ = some (.pointer (some ⟨L.b (.t m), 0, none⟩)) := WC2.out.cell 2
   have d3 : W2.cell? ⟨w.heap.size, 3, none⟩ = some (.int .i64 o.kind) := WC2.out.cell 3
   have d4 : W2.cell? ⟨w.heap.size, 4, none⟩ = some (.int .i64 o.a) := WC2.out.cell 4
   have d5 : W2.cell? ⟨w.heap.size, 5, none⟩ = some (.int .i64 o.b) := WC2.out.cell 5
   go_upto_region 4 with (refine wpList_store_row rfl 113 _ _ rfl (w.heap.size + 1) (callFs L m o) rfl rfl 113 _ HNEW.out (by as_aux_lemma => kernel_rfl) (by as_aux_lemma => kernel_rfl) (by as_aux_lemma => kernel_rfl) ?_)
   obtain ⟨W3, hW3⟩ : ∃ W3, W3 = (W2.alloc (.cells #[.nilFunc, .nilFunc, .nilFunc, .nilFunc, .nilFunc, .nilFunc, .nilFunc, .nilFunc, .nilFunc, .nilFunc, .nilFunc, .nilFunc, .nilFunc, .nilFunc, .nilFunc] 113)).setRow (w.heap.size + 1) (callFs L m o) := ⟨_, rfl⟩
   have hz3 : W3.heap.size = W2.heap.size + 1 := by rw [hW3]; show (World.setRow _ _ _).heap.size = _; rw [setRow_size]; simp
   have hB3 : Below W2.heap.size W2 W3 := by
    rw [hW3]
    exact ((zr _ _).alloc (zl _) _).trans ⟨rfl, rfl, rfl, by show _ ≤ (World.setRow _ _ _).heap.size; rw [setRow_size]; exact zl _, fun x hx => setRow_other _ _ _ _ (by omega)⟩
   have wf3 : Whole W3 (w.heap.size + 1) 113 (callFs L m o) := by
    rw [hW3]
    exact setRow_heap _ _ _ _ _ _ HNEW.out
   have K3 := zh (K2.out.below hB3)
   have wc3 := WC2.out.same (hB3.block _ WC2.out.lt)
   have B3 : Hid (Below B w W3) := B2.out.trans (hB3.mono (by have := B2.out.size; omega))
   have hBW3 : B ≤ W3.heap.size := by have := B2.out.size; omega
   rw [← hW3]
   have WF3 := zh wf3
   have WC3 := zh wc3
   clear hW3 hB3 wf3 wc3 d0 d1 d2 d3 d4 d5 hz1 hz2 hz3 HNEW
   have hs1 : (kT (k.setT m fun t => { t with place := pl + 1 }) m).state = 0 := by rw [hT1.out]; exact HS.out
   have hp1 : 1 ≤ (kT (k.setT m fun t => { t with place := pl + 1 }) m).place := by rw [hT1.out]; show 1 ≤ pl + 1; omega
   have hO1m' := hO1m.out
   have ho1 : (k.setT m fun t => { t with place := pl + 1 }).out.length ≤ 1000000 := ho
   have HFC2 := HFC.out
   clear HFC
   generalize (k.setT m fun t => { t with place := pl + 1 }) = k1 at *
   obtain ⟨kd, oa, ob⟩ := o
   simp only [] at HFC2
   have hoa : kd = 1 ∨ kd = 9 ∨ kd = 11 ∨ kd = 12 ∨ kd = 14 ∨ 0 ≤ oa := by omega
   have hkd : kd = 0 ∨ kd = 1 ∨ kd = 2 ∨ kd = 3 ∨ kd = 4 ∨ kd = 5 ∨ kd = 6 ∨ kd = 7 ∨ kd = 8 ∨ kd = 9 ∨ kd = 10 ∨ kd = 11 ∨ kd = 12 ∨ kd = 13 ∨ kd = 14 := by omega
   rcases hkd with rfl | rfl | rfl | rfl | rfl | rfl | rfl | rfl | rfl | rfl | rfl | rfl | rfl | rfl | rfl
   ·as_aux_lemma =>
     have WCK := WC3.out
     have WFK := WF3.out
     have c3 : W3.cell? ⟨w.heap.size, 3, none⟩ = some (.int .i64 0) := WCK.cell 3
     have fk : W3.cell? ⟨w.heap.size + 1, 0, none⟩ = some (.func (.func 59) #[.agg #[.pointer (some ⟨L.b .ker, 0, none⟩), .int .i64 m, .pointer (some ⟨L.b (.t m), 0, none⟩), .int .i64 0, .int .i64 oa, .int .i64 ob]] #[]) := WFK.cell 0
     have HC := zh (put_any (o := ⟨0, oa, ob⟩) K3.out O1.out hO1m' hBW3 ho1 (show 0 ≤ oa ∧ oa ≤ 255 by omega))
     unfold callV at HC
     have EA : Hid (k.do_ m = k1.put oa) := by
      show _ = _
      rw [ED.out]
      rfl
     clear WCK WFK HFC2
     go_wp2_with fail
     refine HC.out.mono ?_
     rintro e w5 hp
     obtain ⟨rfl, hq⟩ := CallPost.of B3.out hp
     have HQ := zh hq
     clear hp hq
     go_wp2_with fail
     go_end0
     rw [EA.out]
     exact ⟨rfl, HQ.out⟩
   ·as_aux_lemma =>
     have WCK := WC3.out
     have WFK := WF3.out
     have c3 : W3.cell? ⟨w.heap.size, 3, none⟩ = some (.int .i64 1) := WCK.cell 3
     have fk : W3.cell? ⟨w.heap.size + 1, 1, none⟩ = some (.func (.func 60) #[.agg #[.pointer (some ⟨L.b .ker, 0, none⟩), .int .i64 m, .pointer (some ⟨L.b (.t m), 0, none⟩), .int .i64 1, .int .i64 oa, .int .i64 ob]] #[]) := WFK.cell 1
     have HC := zh (yield_any (o := ⟨1, oa, ob⟩) K3.out O1.out hO1m' hBW3 hs1)
     unfold callV at HC
     have EA : Hid (k.do_ m = k1.yield m) := by
      show _ = _
      rw [ED.out]
      rfl
     clear WCK WFK HFC2
     go_wp2_with fail
     refine HC.out.mono ?_
     rintro e w5 hp
     obtain ⟨rfl, hq⟩ := CallPost.of B3.out hp
     have HQ := zh hq
     clear hp hq
     go_wp2_with fail
     go_end0
     rw [EA.out]
     exact ⟨rfl, HQ.out⟩
   ·as_aux_lemma =>
     have WCK := WC3.out
     have WFK := WF3.out
     have c3 : W3.cell? ⟨w.heap.size, 3, none⟩ = some (.int .i64 2) := WCK.cell 3
     have fk : W3.cell? ⟨w.heap.size + 1, 2, none⟩ = some (.func (.func 61) #[.agg #[.pointer (some ⟨L.b .ker, 0, none⟩), .int .i64 m, .pointer (some ⟨L.b (.t m), 0, none⟩), .int .i64 2, .int .i64 oa, .int .i64 ob]] #[]) := WFK.cell 2
     have HC := zh (delay_any (o := ⟨2, oa, ob⟩) K3.out O1.out hO1m' hBW3 hs1)
     unfold callV at HC
     have EA : Hid (k.do_ m = k1.delay m ⟨2, oa, ob⟩) := by
      show _ = _
      rw [ED.out]
      rfl
     clear WCK WFK HFC2
     go_wp2_with fail
     refine HC.out.mono ?_
     rintro e w5 hp
     obtain ⟨rfl, hq⟩ := CallPost.of B3.out hp
     have HQ := zh hq
     clear hp hq
     go_wp2_with fail
     go_end0
     rw [EA.out]
     exact ⟨rfl, HQ.out⟩
   ·as_aux_lemma =>
     obtain ⟨a, rfl⟩ := Int.eq_ofNat_of_zero_le (show 0 ≤ oa by omega)
     have WCK := WC3.out
     have WFK := WF3.out
     have c3 : W3.cell? ⟨w.heap.size, 3, none⟩ = some (.int .i64 3) := WCK.cell 3
     have fk : W3.cell? ⟨w.heap.size + 1, 3, none⟩ = some (.func (.func 62) #[.agg #[.pointer (some ⟨L.b .ker, 0, none⟩), .int .i64 m, .pointer (some ⟨L.b (.t m), 0, none⟩), .int .i64 3, .int .i64 (a : Int), .int .i64 ob]] #[]) := WFK.cell 3
     have HC := zh (take_any (kd := 3) (ob := ob) (a := a) K3.out O1.out hO1m' hBW3 hs1 (by omega) (by omega))
     unfold callV at HC
     have EA : Hid (k.do_ m = k1.take m ⟨3, a, ob⟩) := by
      show _ = _
      rw [ED.out]
      rfl
     clear WCK WFK HFC2
     go_wp2_with fail
     refine HC.out.mono ?_
     rintro e w5 hp
     obtain ⟨rfl, hq⟩ := CallPost.of B3.out hp
     have HQ := zh hq
     clear hp hq
     go_wp2_with fail
     go_end0
     rw [EA.out]
     exact ⟨rfl, HQ.out⟩
   ·as_aux_lemma =>
     obtain ⟨a, rfl⟩ := Int.eq_ofNat_of_zero_le (show 0 ≤ oa by omega)
     have WCK := WC3.out
     have WFK := WF3.out
     have c3 : W3.cell? ⟨w.heap.size, 3, none⟩ = some (.int .i64 4) := WCK.cell 3
     have fk : W3.cell? ⟨w.heap.size + 1, 4, none⟩ = some (.func (.func 63) #[.agg #[.pointer (some ⟨L.b .ker, 0, none⟩), .int .i64 m, .pointer (some ⟨L.b (.t m), 0, none⟩), .int .i64 4, .int .i64 (a : Int), .int .i64 ob]] #[]) := WFK.cell 4
     have HC := zh (give_any (kd := 4) (ob := ob) (a := a) K3.out O1.out hO1m' hBW3 (by omega))
     unfold callV at HC
     have EA : Hid (k.do_ m = k1.give m ⟨4, a, ob⟩) := by
      show _ = _
      rw [ED.out]
      rfl
     clear WCK WFK HFC2
     go_wp2_with fail
     refine HC.out.mono ?_
     rintro e w5 hp
     obtain ⟨rfl, hq⟩ := CallPost.of B3.out hp
     have HQ := zh hq
     clear hp hq
     go_wp2_with fail
     go_end0
     rw [EA.out]
     exact ⟨rfl, HQ.out⟩
   ·as_aux_lemma =>
     obtain ⟨a, rfl⟩ := Int.eq_ofNat_of_zero_le (show 0 ≤ oa by omega)
     have WCK := WC3.out
     have WFK := WF3.out
     have c3 : W3.cell? ⟨w.heap.size, 3, none⟩ = some (.int .i64 5) := WCK.cell 3
     have fk : W3.cell? ⟨w.heap.size + 1, 5, none⟩ = some (.func (.func 64) #[.agg #[.pointer (some ⟨L.b .ker, 0, none⟩), .int .i64 m, .pointer (some ⟨L.b (.t m), 0, none⟩), .int .i64 5, .int .i64 (a : Int), .int .i64 ob]] #[]) := WFK.cell 5
     have HC := zh (lock_any (kd := 5) (ob := ob) (a := a) K3.out O1.out hO1m' hBW3 hs1 (by omega))
     unfold callV at HC
     have EA : Hid (k.do_ m = k1.lock m ⟨5, a, ob⟩) := by
      show _ = _
      rw [ED.out]
      rfl
     clear WCK WFK HFC2
     go_wp2_with fail
     refine HC.out.mono ?_
     rintro e w5 hp
     obtain ⟨rfl, hq⟩ := CallPost.of B3.out hp
     have HQ := zh hq
     clear hp hq
     go_wp2_with fail
     go_end0
     rw [EA.out]
     exact ⟨rfl, HQ.out⟩
   ·as_aux_lemma =>
     obtain ⟨a, rfl⟩ := Int.eq_ofNat_of_zero_le (show 0 ≤ oa by omega)
     have WCK := WC3.out
     have WFK := WF3.out
     have c3 : W3.cell? ⟨w.heap.size, 3, none⟩ = some (.int .i64 6) := WCK.cell 3
     have fk : W3.cell? ⟨w.heap.size + 1, 6, none⟩ = some (.func (.func 65) #[.agg #[.pointer (some ⟨L.b .ker, 0, none⟩), .int .i64 m, .pointer (some ⟨L.b (.t m), 0, none⟩), .int .i64 6, .int .i64 (a : Int), .int .i64 ob]] #[]) := WFK.cell 6
     have HC := zh (unlock_any (kd := 6) (ob := ob) (a := a) K3.out O1.out hO1m' hBW3 (by omega))
     unfold callV at HC
     have EA : Hid (k.do_ m = k1.unlock m ⟨6, a, ob⟩) := by
      show _ = _
      rw [ED.out]
      rfl
     clear WCK WFK HFC2
     go_wp2_with fail
     refine HC.out.mono ?_
     rintro e w5 hp
     obtain ⟨rfl, hq⟩ := CallPost.of B3.out hp
     have HQ := zh hq
     clear hp hq
     go_wp2_with fail
     go_end0
     rw [EA.out]
     exact ⟨rfl, HQ.out⟩
   ·as_aux_lemma =>
     obtain ⟨a, rfl⟩ := Int.eq_ofNat_of_zero_le (show 0 ≤ oa by omega)
     have WCK := WC3.out
     have WFK := WF3.out
     have c3 : W3.cell? ⟨w.heap.size, 3, none⟩ = some (.int .i64 7) := WCK.cell 3
     have fk : W3.cell? ⟨w.heap.size + 1, 7, none⟩ = some (.func (.func 66) #[.agg #[.pointer (some ⟨L.b .ker, 0, none⟩), .int .i64 m, .pointer (some ⟨L.b (.t m), 0, none⟩), .int .i64 7, .int .i64 (a : Int), .int .i64 ob]] #[]) := WFK.cell 7
     have HC := zh (send_any (kd := 7) (ob := ob) (a := a) K3.out O1.out hO1m' hBW3 hs1 (by omega))
     unfold callV at HC
     have EA : Hid (k.do_ m = k1.send m ⟨7, a, ob⟩) := by
      show _ = _
      rw [ED.out]
      rfl
     clear WCK WFK HFC2
     go_wp2_with fail
     refine HC.out.mono ?_
     rintro e w5 hp
     obtain ⟨rfl, hq⟩ := CallPost.of B3.out hp
     have HQ := zh hq
     clear hp hq
     go_wp2_with fail
     go_end0
     rw [EA.out]
     exact ⟨rfl, HQ.out⟩
   ·as_aux_lemma =>
     obtain ⟨a, rfl⟩ := Int.eq_ofNat_of_zero_le (show 0 ≤ oa by omega)
     have WCK := WC3.out
     have WFK := WF3.out
     have c3 : W3.cell? ⟨w.heap.size, 3, none⟩ = some (.int .i64 8) := WCK.cell 3
     have fk : W3.cell? ⟨w.heap.size + 1, 8, none⟩ = some (.func (.func 67) #[.agg #[.pointer (some ⟨L.b .ker, 0, none⟩), .int .i64 m, .pointer (some ⟨L.b (.t m), 0, none⟩), .int .i64 8, .int .i64 (a : Int), .int .i64 ob]] #[]) := WFK.cell 8
     have HC := zh (recv_any (kd := 8) (ob := ob) (a := a) K3.out O1.out hO1m' hBW3 hs1 (by omega))
     unfold callV at HC
     have EA : Hid (k.do_ m = k1.recv m ⟨8, a, ob⟩) := by
      show _ = _
      rw [ED.out]
      rfl
     clear WCK WFK HFC2
     go_wp2_with fail
     refine HC.out.mono ?_
     rintro e w5 hp
     obtain ⟨rfl, hq⟩ := CallPost.of B3.out hp
     have HQ := zh hq
     clear hp hq
     go_wp2_with fail
     go_end0
     rw [EA.out]
     exact ⟨rfl, HQ.out⟩
   ·as_aux_lemma =>
     have WCK := WC3.out
     have WFK := WF3.out
     have c3 : W3.cell? ⟨w.heap.size, 3, none⟩ = some (.int .i64 9) := WCK.cell 3
     have fk : W3.cell? ⟨w.heap.size + 1, 9, none⟩ = some (.func (.func 68) #[.agg #[.pointer (some ⟨L.b .ker, 0, none⟩), .int .i64 m, .pointer (some ⟨L.b (.t m), 0, none⟩), .int .i64 9, .int .i64 oa, .int .i64 ob]] #[]) := WFK.cell 9
     have HC := zh (show_any (o := ⟨9, oa, ob⟩) K3.out O1.out hO1m' hBW3 ho1)
     unfold callV at HC
     have EA : Hid (k.do_ m = k1.show_ m) := by
      show _ = _
      rw [ED.out]
      rfl
     clear WCK WFK HFC2
     go_wp2_with fail
     refine HC.out.mono ?_
     rintro e w5 hp
     obtain ⟨rfl, hq⟩ := CallPost.of B3.out hp
     have HQ := zh hq
     clear hp hq
     go_wp2_with fail
     go_end0
     rw [EA.out]
     exact ⟨rfl, HQ.out⟩
   ·as_aux_lemma =>
     obtain ⟨a, rfl⟩ := Int.eq_ofNat_of_zero_le (show 0 ≤ oa by omega)
     have WCK := WC3.out
     have WFK := WF3.out
     have c3 : W3.cell? ⟨w.heap.size, 3, none⟩ = some (.int .i64 10) := WCK.cell 3
     have fk : W3.cell? ⟨w.heap.size + 1, 10, none⟩ = some (.func (.func 69) #[.agg #[.pointer (some ⟨L.b .ker, 0, none⟩), .int .i64 m, .pointer (some ⟨L.b (.t m), 0, none⟩), .int .i64 10, .int .i64 (a : Int), .int .i64 ob]] #[]) := WFK.cell 10
     have HC := zh (loop_any (kd := 10) (ob := ob) (a := a) K3.out O1.out hO1m' hBW3 hp1 (by omega))
     unfold callV at HC
     have EA : Hid (k.do_ m = k1.loop m ⟨10, a, ob⟩) := by
      show _ = _
      rw [ED.out]
      rfl
     clear WCK WFK HFC2
     go_wp2_with fail
     refine HC.out.mono ?_
     rintro e w5 hp
     obtain ⟨rfl, hq⟩ := CallPost.of B3.out hp
     have HQ := zh hq
     clear hp hq
     go_wp2_with fail
     go_end0
     rw [EA.out]
     exact ⟨rfl, HQ.out⟩
   ·as_aux_lemma =>
     have WCK := WC3.out
     have WFK := WF3.out
     have c3 : W3.cell? ⟨w.heap.size, 3, none⟩ = some (.int .i64 11) := WCK.cell 3
     have fk : W3.cell? ⟨w.heap.size + 1, 11, none⟩ = some (.func (.func 70) #[.agg #[.pointer (some ⟨L.b .ker, 0, none⟩), .int .i64 m, .pointer (some ⟨L.b (.t m), 0, none⟩), .int .i64 11, .int .i64 oa, .int .i64 ob]] #[]) := WFK.cell 11
     have HC := zh (bad_any (o := ⟨11, oa, ob⟩) K3.out hO1m' hBW3)
     unfold callV at HC
     have EA : Hid (k.do_ m = k1.say m 5) := by
      show _ = _
      rw [ED.out]
      rfl
     clear WCK WFK HFC2
     go_wp2_with fail
     refine HC.out.mono ?_
     rintro e w5 hp
     obtain ⟨rfl, hq⟩ := (⟨hp.1, L, hp.2.1, Sam.refl L, B3.out.trans hp.2.2⟩ : CallPost w B (k1.say m 5) L e w5)
     have HQ := zh hq
     clear hp hq
     go_wp2_with fail
     go_end0
     rw [EA.out]
     exact ⟨rfl, HQ.out⟩
   ·as_aux_lemma =>
     have WCK := WC3.out
     have WFK := WF3.out
     have c3 : W3.cell? ⟨w.heap.size, 3, none⟩ = some (.int .i64 12) := WCK.cell 3
     have fk : W3.cell? ⟨w.heap.size + 1, 12, none⟩ = some (.func (.func 71) #[.agg #[.pointer (some ⟨L.b .ker, 0, none⟩), .int .i64 m, .pointer (some ⟨L.b (.t m), 0, none⟩), .int .i64 12, .int .i64 oa, .int .i64 ob]] #[]) := WFK.cell 12
     have HC := zh (poke_any (o := ⟨12, oa, ob⟩) K3.out O1.out hO1m' hBW3 ho1)
     unfold callV at HC
     have EA : Hid (k.do_ m = (k1.put 33).fin m) := by
      show _ = _
      rw [ED.out]
      rfl
     clear WCK WFK HFC2
     go_wp2_with fail
     refine HC.out.mono ?_
     rintro e w5 hp
     obtain ⟨rfl, hq⟩ := CallPost.of B3.out hp
     have HQ := zh hq
     clear hp hq
     go_wp2_with fail
     go_end0
     rw [EA.out]
     exact ⟨rfl, HQ.out⟩
   ·as_aux_lemma =>
     have WCK := WC3.out
     have WFK := WF3.out
     have c3 : W3.cell? ⟨w.heap.size, 3, none⟩ = some (.int .i64 13) := WCK.cell 3
     have fk : W3.cell? ⟨w.heap.size + 1, 13, none⟩ = some (.func (.func 72) #[.agg #[.pointer (some ⟨L.b .ker, 0, none⟩), .int .i64 m, .pointer (some ⟨L.b (.t m), 0, none⟩), .int .i64 13, .int .i64 oa, .int .i64 ob]] #[]) := WFK.cell 13
     have HC := zh (base_any (o := ⟨13, oa, ob⟩) K3.out hO1m' hBW3)
     unfold callV at HC
     have EA : Hid (k.do_ m = k1.setBase m ⟨13, oa, ob⟩) := by
      show _ = _
      rw [ED.out]
      rfl
     clear WCK WFK HFC2
     go_wp2_with fail
     refine HC.out.mono ?_
     rintro e w5 hp
     obtain ⟨rfl, hq⟩ := (⟨hp.1, L, hp.2.1, Sam.refl L, B3.out.trans hp.2.2⟩ : CallPost w B (k1.setBase m ⟨13, oa, ob⟩) L e w5)
     have HQ := zh hq
     clear hp hq
     go_wp2_with fail
     go_end0
     rw [EA.out]
     exact ⟨rfl, HQ.out⟩
   ·as_aux_lemma =>
     have WCK := WC3.out
     have WFK := WF3.out
     have c3 : W3.cell? ⟨w.heap.size, 3, none⟩ = some (.int .i64 14) := WCK.cell 3
     have fk : W3.cell? ⟨w.heap.size + 1, 14, none⟩ = some (.func (.func 73) #[.agg #[.pointer (some ⟨L.b .ker, 0, none⟩), .int .i64 m, .pointer (some ⟨L.b (.t m), 0, none⟩), .int .i64 14, .int .i64 oa, .int .i64 ob]] #[]) := WFK.cell 14
     have HC := zh (who_any (o := ⟨14, oa, ob⟩) K3.out hO1m' hBW3)
     unfold callV at HC
     have EA : Hid (k.do_ m = k1.say m m) := by
      show _ = _
      rw [ED.out]
      rfl
     clear WCK WFK HFC2
     go_wp2_with fail
     refine HC.out.mono ?_
     rintro e w5 hp
     obtain ⟨rfl, hq⟩ := (⟨hp.1, L, hp.2.1, Sam.refl L, B3.out.trans hp.2.2⟩ : CallPost w B (k1.say m m) L e w5)
     have HQ := zh hq
     clear hp hq
     go_wp2_with fail
     go_end0
     rw [EA.out]
     exact ⟨rfl, HQ.out⟩
  exact AllReadyH.nil
 exact AllReadyH.nil
end Go.Proofs.Ytncbgnpoffolcaa
