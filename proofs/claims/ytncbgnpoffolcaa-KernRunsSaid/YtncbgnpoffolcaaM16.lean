/-
  The kernel made of a table: the walk of begin.
-/
import Derived.Test.YtncbgnpoffolcaaNt
import Derived.Test.YtncbgnpoffolcaaM15
import Derived.Deep.CutBlock
/-! The kernel made of a table: the walk of begin. -/
namespace Go.Proofs.Ytncbgnpoffolcaa
open Go.RowKit
theorem info80 : (Try.prog.info? 80).map (fun i => (i.zero, i.size, i.bytes)) = some (some (.pointer none), 1, 8) := by kernel_rfl
theorem info83 : (Try.prog.info? 83).map (fun i => (i.zero, i.size, i.bytes)) = some (some (.pointer none), 1, 8) := by kernel_rfl
theorem info86 : (Try.prog.info? 86).map (fun i => (i.zero, i.size, i.bytes)) = some (some (.pointer none), 1, 8) := by kernel_rfl
theorem info69 : (Try.prog.info? 69).map (fun i => (i.zero, i.size, i.bytes)) = some (some (.pointer none), 1, 8) := by kernel_rfl
/-- A kernel without anything. -/
def k00 : Kn.K := { tasks := [], lst := List.replicate 72 [], sems := [], owner := [], size := [], out := [], ticks := 0, ops := 0 }
def L00 (g : Nat) : Lay := { b := fun c => match c with | .ker => g | _ => 0, off := fun _ => 0, cap := fun _ => 0, nil := fun _ => true, opA := fun _ => none }
def ker0 : Array Value := #[.slice none 0 0, .slice none 0 0, .slice none 0 0, .slice none 0 0, .slice none 0 0, .slice none 0 0, .slice none 0 0, .slice none 0 0, .slice none 0 0, .slice none 0 0, .slice none 0 0, .slice none 0 0, .slice none 0 0, .slice none 0 0, .slice none 0 0, .slice none 0 0, .slice none 0 0, .slice none 0 0, .slice none 0 0, .slice none 0 0, .slice none 0 0, .slice none 0 0, .slice none 0 0, .slice none 0 0, .slice none 0 0, .slice none 0 0, .slice none 0 0, .slice none 0 0, .slice none 0 0, .slice none 0 0, .slice none 0 0, .slice none 0 0, .slice none 0 0, .slice none 0 0, .slice none 0 0, .slice none 0 0, .slice none 0 0, .int .i64 0, .int .i64 0]
theorem ker0_eq (g : Nat) : kerCells k00 (L00 g) = ker0 := by
 unfold kerCells ker0 Lay.hd L00 k00
 rfl
theorem KM.base {w : World} {B g : Nat} (h : Whole w g 68 ker0) (hB : B ≤ g) : KM w B k00 (L00 g) := by
 refine ⟨fun c hc => ?_, fun c c' h1 h2 e => ?_, fun c hc => ?_, ⟨fun _ => rfl, fun _ => rfl, fun _ => rfl, fun _ => rfl, fun _ => rfl, fun x _ => ?_⟩, rfl, by decide⟩
 ·cases c with
  | ker =>
    show _ = _
    rw [ker0_eq]
    exact h
  | t i => exact absurd hc (by show ¬ i < 0; omega)
  | lp i => exact absurd hc (by show ¬ i < 0; omega)
  | o i => exact absurd hc.1 (by show ¬ i < 0; omega)
  | s i => exact absurd hc (by show ¬ i < 0; omega)
  | m i => exact absurd hc (by show ¬ i < 0; omega)
  | q i => exact absurd hc (by show ¬ i < 0; omega)
  | l x => cases hc.2
  | ta => cases hc
  | sa => cases hc
  | ma => cases hc
  | qa => cases hc
  | out => cases hc
 ·have only : ∀ c : Part, c.live k00 (L00 g) → c = .ker := fun c hc => by
   cases c with
   | ker => rfl
   | t i => exact absurd hc (by show ¬ i < 0; omega)
   | lp i => exact absurd hc (by show ¬ i < 0; omega)
   | o i => exact absurd hc.1 (by show ¬ i < 0; omega)
   | s i => exact absurd hc (by show ¬ i < 0; omega)
   | m i => exact absurd hc (by show ¬ i < 0; omega)
   | q i => exact absurd hc (by show ¬ i < 0; omega)
   | l x => cases hc.2
   | ta => cases hc
   | sa => cases hc
   | ma => cases hc
   | qa => cases hc
   | out => cases hc
  rw [only c h1, only c' h2]
 ·cases c with
  | ker => exact hB
  | t i => exact absurd hc (by show ¬ i < 0; omega)
  | lp i => exact absurd hc (by show ¬ i < 0; omega)
  | o i => exact absurd hc.1 (by show ¬ i < 0; omega)
  | s i => exact absurd hc (by show ¬ i < 0; omega)
  | m i => exact absurd hc (by show ¬ i < 0; omega)
  | q i => exact absurd hc (by show ¬ i < 0; omega)
  | l x => cases hc.2
  | ta => cases hc
  | sa => cases hc
  | ma => cases hc
  | qa => cases hc
  | out => cases hc
 ·show (List.replicate 72 ([] : List Int)).getD x [] = []
  rw [zd, List.getElem?_replicate]
  split <;> rfl
theorem rowsOf_len : ∀ (l : List Kn.Task) (i : Nat) (lst : List (List Int)) (p : Nat), ((Kn.rowsOf l i lst).getD p []).length ≤ (lst.getD p []).length + l.length
 | [], _, _, _ => by simp [Kn.rowsOf]
 | x :: r, i, lst, p => by
   have ih := rowsOf_len r (i + 1) (lst.modify x.prio.toNat (· ++ [(i : Int)])) p
   have h : ((lst.modify x.prio.toNat (· ++ [(i : Int)])).getD p []).length ≤ (lst.getD p []).length + 1 := by
    rw [zd, zd, List.getElem?_modify]
    rcases lst[p]? with _ | l
    ·simp
    ·by_cases e : x.prio.toNat = p <;> simp [e]
   rw [List.length_cons]
   show ((Kn.rowsOf r (i + 1) (lst.modify x.prio.toNat (· ++ [(i : Int)]))).getD p []).length ≤ _
   omega
theorem rows_len (l : List Kn.Task) (i : Nat) (lst : List (List Int)) (p : Nat) : ((Kn.rowsOf l i lst).getD p []).length ≤ (lst.getD p []).length + l.length := rowsOf_len l i lst p
theorem rows_snoc' (x : Kn.Task) : ∀ (l : List Kn.Task) (i : Nat) (lst : List (List Int)), Kn.rowsOf (l ++ [x]) i lst = (Kn.rowsOf l i lst).modify x.prio.toNat (· ++ [((i + l.length : Nat) : Int)])
 | [], i, lst => rfl
 | y :: r, i, lst => by
   show Kn.rowsOf (r ++ [x]) (i + 1) _ = _
   rw [rows_snoc' x r (i + 1), List.length_cons, show i + 1 + r.length = i + (r.length + 1) by omega]
   rfl
theorem rows_snoc {x : Kn.Task} {l : List Kn.Task} {i : Nat} {lst : List (List Int)} : Kn.rowsOf (l ++ [x]) i lst = (Kn.rowsOf l i lst).modify x.prio.toNat (· ++ [((i + l.length : Nat) : Int)]) := rows_snoc' x l i lst
theorem cell_al {w : World} {a : Addr} {o : Obj} {v : Value} (h : w.cell? a = some v) : (w.alloc o).cell? a = some v := (zw w o a (World.block_lt_of_cell? w a h)).trans h
theorem OpsIn.from {w : World} {N N' : Nat} {A : Option Addr} {ops : List Kn.Op} (h : OpsIn w N A ops) (hN : N' ≤ N) : OpsIn w N' A ops := fun hn => by
 obtain ⟨g, e, hg, r⟩ := h hn
 exact ⟨g, e, by omega, r⟩
theorem task_of_fits {t : Kn.Table} (h : t.fits = true) {x : Kn.Task} (hx : x ∈ t.tasks) : 0 ≤ x.prio ∧ x.prio ≤ 31 ∧ x.ops.length ≤ 100 := by
 unfold Kn.Table.fits at h
 simp only [Bool.and_eq_true] at h
 have q := List.all_eq_true.1 h.2 x hx
 unfold Kn.Task.fits at q
 simp only [Bool.and_eq_true, decide_eq_true_eq] at q
 exact q.1
theorem hd_own {w : World} {B : Nat} {k : Kn.K} {L : Lay} {pa : Part} {n ty : Nat} {f : Nat → Value} (h : KM w B k L) (hl : L.nil pa = false → pa.live k L) (hoff : L.nil pa = false → L.off pa = 0 ∧ Ptrs w.heap[L.b pa]? ty n (L.cap pa) f) (hn : L.nil pa = true → n = 0) :
 w.ownsRow B ty 1 (L.hd pa n) n ((List.range n).map f) := by
 cases q : L.nil pa with
 | true =>
   have := hn q
   subst this
   have e : L.hd pa 0 = .slice none 0 0 := by simp [Lay.hd, q]
   rw [e]
   exact World.ownsRow_nil _ _ _ _
 | false =>
   obtain ⟨e1, e2⟩ := hoff q
   have e : L.hd pa n = .slice (some ⟨L.b pa, 0, none⟩) n (L.cap pa) := by simp [Lay.hd, q, e1]
   rw [e]
   exact Ptrs.row e2 (h.low pa (hl q))
theorem hd_block {w : World} {B : Nat} {k : Kn.K} {L : Lay} {pa c : Part} {n : Nat} (h : KM w B k L) (hl : L.nil pa = false → pa.live k L) (hc : c.live k L) (hne : pa ≠ c) : (L.hd pa n).ownBlock ≠ some (L.b c) := by
 intro e
 cases q : L.nil pa with
 | true => simp [Lay.hd, q, Value.ownBlock] at e
 | false =>
   have e' : L.b pa = L.b c := by simpa [Lay.hd, q, Value.ownBlock] using e
   exact hne (h.apart pa c (hl q) hc e')
section
variable {w : World} {B : Nat} {k : Kn.K} {L : Lay}
theorem KM.saRow (h : KM w B k L) : w.ownsRow B 80 1 (L.hd .sa k.sems.length) k.sems.length ((List.range k.sems.length).map fun i => L.ptr (.s i) 0) := hd_own h id (fun q => h.cont .sa q) h.nil.2.1
theorem KM.maRow (h : KM w B k L) : w.ownsRow B 83 1 (L.hd .ma k.owner.length) k.owner.length ((List.range k.owner.length).map fun i => L.ptr (.m i) 0) := hd_own h id (fun q => h.cont .ma q) h.nil.2.2.1
theorem KM.qaRow (h : KM w B k L) : w.ownsRow B 86 1 (L.hd .qa k.size.length) k.size.length ((List.range k.size.length).map fun i => L.ptr (.q i) 0) := hd_own h id (fun q => h.cont .qa q) h.nil.2.2.2.1
theorem KM.taRow (h : KM w B k L) : w.ownsRow B 69 1 (L.hd .ta k.tasks.length) k.tasks.length ((List.range k.tasks.length).map fun i => L.ptr (.t i) 0) := hd_own h id (fun q => h.cont .ta q) h.nil.1
end
set_option maxRecDepth 100000 in
set_option maxHeartbeats 16000000 in
theorem begin_any {w : World} {A1 A2 A3 : Option Addr} {c1 c2 c3 : Nat} {t : Kn.Table} (hr : TabRd w w.heap.size A1 A2 A3 t) (ht : t.fits = true) :
 Calls Try.prog 31 #[.agg #[.slice A1 t.tasks.length c1, .slice A2 t.sems.length c2, .int .i64 t.mutexes, .slice A3 t.queues.length c3]] w
  fun e w' => e = .returned (.pointer (some ⟨w.heap.size + 1, 0, none⟩)) ∧ Below w.heap.size w w' ∧ ∃ L, KM w' (w.heap.size + 1) (Kn.begin t) L ∧ L.b .ker = w.heap.size + 1 := by
 have HR := zh hr
 have hfit : 1 ≤ t.tasks.length ∧ t.tasks.length ≤ 32 ∧ t.sems.length ≤ 8 ∧ 0 ≤ t.mutexes ∧ t.mutexes ≤ 8 ∧ t.queues.length ≤ 8 := by
  unfold Kn.Table.fits at ht
  simp only [Bool.and_eq_true, decide_eq_true_eq] at ht
  exact ht.1.1.1
 have HT := zh ht
 obtain ⟨f1, f2, f3, f4, f5, f6⟩ := hfit
 clear hr ht
 obtain ⟨W1, hW1⟩ : ∃ W1, W1 = (w.alloc (.cells #[.slice A1 t.tasks.length c1, .slice A2 t.sems.length c2, .int .i64 t.mutexes, .slice A3 t.queues.length c3] 26)).alloc (.cells #[.slice none 0 0, .slice none 0 0, .slice none 0 0, .slice none 0 0, .slice none 0 0, .slice none 0 0, .slice none 0 0, .slice none 0 0, .slice none 0 0, .slice none 0 0, .slice none 0 0, .slice none 0 0, .slice none 0 0, .slice none 0 0, .slice none 0 0, .slice none 0 0, .slice none 0 0, .slice none 0 0, .slice none 0 0, .slice none 0 0, .slice none 0 0, .slice none 0 0, .slice none 0 0, .slice none 0 0, .slice none 0 0, .slice none 0 0, .slice none 0 0, .slice none 0 0, .slice none 0 0, .slice none 0 0, .slice none 0 0, .slice none 0 0, .slice none 0 0, .slice none 0 0, .slice none 0 0, .slice none 0 0, .slice none 0 0, .int .i64 0, .int .i64 0] 68) := ⟨_, rfl⟩
 have wt1 : Whole W1 w.heap.size 26 #[.slice A1 t.tasks.length c1, .slice A2 t.sems.length c2, .int .i64 t.mutexes, .slice A3 t.queues.length c3] := by rw [hW1]; exact (zm w 26 _).alloc _
 have wk1 : Whole W1 (w.heap.size + 1) 68 ker0 := by
  rw [hW1]
  have := zm (w.alloc (.cells #[.slice A1 t.tasks.length c1, .slice A2 t.sems.length c2, .int .i64 t.mutexes, .slice A3 t.queues.length c3] 26)) 68 #[.slice none 0 0, .slice none 0 0, .slice none 0 0, .slice none 0 0, .slice none 0 0, .slice none 0 0, .slice none 0 0, .slice none 0 0, .slice none 0 0, .slice none 0 0, .slice none 0 0, .slice none 0 0, .slice none 0 0, .slice none 0 0, .slice none 0 0, .slice none 0 0, .slice none 0 0, .slice none 0 0, .slice none 0 0, .slice none 0 0, .slice none 0 0, .slice none 0 0, .slice none 0 0, .slice none 0 0, .slice none 0 0, .slice none 0 0, .slice none 0 0, .slice none 0 0, .slice none 0 0, .slice none 0 0, .slice none 0 0, .slice none 0 0, .slice none 0 0, .slice none 0 0, .slice none 0 0, .slice none 0 0, .slice none 0 0, .int .i64 0, .int .i64 0]
  rw [show (w.alloc (.cells #[.slice A1 t.tasks.length c1, .slice A2 t.sems.length c2, .int .i64 t.mutexes, .slice A3 t.queues.length c3] 26)).heap.size = w.heap.size + 1 by simp] at this
  exact this
 have hb1 : Below w.heap.size w W1 := by rw [hW1]; exact ((zr _ _).alloc (zl _) _).alloc (by simp) _
 have hz1 : W1.heap.size = w.heap.size + 2 := by rw [hW1]; simp
 have K1 := zh (KM.base (B := w.heap.size + 1) wk1 (zl _))
 have HW1 := zh hW1
 have WT1 := zh wt1
 have B1 := zh hb1
 have hW1z : w.heap.size + 2 ≤ W1.heap.size := by omega
 have HZ1 := zh hz1
 clear hW1 wt1 wk1 hb1 hz1
 go_enter Try.func31, Try.ntmps31
 go_upto_region 2 with fail
 rw [← HW1.out]
 have a1 : W1.cell? ⟨w.heap.size, 1, none⟩ = some (.slice A2 t.sems.length c2) := WT1.out.cell 1
 go_wp2_with fail
 clear a1
 go_loopg [15] t.sems.length (fun kk iv wr => ∃ (j : Nat) (L : Lay), j ≤ t.sems.length ∧ iv = .int .i64 j ∧ KM wr (w.heap.size + 1) { k00 with sems := t.sems.take j } L ∧ L.b .ker = w.heap.size + 1 ∧ (∀ x, L.nil (.l x) = true) ∧ Below (w.heap.size + 1) W1 wr ∧ t.sems.length - j ≤ kk)
 case atStart => exact ⟨0, L00 (w.heap.size + 1), Nat.zero_le _, rfl, K1.out, rfl, fun _ => rfl, zr _ _, by omega⟩
 case round =>
  obtain ⟨j, L, hj, rfl, hK, hLk, hnl, hBw, hkk⟩ := hrel
  have hzr := hBw.size
  have KJ := zh hK
  have HBW := zh hBw
  have HLK := zh hLk
  have HNL := zh hnl
  clear hK hBw hLk hnl
  by_cases hlt : j < t.sems.length
  ·have hlt' : (j : Int) < t.sems.length := by omega
   obtain ⟨ad, eA, had, hc'⟩ := HR.out.sems.int hlt
   subst eA
   have hc := ((B1.out.trans (HBW.out.mono (Nat.le_succ _))).cell (p := ad.add j) (by rw [block_of_add]; exact had)).trans hc'
   have HTK : Hid (t.sems.take (j + 1) = t.sems.take j ++ [t.sems[j]]) := List.take_succ_eq_append_getElem hlt
   generalize t.sems[j] = v at *
   clear hc'
   have hlen : (t.sems.take j).length = j := by simp; omega
   obtain ⟨ie, hie, hie0, hie1, hie2⟩ := info_parts info80
   have hrow := KJ.out.saRow
   have hker := KJ.out.ker
   rw [HLK.out] at hker
   have hhd : wr.cell? ⟨w.heap.size + 1, 1, none⟩ = some (L.hd .sa (t.sems.take j).length) := by rw [hker.cell]; rfl
   have hkb := hd_block (pa := .sa) (c := .ker) (n := (t.sems.take j).length) KJ.out id trivial (by simp)
   rw [HLK.out] at hkb
   obtain ⟨VV, hVV⟩ : ∃ VV, VV = L.hd .sa (t.sems.take j).length := ⟨_, rfl⟩
   obtain ⟨Wa, hWa⟩ : ∃ Wa, Wa = (wr.alloc (.cells #[.int .i64 v, .slice none 0 0] 82)).alloc (.cells #[.pointer (some ⟨wr.heap.size, 0, none⟩)] 80) := ⟨_, rfl⟩
   have hown : Wa.ownsRow (w.heap.size + 1) 80 1 VV (t.sems.take j).length ((List.range (t.sems.take j).length).map fun i => L.ptr (.s i) 0) := by rw [hVV, hWa]; exact (hrow.alloc _).alloc _
   have hbWa : Below wr.heap.size wr Wa := by rw [hWa]; exact ((zr _ _).alloc (zl _) _).alloc (by simp) _
   have hw1 : Whole Wa wr.heap.size 82 #[.int .i64 v, .slice none 0 0] := by rw [hWa]; exact (zm wr 82 _).alloc _
   have hsz : Wa.heap.size = wr.heap.size + 2 := by rw [hWa]; simp
   have hnews : ∀ (j : Nat) (u : Value), ([.pointer (some ⟨wr.heap.size, 0, none⟩)] : List Value)[j]? = some u → Wa.cell? ((⟨wr.heap.size + 1, 0, none⟩ : Addr).add j) = some u := by
    intro j u hj
    match j, hj with
    | 0, hj =>
      simp at hj
      subst hj
      rw [hWa]
      have := (zm (wr.alloc (.cells #[.int .i64 v, .slice none 0 0] 82)) 80 #[.pointer (some ⟨wr.heap.size, 0, none⟩)]).cell 0
      rw [show (wr.alloc (.cells #[.int .i64 v, .slice none 0 0] 82)).heap.size = wr.heap.size + 1 by simp] at this
      exact this
   rw [← hVV] at hhd hkb
   have HP := zh (fun (w5 : World) (g cap : Nat) (h1 : w5.ownsRow (w.heap.size + 1) 80 1 (.slice (some ⟨g, 0, none⟩) ((t.sems.take j).length + 1) cap) ((t.sems.take j).length + 1) (((List.range (t.sems.take j).length).map fun i => L.ptr (.s i) 0) ++ [.pointer (some ⟨wr.heap.size, 0, none⟩)])) (h2 : Wa.grownBy w5 VV.ownBlock) (h3 : VV.ownBlock = some g ∨ (wr.heap.size ≤ g ∧ g ≠ wr.heap.size)) =>
    KJ.out.addSem (W1 := Wa) (w5 := w5) (g := g) (cap := cap) (g1 := wr.heap.size) rfl (by show (t.sems.take j).length < 8; omega) HNL.out (by omega) hbWa (zl _) (by omega) hw1 h1 (by rw [← hVV]; exact h2) (by rw [← hVV]; exact h3))
   have HOWN := zh hown
   have HNEWS := zh hnews
   have HWA := zh hWa
   have HBA := zh hbWa
   have HSZ := zh hsz
   have HKER := zh hker
   have HLEN := zh hlen

   have hkf := hker.frozen 1
   clear hrow hown hnews hWa hbWa hsz hker hlen hVV hw1
   rw [HLEN.out] at HOWN HP
   go_wp2_with (at_builtin; rw [← HWA.out]; refine wpList_append_lies _ rfl _ _ 63 rfl (w.heap.size + 1) 80 ie _ 1 8 Try.underlying63 hie hie0 hie1 hie2 rfl (by decide) VV j _ rfl HOWN.out ⟨wr.heap.size + 1, 0, none⟩ 1 1 [.pointer (some ⟨wr.heap.size, 0, none⟩)] rfl rfl HNEWS.out (by simp [Value.oneCell']) (by decide) (by unfold maxLen; omega) (by omega) (by rw [HSZ.out]; omega) _ HSZ.out ?_)
   intro g cap w5 hown5 hgr5 hat5 hlt5
   have hw5 : Whole w5 (w.heap.size + 1) 68 (kerCells { k00 with sems := t.sems.take j } L) := HKER.out.same ((hgr5.block _ (by rw [HSZ.out]; have := HKER.out.lt; omega) (fun e => hkb e.symm)).trans (HBA.out.block _ HKER.out.lt))
   have z1 := (hw5.cell 1).trans ((HKER.out.cell 1).symm.trans hhd)
   have zf := hw5.frozen 1
   have hb5 : Below (w.heap.size + 1) W1 w5 := (HBW.out.trans (HBA.out.mono (by omega))).grown hgr5 (by rw [HSZ.out]; omega) (fun x hx => (HOWN.out.lt x hx).1)
   obtain ⟨L', k5, e5, n5⟩ := HP.out w5 g cap hown5 hgr5 (by rcases hat5 with q | q; exact .inl q; exact .inr ⟨by omega, by omega⟩)
   rw [HLK.out] at k5 e5
   have K5 : Hid (KM (w5.setCell ⟨w.heap.size + 1, 1, none⟩ (.slice (some ⟨g, 0, none⟩) (j + 1) cap)) (w.heap.size + 1) { k00 with sems := t.sems.take (j + 1) } L') := by
    show KM _ _ _ _
    rw [HTK.out]
    exact k5
   have E5 := zh e5
   have N5 := zh n5
   have B5 := zh hb5
   clear k5 e5 n5 hb5 hw5 hown5 hgr5 hat5 hhd hkf
   go_wp2_with fail
   go_roundg (t.sems.length - (j + 1))
   case measure => omega
   case rel => exact ⟨j + 1, L', by omega, by go_num, K5.out, E5.out, N5.out, B5.out.setCell (p := ⟨w.heap.size + 1, 1, none⟩) (zl _) _, zl _⟩
  ·have hge : ¬ (j : Int) < t.sems.length := by omega
   have hjl : j = t.sems.length := by omega
   have KE : Hid (KM wr (w.heap.size + 1) { k00 with sems := t.sems } L) := by
    show KM _ _ _ _
    have := KJ.out
    rw [hjl, List.take_length] at this
    exact this
   clear KJ hjl
   have an : wr.cell? ⟨w.heap.size, 2, none⟩ = some (.int .i64 t.mutexes) := (HBW.out.cell (p := ⟨w.heap.size, 2, none⟩) (Nat.lt_succ_self _)).trans (WT1.out.cell 2)
   go_wp2_with fail
   clear an
   go_loopg [34] t.mutexes.toNat (fun kk iv wr => ∃ (j : Nat) (L : Lay), j ≤ t.mutexes.toNat ∧ iv = .int .i64 j ∧ KM wr (w.heap.size + 1) { k00 with sems := t.sems, owner := List.replicate j (-1) } L ∧ L.b .ker = w.heap.size + 1 ∧ (∀ x, L.nil (.l x) = true) ∧ Below (w.heap.size + 1) W1 wr ∧ t.mutexes.toNat - j ≤ kk)
   case atStart => exact ⟨0, L, Nat.zero_le _, rfl, KE.out, HLK.out, HNL.out, HBW.out, by omega⟩
   case round =>
    obtain ⟨j, L, hj, rfl, hK, hLk, hnl, hBw, hkk⟩ := hrel
    have hzr := hBw.size
    have KJ := zh hK
    have HBW := zh hBw
    have HLK := zh hLk
    have HNL := zh hnl
    clear hK hBw hLk hnl
    by_cases hlt : j < t.mutexes.toNat
    ·have hlt' : (j : Int) < t.mutexes := by omega
     have HTK : Hid (List.replicate (j + 1) (-1 : Int) = List.replicate j (-1) ++ [-1]) := List.replicate_succ'
     have hlen : (List.replicate j (-1 : Int)).length = j := by simp
     obtain ⟨ie, hie, hie0, hie1, hie2⟩ := info_parts info83
     have hrow := KJ.out.maRow
     have hker := KJ.out.ker
     rw [HLK.out] at hker
     have hhd : wr.cell? ⟨w.heap.size + 1, 2, none⟩ = some (L.hd .ma (List.replicate j (-1 : Int)).length) := by rw [hker.cell]; rfl
     have hkb := hd_block (pa := .ma) (c := .ker) (n := (List.replicate j (-1 : Int)).length) KJ.out id trivial (by simp)
     rw [HLK.out] at hkb
     obtain ⟨VV, hVV⟩ : ∃ VV, VV = L.hd .ma (List.replicate j (-1 : Int)).length := ⟨_, rfl⟩
     obtain ⟨Wa, hWa⟩ : ∃ Wa, Wa = (wr.alloc (.cells #[.int .i64 (-1), .slice none 0 0] 85)).alloc (.cells #[.pointer (some ⟨wr.heap.size, 0, none⟩)] 83) := ⟨_, rfl⟩
     have hown : Wa.ownsRow (w.heap.size + 1) 83 1 VV (List.replicate j (-1 : Int)).length ((List.range (List.replicate j (-1 : Int)).length).map fun i => L.ptr (.m i) 0) := by rw [hVV, hWa]; exact (hrow.alloc _).alloc _
     have hbWa : Below wr.heap.size wr Wa := by rw [hWa]; exact ((zr _ _).alloc (zl _) _).alloc (by simp) _
     have hw1 : Whole Wa wr.heap.size 85 #[.int .i64 (-1), .slice none 0 0] := by rw [hWa]; exact (zm wr 85 _).alloc _
     have hsz : Wa.heap.size = wr.heap.size + 2 := by rw [hWa]; simp
     have hnews : ∀ (j : Nat) (u : Value), ([.pointer (some ⟨wr.heap.size, 0, none⟩)] : List Value)[j]? = some u → Wa.cell? ((⟨wr.heap.size + 1, 0, none⟩ : Addr).add j) = some u := by
      intro j u hj
      match j, hj with
      | 0, hj =>
        simp at hj
        subst hj
        rw [hWa]
        have := (zm (wr.alloc (.cells #[.int .i64 (-1), .slice none 0 0] 85)) 83 #[.pointer (some ⟨wr.heap.size, 0, none⟩)]).cell 0
        rw [show (wr.alloc (.cells #[.int .i64 (-1), .slice none 0 0] 85)).heap.size = wr.heap.size + 1 by simp] at this
        exact this
     rw [← hVV] at hhd hkb
     have HP := zh (fun (w5 : World) (g cap : Nat) (h1 : w5.ownsRow (w.heap.size + 1) 83 1 (.slice (some ⟨g, 0, none⟩) ((List.replicate j (-1 : Int)).length + 1) cap) ((List.replicate j (-1 : Int)).length + 1) (((List.range (List.replicate j (-1 : Int)).length).map fun i => L.ptr (.m i) 0) ++ [.pointer (some ⟨wr.heap.size, 0, none⟩)])) (h2 : Wa.grownBy w5 VV.ownBlock) (h3 : VV.ownBlock = some g ∨ (wr.heap.size ≤ g ∧ g ≠ wr.heap.size)) =>
      KJ.out.addMutex (W1 := Wa) (w5 := w5) (g := g) (cap := cap) (g1 := wr.heap.size) rfl (by show (List.replicate j (-1 : Int)).length < 8; omega) HNL.out (by omega) hbWa (zl _) (by omega) hw1 h1 (by rw [← hVV]; exact h2) (by rw [← hVV]; exact h3))
     have HOWN := zh hown
     have HNEWS := zh hnews
     have HWA := zh hWa
     have HBA := zh hbWa
     have HSZ := zh hsz
     have HKER := zh hker
     have HLEN := zh hlen

     have hkf := hker.frozen 2
     clear hrow hown hnews hWa hbWa hsz hker hlen hVV hw1
     rw [HLEN.out] at HOWN HP
     go_wp2_with (at_builtin; rw [← HWA.out]; refine wpList_append_lies _ rfl _ _ 64 rfl (w.heap.size + 1) 83 ie _ 1 8 Try.underlying64 hie hie0 hie1 hie2 rfl (by decide) VV j _ rfl HOWN.out ⟨wr.heap.size + 1, 0, none⟩ 1 1 [.pointer (some ⟨wr.heap.size, 0, none⟩)] rfl rfl HNEWS.out (by simp [Value.oneCell']) (by decide) (by unfold maxLen; omega) (by omega) (by rw [HSZ.out]; omega) _ HSZ.out ?_)
     intro g cap w5 hown5 hgr5 hat5 hlt5
     have hw5 : Whole w5 (w.heap.size + 1) 68 (kerCells { k00 with sems := t.sems, owner := List.replicate j (-1) } L) := HKER.out.same ((hgr5.block _ (by rw [HSZ.out]; have := HKER.out.lt; omega) (fun e => hkb e.symm)).trans (HBA.out.block _ HKER.out.lt))
     have z1 := (hw5.cell 2).trans ((HKER.out.cell 2).symm.trans hhd)
     have zf := hw5.frozen 2
     have hb5 : Below (w.heap.size + 1) W1 w5 := (HBW.out.trans (HBA.out.mono (by omega))).grown hgr5 (by rw [HSZ.out]; omega) (fun x hx => (HOWN.out.lt x hx).1)
     obtain ⟨L', k5, e5, n5⟩ := HP.out w5 g cap hown5 hgr5 (by rcases hat5 with q | q; exact .inl q; exact .inr ⟨by omega, by omega⟩)
     rw [HLK.out] at k5 e5
     have K5 : Hid (KM (w5.setCell ⟨w.heap.size + 1, 2, none⟩ (.slice (some ⟨g, 0, none⟩) (j + 1) cap)) (w.heap.size + 1) { k00 with sems := t.sems, owner := List.replicate (j + 1) (-1) } L') := by
      show KM _ _ _ _
      rw [HTK.out]
      exact k5
     have E5 := zh e5
     have N5 := zh n5
     have B5 := zh hb5
     clear k5 e5 n5 hb5 hw5 hown5 hgr5 hat5 hhd hkf
     go_wp2_with fail
     go_roundg (t.mutexes.toNat - (j + 1))
     case measure => omega
     case rel => exact ⟨j + 1, L', by omega, by go_num, K5.out, E5.out, N5.out, B5.out.setCell (p := ⟨w.heap.size + 1, 2, none⟩) (zl _) _, zl _⟩
    ·have hge : ¬ (j : Int) < t.mutexes := by omega
     have hjl : j = t.mutexes.toNat := by omega
     have KE : Hid (KM wr (w.heap.size + 1) { k00 with sems := t.sems, owner := List.replicate t.mutexes.toNat (-1) } L) := by
      show KM _ _ _ _
      have := KJ.out
      rw [hjl] at this
      exact this
     clear KJ hjl
     have an : wr.cell? ⟨w.heap.size, 3, none⟩ = some (.slice A3 t.queues.length c3) := (HBW.out.cell (p := ⟨w.heap.size, 3, none⟩) (Nat.lt_succ_self _)).trans (WT1.out.cell 3)
     go_wp2_with fail
     clear an
     go_loopg [51] t.queues.length (fun kk iv wr => ∃ (j : Nat) (L : Lay), j ≤ t.queues.length ∧ iv = .int .i64 j ∧ KM wr (w.heap.size + 1) { k00 with sems := t.sems, owner := List.replicate t.mutexes.toNat (-1), size := t.queues.take j } L ∧ L.b .ker = w.heap.size + 1 ∧ (∀ x, L.nil (.l x) = true) ∧ Below (w.heap.size + 1) W1 wr ∧ t.queues.length - j ≤ kk)
     case atStart => exact ⟨0, L, Nat.zero_le _, rfl, KE.out, HLK.out, HNL.out, HBW.out, by omega⟩
     case round =>
      obtain ⟨j, L, hj, rfl, hK, hLk, hnl, hBw, hkk⟩ := hrel
      have hzr := hBw.size
      have KJ := zh hK
      have HBW := zh hBw
      have HLK := zh hLk
      have HNL := zh hnl
      clear hK hBw hLk hnl
      by_cases hlt : j < t.queues.length
      ·have hlt' : (j : Int) < t.queues.length := by omega
       obtain ⟨ad, eA, had, hc'⟩ := HR.out.queues.int hlt
       subst eA
       have hc := ((B1.out.trans (HBW.out.mono (Nat.le_succ _))).cell (p := ad.add j) (by rw [block_of_add]; exact had)).trans hc'
       have HTK : Hid (t.queues.take (j + 1) = t.queues.take j ++ [t.queues[j]]) := List.take_succ_eq_append_getElem hlt
       generalize t.queues[j] = v at *
       clear hc'
       have hlen : (t.queues.take j).length = j := by simp; omega
       obtain ⟨ie, hie, hie0, hie1, hie2⟩ := info_parts info86
       have hrow := KJ.out.qaRow
       have hker := KJ.out.ker
       rw [HLK.out] at hker
       have hhd : wr.cell? ⟨w.heap.size + 1, 3, none⟩ = some (L.hd .qa (t.queues.take j).length) := by rw [hker.cell]; rfl
       have hkb := hd_block (pa := .qa) (c := .ker) (n := (t.queues.take j).length) KJ.out id trivial (by simp)
       rw [HLK.out] at hkb
       obtain ⟨VV, hVV⟩ : ∃ VV, VV = L.hd .qa (t.queues.take j).length := ⟨_, rfl⟩
       obtain ⟨Wa, hWa⟩ : ∃ Wa, Wa = (wr.alloc (.cells #[.int .i64 v, .slice none 0 0, .slice none 0 0, .slice none 0 0] 91)).alloc (.cells #[.pointer (some ⟨wr.heap.size, 0, none⟩)] 86) := ⟨_, rfl⟩
       have hown : Wa.ownsRow (w.heap.size + 1) 86 1 VV (t.queues.take j).length ((List.range (t.queues.take j).length).map fun i => L.ptr (.q i) 0) := by rw [hVV, hWa]; exact (hrow.alloc _).alloc _
       have hbWa : Below wr.heap.size wr Wa := by rw [hWa]; exact ((zr _ _).alloc (zl _) _).alloc (by simp) _
       have hw1 : Whole Wa wr.heap.size 91 #[.int .i64 v, .slice none 0 0, .slice none 0 0, .slice none 0 0] := by rw [hWa]; exact (zm wr 91 _).alloc _
       have hsz : Wa.heap.size = wr.heap.size + 2 := by rw [hWa]; simp
       have hnews : ∀ (j : Nat) (u : Value), ([.pointer (some ⟨wr.heap.size, 0, none⟩)] : List Value)[j]? = some u → Wa.cell? ((⟨wr.heap.size + 1, 0, none⟩ : Addr).add j) = some u := by
        intro j u hj
        match j, hj with
        | 0, hj =>
          simp at hj
          subst hj
          rw [hWa]
          have := (zm (wr.alloc (.cells #[.int .i64 v, .slice none 0 0, .slice none 0 0, .slice none 0 0] 91)) 86 #[.pointer (some ⟨wr.heap.size, 0, none⟩)]).cell 0
          rw [show (wr.alloc (.cells #[.int .i64 v, .slice none 0 0, .slice none 0 0, .slice none 0 0] 91)).heap.size = wr.heap.size + 1 by simp] at this
          exact this
       rw [← hVV] at hhd hkb
       have HP := zh (fun (w5 : World) (g cap : Nat) (h1 : w5.ownsRow (w.heap.size + 1) 86 1 (.slice (some ⟨g, 0, none⟩) ((t.queues.take j).length + 1) cap) ((t.queues.take j).length + 1) (((List.range (t.queues.take j).length).map fun i => L.ptr (.q i) 0) ++ [.pointer (some ⟨wr.heap.size, 0, none⟩)])) (h2 : Wa.grownBy w5 VV.ownBlock) (h3 : VV.ownBlock = some g ∨ (wr.heap.size ≤ g ∧ g ≠ wr.heap.size)) =>
        KJ.out.addQueue (W1 := Wa) (w5 := w5) (g := g) (cap := cap) (g1 := wr.heap.size) rfl (by show (t.queues.take j).length < 8; omega) HNL.out (by omega) hbWa (zl _) (by omega) hw1 h1 (by rw [← hVV]; exact h2) (by rw [← hVV]; exact h3))
       have HOWN := zh hown
       have HNEWS := zh hnews
       have HWA := zh hWa
       have HBA := zh hbWa
       have HSZ := zh hsz
       have HKER := zh hker
       have HLEN := zh hlen

       have hkf := hker.frozen 3
       clear hrow hown hnews hWa hbWa hsz hker hlen hVV hw1
       rw [HLEN.out] at HOWN HP
       go_wp2_with (at_builtin; rw [← HWA.out]; refine wpList_append_lies _ rfl _ _ 65 rfl (w.heap.size + 1) 86 ie _ 1 8 Try.underlying65 hie hie0 hie1 hie2 rfl (by decide) VV j _ rfl HOWN.out ⟨wr.heap.size + 1, 0, none⟩ 1 1 [.pointer (some ⟨wr.heap.size, 0, none⟩)] rfl rfl HNEWS.out (by simp [Value.oneCell']) (by decide) (by unfold maxLen; omega) (by omega) (by rw [HSZ.out]; omega) _ HSZ.out ?_)
       intro g cap w5 hown5 hgr5 hat5 hlt5
       have hw5 : Whole w5 (w.heap.size + 1) 68 (kerCells { k00 with sems := t.sems, owner := List.replicate t.mutexes.toNat (-1), size := t.queues.take j } L) := HKER.out.same ((hgr5.block _ (by rw [HSZ.out]; have := HKER.out.lt; omega) (fun e => hkb e.symm)).trans (HBA.out.block _ HKER.out.lt))
       have z1 := (hw5.cell 3).trans ((HKER.out.cell 3).symm.trans hhd)
       have zf := hw5.frozen 3
       have hb5 : Below (w.heap.size + 1) W1 w5 := (HBW.out.trans (HBA.out.mono (by omega))).grown hgr5 (by rw [HSZ.out]; omega) (fun x hx => (HOWN.out.lt x hx).1)
       obtain ⟨L', k5, e5, n5⟩ := HP.out w5 g cap hown5 hgr5 (by rcases hat5 with q | q; exact .inl q; exact .inr ⟨by omega, by omega⟩)
       rw [HLK.out] at k5 e5
       have K5 : Hid (KM (w5.setCell ⟨w.heap.size + 1, 3, none⟩ (.slice (some ⟨g, 0, none⟩) (j + 1) cap)) (w.heap.size + 1) { k00 with sems := t.sems, owner := List.replicate t.mutexes.toNat (-1), size := t.queues.take (j + 1) } L') := by
        show KM _ _ _ _
        rw [HTK.out]
        exact k5
       have E5 := zh e5
       have N5 := zh n5
       have B5 := zh hb5
       clear k5 e5 n5 hb5 hw5 hown5 hgr5 hat5 hhd hkf
       go_wp2_with fail
       go_roundg (t.queues.length - (j + 1))
       case measure => omega
       case rel => exact ⟨j + 1, L', by omega, by go_num, K5.out, E5.out, N5.out, B5.out.setCell (p := ⟨w.heap.size + 1, 3, none⟩) (zl _) _, zl _⟩
      ·have hge : ¬ (j : Int) < t.queues.length := by omega
       have hjl : j = t.queues.length := by omega
       have KE : Hid (KM wr (w.heap.size + 1) { k00 with sems := t.sems, owner := List.replicate t.mutexes.toNat (-1), size := t.queues } L) := by
        show KM _ _ _ _
        have := KJ.out
        rw [hjl, List.take_length] at this
        exact this
       clear KJ hjl
       have an : wr.cell? ⟨w.heap.size, 0, none⟩ = some (.slice A1 t.tasks.length c1) := (HBW.out.cell (p := ⟨w.heap.size, 0, none⟩) (Nat.lt_succ_self _)).trans (WT1.out.cell 0)
       go_wp2_with fail
       clear an
       go_loopg [71] t.tasks.length (fun kk iv wr => ∃ (j : Nat) (L : Lay), j ≤ t.tasks.length ∧ iv = .int .i64 j ∧ KM wr (w.heap.size + 1) { k00 with tasks := (t.tasks.take j).map newT, lst := Kn.rowsOf (t.tasks.take j) 0 (List.replicate 72 []), sems := t.sems, owner := List.replicate t.mutexes.toNat (-1), size := t.queues } L ∧ L.b .ker = w.heap.size + 1 ∧ Below (w.heap.size + 1) W1 wr ∧ t.tasks.length - j ≤ kk)
       case atStart => exact ⟨0, L, Nat.zero_le _, rfl, KE.out, HLK.out, HBW.out, by omega⟩
       case round =>
        obtain ⟨j, L, hj, rfl, hK, hLk, hBw, hkk⟩ := hrel
        have hzr := hBw.size
        have HKJ := zh hK
        have HBW := zh hBw
        have HLK := zh hLk
        clear hK hBw hLk
        by_cases hlt : j < t.tasks.length
        ·have hlt' : (j : Int) < t.tasks.length := by omega
         obtain ⟨ad, A, c, eA, had, q0', q1', hro, hol⟩ := HR.out.task j hlt
         subst eA
         have q0 := ((B1.out.trans (HBW.out.mono (Nat.le_succ _))).cell (p := ad.add (j * 2)) (by rw [block_of_add]; exact had)).trans q0'
         have q1 := ((B1.out.trans (HBW.out.mono (Nat.le_succ _))).cell (p := ad.add (j * 2 + 1)) (by rw [block_of_add]; exact had)).trans q1'
         have HTK : Hid (t.tasks.take (j + 1) = t.tasks.take j ++ [t.tasks[j]]) := List.take_succ_eq_append_getElem hlt
         have hfx := task_of_fits HT.out (List.getElem_mem hlt)
         generalize t.tasks[j] = x at *
         obtain ⟨hp0, hp31, hn100⟩ := hfx
         obtain ⟨pr, ops⟩ := x
         obtain ⟨p, rfl⟩ := Int.eq_ofNat_of_zero_le (show 0 ≤ pr from hp0)
         have hp32 : p < 32 := by have : (p : Int) ≤ 31 := hp31; omega
         have ip : (p : Int) < 32 := by omega
         have hn100' : ops.length ≤ 100 := hn100
         have q0b : wr.cell? (ad.add (j * 2)) = some (.int .i64 (p : Int)) := q0
         have q1b : wr.cell? ⟨(ad.add (j * 2)).block, (ad.add (j * 2)).off + 1, none⟩ = some (.slice A ops.length c) := by rw [← add_pos _ 1 (by decide), add_of_add]; exact q1
         have hro' : Reads w w.heap.size 3 A ops.length (opsC ops) := hro
         have hlen : ((t.tasks.take j).map newT).length = j := by simp; omega
         obtain ⟨W2, hW2⟩ : ∃ W2, W2 = wr.alloc (.cells #[.int .i64 (p : Int), .slice A ops.length c] 29) := ⟨_, rfl⟩
         have hb2 : Below wr.heap.size wr W2 := by rw [hW2]; exact (zr _ _).alloc (zl _) _
         have wx2 : Whole W2 wr.heap.size 29 #[.int .i64 (p : Int), .slice A ops.length c] := by rw [hW2]; exact zm wr 29 _
         have hz2 : W2.heap.size = wr.heap.size + 1 := by rw [hW2]; simp
         have K2 := zh (HKJ.out.below hb2)
         have HBW2 : Hid (Below (w.heap.size + 1) W1 W2) := HBW.out.trans (hb2.mono (by first | omega | (simp; done) | (simp; omega)))
         have hker := K2.out.ker
         rw [HLK.out] at hker
         have hhd : W2.cell? ⟨w.heap.size + 1, 0, none⟩ = some (L.hd .ta ((t.tasks.take j).map newT).length) := by rw [hker.cell]; rfl
         have hkb := hd_block (pa := .ta) (c := .ker) (n := ((t.tasks.take j).map newT).length) K2.out id trivial (by first | omega | (simp; done) | (simp; omega))
         rw [HLK.out] at hkb
         have hxb : (L.hd .ta ((t.tasks.take j).map newT).length).ownBlock ≠ some wr.heap.size := by
          intro e
          have := (HKJ.out.taRow).lt _ e
          omega
         obtain ⟨VV, hVV⟩ : ∃ VV, VV = L.hd .ta ((t.tasks.take j).map newT).length := ⟨_, rfl⟩
         obtain ⟨ie, hie, hie0, hie1, hie2⟩ := info_parts info69
         have hrow := K2.out.taRow
         have c0 : W2.cell? ⟨w.heap.size + 1, 0, none⟩ = some VV := by rw [hVV]; exact hhd
         rw [← hVV] at hkb hxb
         have hkl : w.heap.size + 1 < W2.heap.size := by omega
         have hxl : wr.heap.size < W2.heap.size := by omega
         have hkx : w.heap.size + 1 ≠ wr.heap.size := by omega
         have hkx' : wr.heap.size ≠ w.heap.size + 1 := by omega
         have cx0 : W2.cell? ⟨wr.heap.size, 0, none⟩ = some (.int .i64 (p : Int)) := wx2.cell 0
         have cx1 : W2.cell? ⟨wr.heap.size, 1, none⟩ = some (.slice A ops.length c) := wx2.cell 1
         have HOUT2 : Hid (Out W2 { k00 with tasks := (t.tasks.take j).map newT, lst := Kn.rowsOf (t.tasks.take j) 0 (List.replicate 72 []), sems := t.sems, owner := List.replicate t.mutexes.toNat (-1), size := t.queues } L wr.heap.size) := ⟨hxl, fun cc hcc e => by have := HKJ.out.lt hcc; omega⟩
         have HROW : Hid (∀ Wz, Below W2.heap.size W2 Wz → Wz.ownsRow (w.heap.size + 1) 69 1 VV j ((List.range j).map fun i => L.ptr (.t i) 0)) := fun Wz hz => by
          have q := row_below hrow hz (zl _)
          rw [hVV]
          have e : ({ k00 with tasks := (t.tasks.take j).map newT, lst := Kn.rowsOf (t.tasks.take j) 0 (List.replicate 72 []), sems := t.sems, owner := List.replicate t.mutexes.toNat (-1), size := t.queues } : Kn.K).tasks.length = j := hlen
          rw [e] at q
          rw [hlen]
          exact q
         have HP : Hid (∀ (Wz w5 : World) (g cap gt gm c' : Nat) (A' : Option Addr) (_ : Below W2.heap.size W2 Wz) (_ : W2.heap.size ≤ gt) (_ : W2.heap.size ≤ gm) (_ : Whole Wz gt 74 #[.slice A' ops.length c', .int .i64 (p : Int), .int .i64 (p : Int), .int .i64 0, .int .i64 0, .int .i64 0, .map (some gm), .nilIface, .int .i64 0, .int .i64 0]) (_ : Wz.heap[gm]? = some (.map #[] 0)) (_ : OpsIn Wz W2.heap.size A' ops)
          (_ : w5.ownsRow (w.heap.size + 1) 69 1 (.slice (some ⟨g, 0, none⟩) (j + 1) cap) (j + 1) (((List.range j).map fun i => L.ptr (.t i) 0) ++ [.pointer (some ⟨gt, 0, none⟩)])) (_ : Wz.grownBy w5 VV.ownBlock) (_ : VV.ownBlock = some g ∨ Wz.heap.size ≤ g),
          ∃ L', KM (w5.setCell ⟨L.b .ker, 0, none⟩ (.slice (some ⟨g, 0, none⟩) (j + 1) cap)) (w.heap.size + 1) { k00 with tasks := (t.tasks.take j).map newT ++ [newT ⟨(p : Int), ops⟩], lst := Kn.rowsOf (t.tasks.take j) 0 (List.replicate 72 []), sems := t.sems, owner := List.replicate t.mutexes.toNat (-1), size := t.queues } L' ∧ L'.b .ker = L.b .ker ∧ Near W2.heap.size { k00 with tasks := (t.tasks.take j).map newT, lst := Kn.rowsOf (t.tasks.take j) 0 (List.replicate 72 []), sems := t.sems, owner := List.replicate t.mutexes.toNat (-1), size := t.queues } L { k00 with tasks := (t.tasks.take j).map newT ++ [newT ⟨(p : Int), ops⟩], lst := Kn.rowsOf (t.tasks.take j) 0 (List.replicate 72 []), sems := t.sems, owner := List.replicate t.mutexes.toNat (-1), size := t.queues } L') := by
          intro Wz w5 g cap gt gm c' A' a1 a2 a3 a4 a5 a6 a7 a8 a9
          have q := K2.out.addTask (W1 := Wz) (w5 := w5) (x := ⟨(p : Int), ops⟩) (g := g) (cap := cap) (gt := gt) (gm := gm) (cO := c') (A := A') (by first | omega | (simp; done) | (simp; omega)) a1 a2 a3 a4 a5 a6
          have e : ({ k00 with tasks := (t.tasks.take j).map newT, lst := Kn.rowsOf (t.tasks.take j) 0 (List.replicate 72 []), sems := t.sems, owner := List.replicate t.mutexes.toNat (-1), size := t.queues } : Kn.K).tasks.length = j := hlen
          rw [e] at q
          rw [hVV, hlen] at a8 a9
          exact q a7 a8 a9
         have HCL : Hid (∀ Wz, Below W2.heap.size W2 Wz → Calls Try.prog 39 #[.slice A ops.length c] Wz fun e w' => ∃ A' c', e = .returned (.slice A' ops.length c') ∧ Below Wz.heap.size Wz w' ∧ OpsIn w' Wz.heap.size A' ops) := fun Wz hz =>
          clone_any (c := c) (hro'.below (B' := w.heap.size) ((((B1.out.trans (HBW2.out.mono (Nat.le_succ _))).trans (hz.mono (by first | omega | (simp; done) | (simp; omega)))))) (zl _)) (by have := hz.size; omega) (by first | omega | (simp; done) | (simp; omega))
         have KER2 := zh hker
         have WX2 := zh wx2
         have HW2 := zh hW2
         clear hb2 wx2 hz2 hker hhd hVV hrow hW2 q0 q1 q0' q1' hlen hro hro' hol
         have hmm := @run_makeMap Try.prog
         go_upto_region 19 with fail
         rw [← HW2.out]
         clear q0b q1b
         go_cut [94] (fun _v wx => ∃ L', KM wx (w.heap.size + 1) { k00 with tasks := (t.tasks.take j).map newT ++ [newT ⟨(p : Int), ops⟩], lst := Kn.rowsOf (t.tasks.take j) 0 (List.replicate 72 []), sems := t.sems, owner := List.replicate t.mutexes.toNat (-1), size := t.queues } L' ∧ L'.b .ker = w.heap.size + 1 ∧ Below (w.heap.size + 1) W1 wx ∧ Whole wx wr.heap.size 29 #[.int .i64 (p : Int), .slice A ops.length c] ∧ Out wx { k00 with tasks := (t.tasks.take j).map newT ++ [newT ⟨(p : Int), ops⟩], lst := Kn.rowsOf (t.tasks.take j) 0 (List.replicate 72 []), sems := t.sems, owner := List.replicate t.mutexes.toNat (-1), size := t.queues } L' wr.heap.size)
         case first =>
          refine wp_region_need (S := fun w' => w'.cell? ⟨w.heap.size + 1, 0, none⟩ = some VV ∧ w'.cell? ⟨wr.heap.size, 0, none⟩ = some (.int .i64 (p : Int)) ∧ w'.cell? ⟨wr.heap.size, 1, none⟩ = some (.slice A ops.length c)) (need := fun i => i != 19) 20 (bs 20 0) (by kernel_rfl) (by kernel_rfl) (by kernel_rfl) ?_ (fun hHeld => ?_)
          ·exact ⟨c0, cx0, cx1⟩
          refine tk 0 (bs 20 1) (v := ?_) ?_ ?_; rotate_left 2
          refine tk 1 (bs 20 3) (v := ?_) ?_ ?_; rotate_left 2
          refine tk 2 (bs 20 7) (v := ?_) ?_ ?_; rotate_left 2
          refine tk 3 (bs 20 15) (v := ?_) ?_ ?_; rotate_left 2
          refine tk 4 (bs 20 31) (v := ?_) ?_ ?_; rotate_left 2
          refine tk 5 (bs 20 63) (v := ?_) ?_ ?_; rotate_left 2
          refine tk 8 (bs 20 319) (v := ?_) ?_ ?_; rotate_left 2
          refine tk 10 (bs 20 1343) (v := ?_) ?_ ?_; rotate_left 2
          refine tk 6 (bs 20 1407) (v := ?_) ?_ ?_; rotate_left 2
          refine tk 9 (bs 20 1919) (v := ?_) ?_ ?_; rotate_left 2
          refine tk 11 (bs 20 3967) (v := ?_) ?_ ?_; rotate_left 2
          rotate_left
          iterate 11 (rotate_left; focus (intro w hSw; (try dsimp only at hSw); obtain ⟨hS0, hS1, hS2⟩ := hSw; go_simp; with_reducible rfl))
          try simp only [Act.put, p1, p2, p3, p4, p5, p6]
          refine wpAnyN_fork 7 12 (bs 20 4095) (bs 20 8063) (bs 20 8191) (fun a a2 w2 => ∃ A' c' gm, a2 = (a.put (some 83) (.slice A' ops.length c')).put (some 88) (.map (some gm)) ∧ Below W2.heap.size W2 w2 ∧ W2.heap.size ≤ gm ∧ w2.heap[gm]? = some (.map #[] 0) ∧ OpsIn w2 W2.heap.size A' ops) ?_ ?_ ?_
          ·intro K hK
           go_simp
           refine (HCL.out (W2.drew) ((zr W2.heap.size W2).drew)).mono ?_
           rintro e wc ⟨A', c', rfl, bc, oc⟩
           have hbc : Below W2.heap.size W2 wc := ((zr W2.heap.size W2).drew).trans (bc.mono (by first | omega | (simp; done) | (simp; omega)))
           refine hK.out _ _ ?_ (fun hHeld => ?_)
           ·exact fun _ => ⟨(hbc.cell (p := ⟨w.heap.size + 1, 0, none⟩) hkl).trans c0, (hbc.cell (p := ⟨wr.heap.size, 0, none⟩) hxl).trans cx0, (hbc.cell (p := ⟨wr.heap.size, 1, none⟩) hxl).trans cx1⟩
           clear hK K
           try simp only [Act.put, p1, p2, p3, p4, p5, p6]
           intro K hK
           go_simp
           have hbd := hbc.alloc hbc.size (.map #[] 0)
           refine hK.out _ _ ?_ (fun hHeld => ?_)
           ·exact fun _ => ⟨(hbd.cell (p := ⟨w.heap.size + 1, 0, none⟩) hkl).trans c0, (hbd.cell (p := ⟨wr.heap.size, 0, none⟩) hxl).trans cx0, (hbd.cell (p := ⟨wr.heap.size, 1, none⟩) hxl).trans cx1⟩
           exact ⟨A', c', wc.heap.size, rfl, hbd, hbc.size, heap_alloc_new wc _, oc.keep fun b hb => zo _ _ _ hb⟩
          ·intro K hK
           go_simp
           have hba := ((zr W2.heap.size W2).alloc (zl _) (.map #[] 0)).drew
           refine hK.out _ _ ?_ (fun hHeld => ?_)
           ·exact fun _ => ⟨(hba.cell (p := ⟨w.heap.size + 1, 0, none⟩) hkl).trans c0, (hba.cell (p := ⟨wr.heap.size, 0, none⟩) hxl).trans cx0, (hba.cell (p := ⟨wr.heap.size, 1, none⟩) hxl).trans cx1⟩
           clear hK K
           try simp only [Act.put, p1, p2, p3, p4, p5, p6]
           intro K hK
           go_simp
           refine (HCL.out _ hba).mono ?_
           rintro e wc ⟨A', c', rfl, bc, oc⟩
           have hbc : Below W2.heap.size W2 wc := hba.trans (bc.mono (by first | omega | (simp; done) | (simp; omega)))
           refine hK.out _ _ ?_ (fun hHeld => ?_)
           ·exact fun _ => ⟨(hbc.cell (p := ⟨w.heap.size + 1, 0, none⟩) hkl).trans c0, (hbc.cell (p := ⟨wr.heap.size, 0, none⟩) hxl).trans cx0, (hbc.cell (p := ⟨wr.heap.size, 1, none⟩) hxl).trans cx1⟩
           exact ⟨A', c', W2.heap.size, rfl, hbc, zl _, (bc.block _ (by first | omega | (simp; done) | (simp; omega))).trans (heap_alloc_new W2 _), OpsIn.from oc (by first | omega | (simp; done) | (simp; omega))⟩
          intro a2 wc hHeld hT
          obtain ⟨A', c', gm, rfl, bz, hgm, hmap, oc⟩ := hT
          have BZ := zh bz
          have HMAP := zh hmap
          have OC := zh oc
          have hzc := bz.size
          have hgml := (Array.getElem?_eq_some_iff.1 hmap).1
          clear bz hmap oc
          try simp only [Act.put, p4, p5, p6]
          refine tk 13 (bs 20 16383) (v := ?_) ?_ ?_; rotate_left 2
          rotate_left
          iterate 1 (rotate_left; focus (intro w hSw; (try dsimp only at hSw); obtain ⟨hS0, hS1, hS2⟩ := hSw; go_simp; with_reducible rfl))
          try simp only [Act.put, p1, p2, p3, p4, p5, p6]
          refine wpAnyN_step (i := 14) (listed' := (bs 20 32767)) (by kernel_rfl) rfl (by kernel_rfl) (fun K hK => ?_)
          go_simp
          have hb1 := zh (BZ.out.alloc BZ.out.size (.cells #[.slice A' ops.length c', .int .i64 (p : Int), .int .i64 (p : Int), .int .i64 0, .int .i64 0, .int .i64 0, .map (some gm), .nilIface, .int .i64 0, .int .i64 0] 74))
          refine hK.out _ _ ?_ (fun hHeld => ?_)
          ·exact fun _ => ⟨(hb1.out.cell (p := ⟨w.heap.size + 1, 0, none⟩) hkl).trans c0, (hb1.out.cell (p := ⟨wr.heap.size, 0, none⟩) hxl).trans cx0, (hb1.out.cell (p := ⟨wr.heap.size, 1, none⟩) hxl).trans cx1⟩
          clear hK K
          replace hHeld := hHeld rfl
          try simp only [Act.put, p1, p2, p3, p4, p5, p6]
          refine wpAnyN_step (i := 15) (listed' := (bs 20 65535)) (by kernel_rfl) rfl (by kernel_rfl) (fun K hK => ?_)
          go_simp
          have hb2 := zh (hb1.out.alloc hb1.out.size (.cells #[.pointer (some ⟨wc.heap.size, 0, none⟩)] 69))
          obtain ⟨Wz, hWz⟩ : ∃ Wz, Wz = (wc.alloc (.cells #[.slice A' ops.length c', .int .i64 (p : Int), .int .i64 (p : Int), .int .i64 0, .int .i64 0, .int .i64 0, .map (some gm), .nilIface, .int .i64 0, .int .i64 0] 74)).alloc (.cells #[.pointer (some ⟨wc.heap.size, 0, none⟩)] 69) := ⟨_, rfl⟩
          have hnew : Wz.heap[wc.heap.size + 1]? = some (.cells #[.pointer (some ⟨wc.heap.size, 0, none⟩)] 69 (0, 0)) := by (have q := heap_alloc_new (wc.alloc (.cells #[.slice A' ops.length c', .int .i64 (p : Int), .int .i64 (p : Int), .int .i64 0, .int .i64 0, .int .i64 0, .map (some gm), .nilIface, .int .i64 0, .int .i64 0] 74)) (.cells #[.pointer (some ⟨wc.heap.size, 0, none⟩)] 69); rw [← hWz] at q; simpa using q)
          have hwt : Whole Wz wc.heap.size 74 #[.slice A' ops.length c', .int .i64 (p : Int), .int .i64 (p : Int), .int .i64 0, .int .i64 0, .int .i64 0, .map (some gm), .nilIface, .int .i64 0, .int .i64 0] := by rw [hWz]; exact (zm wc 74 _).alloc _
          have hwm : Wz.heap[gm]? = some (.map #[] 0) := by rw [hWz]; exact (zo _ _ _ (by simp; omega)).trans ((zo _ _ _ hgml).trans HMAP.out)
          have hO5 : OpsIn Wz W2.heap.size A' ops := by rw [hWz]; exact OC.out.keep fun b hb => (zo _ _ _ (by simp; omega)).trans (zo _ _ _ hb)
          have hbz : Below W2.heap.size W2 Wz := by rw [hWz]; exact hb2.out
          have hzz : Wz.heap.size = wc.heap.size + 2 := by rw [hWz]; simp
          have HNEW := zh hnew
          have HWT := zh hwt
          have HWM := zh hwm
          have HO5 := zh hO5
          have HBZ := zh hbz
          have HWZ := zh hWz
          have hzz2 : wc.heap.size + 2 ≤ Wz.heap.size := by omega
          have hzz3 : Wz.heap.size ≤ wc.heap.size + 2 := by omega
          clear hnew hwt hwm hO5 hbz hb1 hb2 hWz hzz
          try simp only [World.size_alloc]
          rw [← HWZ.out]
          refine hK.out _ _ ?_ (fun hHeld => ?_)
          ·exact fun _ => ⟨(HBZ.out.cell (p := ⟨w.heap.size + 1, 0, none⟩) hkl).trans c0, (HBZ.out.cell (p := ⟨wr.heap.size, 0, none⟩) hxl).trans cx0, (HBZ.out.cell (p := ⟨wr.heap.size, 1, none⟩) hxl).trans cx1⟩
          clear hK K
          replace hHeld := hHeld rfl
          try simp only [Act.put, p1, p2, p3, p4, p5, p6]
          refine wpAnyN_step (i := 16) (listed' := (bs 20 131071)) (by kernel_rfl) rfl (by kernel_rfl) (fun K hK => ?_)
          have hown := HROW.out _ HBZ.out
          refine step_append_lies _ rfl _ _ 62 rfl (w.heap.size + 1) 69 ie _ 1 8 Try.underlying62 hie hie0 hie1 hie2 rfl (by decide) VV j _ (by rfl) hown ⟨wc.heap.size + 1, 0, none⟩ 1 1 [.pointer (some ⟨wc.heap.size, 0, none⟩)] (by rfl) rfl (World.news_of_block (cs := #[.pointer (some ⟨wc.heap.size, 0, none⟩)]) (t := 69) (fr := (0, 0)) HNEW.out) (by simp [Value.oneCell']) (by decide) (by unfold maxLen; omega) (by first | omega | (simp; done) | (simp; omega)) (by omega) _ rfl ?_
          intro g cap w5 hown5 hgr5 hat5 hlt5
          obtain ⟨L5, k5, e5, n5⟩ := HP.out Wz w5 g cap wc.heap.size gm c' A' HBZ.out hzc hgm HWT.out HWM.out HO5.out hown5 hgr5 (by rcases hat5 with q | q; exact .inl q; exact .inr (by rw [q]; exact zl _))
          have hw5 := KER2.out.same ((hgr5.block _ (by omega) (fun e => hkb e.symm)).trans (HBZ.out.block _ hkl))
          have z5 := (hw5.cell 0).trans ((KER2.out.cell 0).symm.trans c0)
          have z5f := hw5.frozen 0
          have hx5 := WX2.out.same ((hgr5.block _ (by omega) (fun e => hxb e.symm)).trans (HBZ.out.block _ hxl))
          have hb5 : Below (w.heap.size + 1) W2 w5 := (HBZ.out.mono (by first | omega | (simp; done) | (simp; omega))).grown hgr5 (by omega) (fun y hy => (hown.lt y hy).1)
          refine hK.out _ _ ?_ (fun hHeld => ?_)
          ·exact fun _ => ⟨z5, hx5.cell 0, hx5.cell 1⟩
          clear hK K
          replace hHeld := hHeld rfl
          try simp only [Act.put, p1, p2, p3, p4, p5, p6]
          refine tk 17 (bs 20 262143) (v := ?_) ?_ ?_; rotate_left 2
          refine tk 18 (bs 20 524287) (v := ?_) ?_ ?_; rotate_left 2
          rotate_left
          iterate 2 (rotate_left; focus (intro w hSw; (try dsimp only at hSw); obtain ⟨hS0, hS1, hS2⟩ := hSw; go_simp; with_reducible rfl))
          try simp only [Act.put, p1, p2, p3, p4, p5, p6]
          refine wpAnyN_step (i := 19) (listed' := (bs 20 1048575)) (by kernel_rfl) rfl (by kernel_rfl) (fun K hK => ?_)
          go_simp
          refine hK.out _ _ ?_ (fun hHeld => ?_)
          ·exact fun h => absurd h (by decide)
          clear hK K
          try simp only [Act.put, p1, p2, p3, p4, p5, p6]
          refine wpAnyN_done (by kernel_rfl) ?_ _
          clear hHeld
          rw [HLK.out] at k5 e5
          have K5 := zh k5
          have E5 := zh e5
          have B5 := zh hb5
          have X5 := zh hx5
          have N5 := zh n5
          clear k5 e5 n5 hb5 hx5 hw5 hown5 hgr5 hat5 hown
          go_wp2_with fail
          go_meet
          exact ⟨L5, K5.out, E5.out, (HBW2.out.trans B5.out).setCell (p := ⟨w.heap.size + 1, 0, none⟩) (zl _) _, X5.out.far hkx' _, HOUT2.out.near N5.out (by rw [World.size_setCell]; exact B5.out.size)⟩
         case rest =>
          obtain ⟨L2, hK2', hLk2, hB2', hX2, hOX⟩ := hcut
          have OUTH := zh hOX
          clear hOX
          have KX := zh hK2'
          have LX := zh hLk2
          have BX := zh hB2'
          have WX := zh hX2
          clear hK2' hLk2 hB2' hX2 c0 cx0 cx1 hkl hxl hkb hxb hmm
          have hzx := BX.out.size
          have hBx : w.heap.size + 1 ≤ wc.heap.size := by omega
          have hlive : (holder p).live { k00 with tasks := (t.tasks.take j).map newT ++ [newT ⟨(p : Int), ops⟩], lst := Kn.rowsOf (t.tasks.take j) 0 (List.replicate 72 []), sems := t.sems, owner := List.replicate t.mutexes.toNat (-1), size := t.queues } L2 := by rw [(holder_row hp32).1]; trivial
          have hlen5 : (({ k00 with tasks := (t.tasks.take j).map newT ++ [newT ⟨(p : Int), ops⟩], lst := Kn.rowsOf (t.tasks.take j) 0 (List.replicate 72 []), sems := t.sems, owner := List.replicate t.mutexes.toNat (-1), size := t.queues } : Kn.K).l p).length ≤ 1000000 := by
           have := rows_len (t.tasks.take j) 0 (List.replicate 72 []) p
           have h2 : ((List.replicate 72 ([] : List Int)).getD p []).length = 0 := by
            rw [zd, List.getElem?_replicate]
            split <;> rfl
           have h3 : (t.tasks.take j).length ≤ 32 := by rw [List.length_take]; omega
           show ((Kn.rowsOf (t.tasks.take j) 0 (List.replicate 72 [])).getD p []).length ≤ 1000000
           omega
          have c43 := KX.out.row hp32
          rw [LX.out] at c43
          have c44 : wc.frozen? ⟨w.heap.size + 1, 4 + p, none⟩ = false := by have := KX.out.ker.frozen (4 + p); rw [LX.out] at this; exact this
          have hltK : w.heap.size + 1 < wc.heap.size := by have := KX.out.lt (c := .ker) trivial; rw [LX.out] at this; exact this
          have hltX : wr.heap.size < wc.heap.size := WX.out.lt
          have x0 : wc.cell? ⟨wr.heap.size, 0, none⟩ = some (.int .i64 (p : Int)) := WX.out.cell 0
          have hbd : Below wc.heap.size wc ((wc.alloc (.cells #[.int .i64 j] 3)).drew) := ((zr wc.heap.size wc).alloc (zl _) _).drew
          obtain ⟨gl, hLH, hap⟩ := KX.out.push (j : Int) (show p < 72 by omega) hlive hbd hBx
          have HAP := zh hap
          have HLA := zh hLH
          have hnew : ((wc.alloc (.cells #[.int .i64 j] 3)).drew).cell? ⟨wc.heap.size, 0, none⟩ = some (.int .i64 j) := (zm wc 3 #[.int .i64 j]).cell 0
          generalize hVV : L2.hd (.l p) (({ k00 with tasks := (t.tasks.take j).map newT ++ [newT ⟨(p : Int), ops⟩], lst := Kn.rowsOf (t.tasks.take j) 0 (List.replicate 72 []), sems := t.sems, owner := List.replicate t.mutexes.toNat (-1), size := t.queues } : Kn.K).l p).length = VP at *
          have c43a : ((wc.alloc (.cells #[.int .i64 j] 3)).drew).cell? ⟨w.heap.size + 1, 4 + p, none⟩ = some VP := (zw wc _ ⟨w.heap.size + 1, 4 + p, none⟩ hltK).trans c43
          have HXN : Hid (w.heap.size + 1 ≠ wr.heap.size) := hkx
          have hltp : p < 72 := by omega
          clear hVV hap hLH
          go_upto_region 20 with fail
          refine wp_region_need (S := fun w' => w'.cell? ⟨wr.heap.size, 0, none⟩ = some (.int .i64 (p : Int)) ∧ w'.cell? ⟨w.heap.size + 1, 4 + p, none⟩ = some VP) (need := fun i => i != 16) 17 (bs 17 0) (by kernel_rfl) (by kernel_rfl) (by kernel_rfl) ?_ (fun hHeld => ?_)
          ·(try dsimp only)
           exact ⟨x0, c43⟩
          refine tk 0 (bs 17 1) (v := ?_) ?_ ?_; rotate_left 2
          refine tk 1 (bs 17 3) (v := ?_) ?_ ?_; rotate_left 2
          refine tk 2 (bs 17 7) (v := ?_) ?_ ?_; rotate_left 2
          refine tk 3 (bs 17 15) (v := ?_) ?_ ?_; rotate_left 2
          refine tk 4 (bs 17 31) (v := ?_) ?_ ?_; rotate_left 2
          refine tk 5 (bs 17 63) (v := ?_) ?_ ?_; rotate_left 2
          refine tk 6 (bs 17 127) (v := ?_) ?_ ?_; rotate_left 2
          refine tk 7 (bs 17 255) (v := ?_) ?_ ?_; rotate_left 2
          refine tk 8 (bs 17 511) (v := ?_) ?_ ?_; rotate_left 2
          refine tk 9 (bs 17 1023) (v := ?_) ?_ ?_; rotate_left 2
          refine tk 10 (bs 17 2047) (v := ?_) ?_ ?_; rotate_left 2
          refine tk 13 (bs 17 10239) (v := ?_) ?_ ?_; rotate_left 2
          refine tk 14 (bs 17 26623) (v := ?_) ?_ ?_; rotate_left 2
          rotate_left
          iterate 13 (rotate_left; focus (intro w hSw; (try dsimp only at hSw); obtain ⟨hS0, hS1⟩ := hSw; go_simp; with_reducible rfl))
          try simp only [Act.put, p1, p2, p3, p4, p5, p6]
          refine wpAnyN_step (i := 11) (listed' := (bs 17 28671)) (by kernel_rfl) rfl (by kernel_rfl) (fun K hK => ?_)
          go_simp
          refine hK.out _ _ ?_ (fun hHeld => ?_)
          ·(try dsimp only)
           exact fun _ => ⟨(zw wc _ ⟨wr.heap.size, 0, none⟩ hltX).trans x0, c43a⟩
          clear hK K
          replace hHeld := hHeld rfl
          try simp only [Act.put, p1, p2, p3, p4, p5, p6]
          refine wpAnyN_step (i := 12) (listed' := (bs 17 32767)) (by kernel_rfl) rfl (by kernel_rfl) (fun K hK => ?_)
          (refine step_append_list rfl _ _ rfl (by rfl) HLA.out hlen5 (j : Int) ⟨wc.heap.size, 0, none⟩ 1 (by rfl) (by exact hnew) ?_; intro v' w5 hpost; obtain ⟨⟨A5, c5', e5⟩, hk5, hb5, hkm5, ho5⟩ := HAP.out v' w5 hpost; subst e5; have z2 : w5.cell? ⟨w.heap.size + 1, 4 + p, none⟩ = some VP := (zq (a := ⟨w.heap.size + 1, 4 + p, none⟩) (by have := hk5 .ker (by simp) trivial; rw [LX.out] at this; exact this)).trans c43; have z3 : w5.frozen? ⟨w.heap.size + 1, 4 + p, none⟩ = false := (zx (a := ⟨w.heap.size + 1, 4 + p, none⟩) (by have := hk5 .ker (by simp) trivial; rw [LX.out] at this; exact this)).trans c44; have y0 : w5.cell? ⟨wr.heap.size, 0, none⟩ = some (.int .i64 (p : Int)) := (zq (a := ⟨wr.heap.size, 0, none⟩) (ho5 _ OUTH.out)).trans x0)
          refine hK.out _ _ ?_ (fun hHeld => ?_)
          ·(try dsimp only)
           exact fun _ => ⟨y0, z2⟩
          clear hK K
          replace hHeld := hHeld rfl
          try simp only [Act.put, p1, p2, p3, p4, p5, p6]
          refine tk 15 (bs 17 65535) (v := ?_) ?_ ?_; rotate_left 2
          rotate_left
          iterate 1 (rotate_left; focus (intro w hSw; (try dsimp only at hSw); obtain ⟨hS0, hS1⟩ := hSw; go_simp; with_reducible rfl))
          try simp only [Act.put, p1, p2, p3, p4, p5, p6]
          refine wpAnyN_step (i := 16) (listed' := (bs 17 131071)) (by kernel_rfl) rfl (by kernel_rfl) (fun K hK => ?_)
          go_simp
          refine hK.out _ _ ?_ (fun hHeld => ?_)
          ·exact fun h => absurd h (by decide)
          clear hK K
          try simp only [Act.put, p1, p2, p3, p4, p5, p6]
          refine wpAnyN_done (by kernel_rfl) ?_ _
          clear hHeld
          obtain ⟨L', k6, s6, n6⟩ := hkm5
          rw [(holder_row hp32).1, (holder_row hp32).2, LX.out] at k6
          have K6 : Hid (KM (w5.setCell ⟨w.heap.size + 1, 4 + p, none⟩ (.slice A5 ((({ k00 with tasks := (t.tasks.take j).map newT ++ [newT ⟨(p : Int), ops⟩], lst := Kn.rowsOf (t.tasks.take j) 0 (List.replicate 72 []), sems := t.sems, owner := List.replicate t.mutexes.toNat (-1), size := t.queues } : Kn.K).l p).length + 1) c5')) (w.heap.size + 1) { k00 with tasks := (t.tasks.take (j + 1)).map newT, lst := Kn.rowsOf (t.tasks.take (j + 1)) 0 (List.replicate 72 []), sems := t.sems, owner := List.replicate t.mutexes.toNat (-1), size := t.queues } L') := by
           show KM _ _ _ _
           have e : ({ k00 with tasks := (t.tasks.take (j + 1)).map newT, lst := Kn.rowsOf (t.tasks.take (j + 1)) 0 (List.replicate 72 []), sems := t.sems, owner := List.replicate t.mutexes.toNat (-1), size := t.queues } : Kn.K) = ({ k00 with tasks := (t.tasks.take j).map newT ++ [newT ⟨(p : Int), ops⟩], lst := Kn.rowsOf (t.tasks.take j) 0 (List.replicate 72 []), sems := t.sems, owner := List.replicate t.mutexes.toNat (-1), size := t.queues } : Kn.K).setL p (· ++ [(j : Int)]) := by
            rw [HTK.out, List.map_append, rows_snoc]
            show _ = _
            have hl : (t.tasks.take j).length = j := by rw [List.length_take]; omega
            rw [hl, Nat.zero_add]
            rfl
           rw [e]
           exact k6
          have E6 : Hid (L'.b .ker = w.heap.size + 1) := (s6 .ker rfl).trans LX.out
          have B5 := zh hb5
          clear k6 s6 n6 ho5 hb5 hk5
          go_wp2_with fail
          go_roundg (t.tasks.length - (j + 1))
          case measure => omega
          case rel => exact ⟨j + 1, L', by omega, by go_num, K6.out, E6.out, (BX.out.trans B5.out).setCell (p := ⟨w.heap.size + 1, 4 + p, none⟩) (zl _) _, zl _⟩
        ·have hge : ¬ (j : Int) < t.tasks.length := by omega
         have hjl : j = t.tasks.length := by omega
         have KF : Hid (KM wr (w.heap.size + 1) (Kn.begin t) L) := by
          show KM _ _ _ _
          have := HKJ.out
          rw [hjl, List.take_length] at this
          exact this
         clear HKJ hjl
         go_wp2_with fail
         go_ret
         exact ⟨rfl, B1.out.trans (HBW.out.mono (Nat.le_succ _)), L, KF.out, HLK.out⟩
end Go.Proofs.Ytncbgnpoffolcaa
