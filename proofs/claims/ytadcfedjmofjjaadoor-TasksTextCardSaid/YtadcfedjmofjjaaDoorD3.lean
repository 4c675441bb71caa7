/-
  A line's words, ahead of the tasks: the walk of the document's line, first part; the document's names.
-/
import Derived.Test.YtadcfedjmofjjaaDoorD2
import Derived.Deep.RegionHeld3
namespace Go.Proofs.YtadcfedjmofjjaaDoor
open Go.RowKit
set_option maxHeartbeats 4000000 in
theorem rname_any (k : Nat) (hk : k < 15) (w : World) : Calls Tryd.prog 30 #[.int .i64 k] w fun e w' => e = .returned (.tuple #[strV (shapes[k]'hk).name, .int .i64 (shapes[k]'hk).parts]) ∧ w = w' := by
  have hk' : k = 0 ∨ k = 1 ∨ k = 2 ∨ k = 3 ∨ k = 4 ∨ k = 5 ∨ k = 6 ∨ k = 7 ∨ k = 8 ∨ k = 9 ∨ k = 10 ∨ k = 11 ∨ k = 12 ∨ k = 13 ∨ k = 14 := by omega
  rcases hk' with rfl | rfl | rfl | rfl | rfl | rfl | rfl | rfl | rfl | rfl | rfl | rfl | rfl | rfl | rfl
  all_goals
    go_enter Tryd.func30, Tryd.ntmps30
    go_wp2
    go_ret2
    exact ⟨rfl, rfl⟩
theorem names_unique (i j : Nat) (hi : i < 15) (hj : j < 15) (h : (shapes[i]'hi).name = (shapes[j]'hj).name) : i = j := by
  have key : ∀ i : Fin 15, ∀ j : Fin 15, (shapes[i.1]'i.2).name = (shapes[j.1]'j.2).name → i = j := by decide
  have := key ⟨i, hi⟩ ⟨j, hj⟩ h
  injection this
theorem kind_parts {wd : List UInt8} {n k : Nat} (hk : k < 15) (h1 : (shapes[k]'hk).name = wd) (h2 : (shapes[k]'hk).parts ≠ n) : Tk.kindOf wd n = none := by
  refine kind_none fun j hj _ ⟨h3, h4⟩ => ?_
  obtain rfl := names_unique k j hk hj (h1.trans h3.symm)
  exact h2 h4
/-- What is below P0 stands, and what is below B but for the blocks p and q. -/
structure Fr (P0 p q B : Nat) (a w : World) : Prop where
  below : Below P0 a w
  block : ∀ k, k < B → k ≠ p → k ≠ q → w.heap[k]? = a.heap[k]?
section
variable {P0 p q B : Nat} {a w w' : World}
theorem Fr.refl (P0 p q B : Nat) (a : World) : Fr P0 p q B a a := ⟨Below.refl _ _, fun _ _ _ _ => rfl⟩
theorem Fr.of {N : Nat} (h : Below N a w) (h1 : P0 ≤ N) (h2 : B ≤ N) : Fr P0 p q B a w := ⟨h.mono h1, fun k hk _ _ => h.block k (by omega)⟩
theorem Fr.drew (h : Fr P0 p q B a w) : Fr P0 p q B a w.drew := ⟨h.below.drew, h.block⟩
theorem Fr.drewN' (h : Fr P0 p q B a w) (n : Nat) : Fr P0 p q B a (w.drewN n) := ⟨h.below.drewN' n, h.block⟩
theorem Fr.alloc (h : Fr P0 p q B a w) (h1 : P0 ≤ w.heap.size) (h2 : B ≤ w.heap.size) (o : Obj) : Fr P0 p q B a (w.alloc o) :=
  ⟨h.below.alloc h1 o, fun k hk a1 a2 => (Below.heap_alloc _ _ _ (by omega)).trans (h.block k hk a1 a2)⟩
theorem Fr.setp {i : Nat} (h : Fr P0 p q B a w) (h1 : P0 ≤ p) (u : Value) : Fr P0 p q B a (w.setCell ⟨p, i, none⟩ u) :=
  ⟨h.below.setCell h1 u, fun k hk a1 a2 => (Below.heap_setCell _ _ _ _ a1).trans (h.block k hk a1 a2)⟩
theorem Fr.setq {i : Nat} (h : Fr P0 p q B a w) (h1 : P0 ≤ q) (u : Value) : Fr P0 p q B a (w.setCell ⟨q, i, none⟩ u) :=
  ⟨h.below.setCell h1 u, fun k hk a1 a2 => (Below.heap_setCell _ _ _ _ a2).trans (h.block k hk a1 a2)⟩
theorem Fr.setB {g i : Nat} (h : Fr P0 p q B a w) (h1 : P0 ≤ g) (h2 : B ≤ g) (u : Value) : Fr P0 p q B a (w.setCell ⟨g, i, none⟩ u) :=
  ⟨h.below.setCell h1 u, fun k hk a1 a2 => (Below.heap_setCell _ _ _ _ (by show k ≠ g; omega)).trans (h.block k hk a1 a2)⟩
theorem Fr.grown {row : Option Nat} (h : Fr P0 p q B a w) (hg : w.grownBy w' row) (h1 : P0 ≤ w.heap.size) (h2 : B ≤ w.heap.size) (hr : ∀ k, row = some k → P0 ≤ k ∧ B ≤ k) : Fr P0 p q B a w' :=
  ⟨h.below.grown hg h1 (fun k hk => (hr k hk).1), fun k hk a1 a2 => (hg.block k (by omega) (fun e => by have := (hr k e.symm).2; omega)).trans (h.block k hk a1 a2)⟩
theorem Fr.trans {b : World} (h : Fr P0 p q B a b) (k : Fr P0 p q B b w) : Fr P0 p q B a w :=
  ⟨h.below.trans k.below, fun j hj a1 a2 => (k.block j hj a1 a2).trans (h.block j hj a1 a2)⟩
end
/-- The memory of the document's reading: the table's block p, the head's block q, all else from B on. -/
def DMem (w : World) (p q B : Nat) (t : Tk.Table) (st : Nat) : Prop := p < B ∧ q < B ∧ ∃ V1 V2 V3, Whole w p 26 #[V1, V2, .int .i64 t.mutexes, V3] ∧ Whole w q 3 #[.int .i64 st] ∧ Tab w B V1 V2 V3 t
/-- What a line with words does. -/
def lineT (t : Tk.Table) (st : Nat) (inner : Bool) (wd : List UInt8) (ws : List (List UInt8)) : Option (Tk.Table × Nat) := match Tk.nums ws with
  | none => none
  | some ns => doT t st inner wd ns
def DPost (w : World) (P0 p q B : Nat) (t : Tk.Table) (st : Nat) (inner : Bool) (wd : List UInt8) (ws : List (List UInt8)) (e : Ending) (w' : World) : Prop :=
  Fr P0 p q B w w' ∧ match lineT t st inner wd ws with
  | some (t', st') => e = .returned (.bool true) ∧ DMem w' p q B t' st'
  | none => e = .returned (.bool false)
theorem DMem.below {w w' : World} {p q B st : Nat} {t : Tk.Table} (h : DMem w p q B t st) (hb : Below w.heap.size w w') : DMem w' p q B t st := by
  obtain ⟨h1, h2, V1, V2, V3, h3, h4, h5⟩ := h
  exact ⟨h1, h2, V1, V2, V3, h3.same (hb.block p h3.lt), h4.same (hb.block q h4.lt), h5.below hb (Nat.le_refl _)⟩
section
variable {w : World} {P0 p q B : Nat} {t : Tk.Table} {st : Nat} {wd : List UInt8} {ws : List (List UInt8)} {A : Option Addr} {n c : Nat}
set_option maxRecDepth 100000 in
set_option maxHeartbeats 8000000 in
theorem dline_in (h : DMem w p q B t st) (hst : st < 3) (_hB : B ≤ w.heap.size) (_hP : P0 ≤ w.heap.size) :
    Calls Tryd.prog 25 #[.pointer (some ⟨p, 0, none⟩), .slice A n c, .bool true, .pointer (some ⟨q, 0, none⟩)] w (DPost w P0 p q B t st true wd ws) := by
  obtain ⟨hpB, hqB, V1, V2, V3, hw, hq, ht⟩ := h
  have k0 := hq.cell 0
  have hqz := hq.lt
  simp at k0
  have hst' : (st : Int) < 3 := by omega
  have E : Hid (lineT t st true wd ws = none) := by
    show _ = _
    unfold lineT doT
    rcases Tk.nums ws with _ | ns
    · rfl
    · dsimp only
      rw [if_pos hst, if_pos rfl]
  clear hst
  go_enter Tryd.func25, Tryd.ntmps25
  go_wp2
  go_quiet (fail)
  go_wp2_with fail
  go_ret
  unfold DPost
  rw [E.out]
  exact ⟨(Fr.refl _ _ _ _ _).drewN' _, rfl⟩
set_option maxRecDepth 100000 in
set_option maxHeartbeats 8000000 in
theorem dline0 (h : DMem w p q B t 0) (hB : B ≤ w.heap.size) (hP : P0 ≤ p ∧ P0 ≤ q) (hr : Reads w w.heap.size 1 A n ((wd :: ws).map strV)) (hnc : n ≤ c) (hl : ws.length ≤ 1000000) :
    Calls Tryd.prog 25 #[.pointer (some ⟨p, 0, none⟩), .slice A n c, .bool false, .pointer (some ⟨q, 0, none⟩)] w (DPost w P0 p q B t 0 false wd ws) := by
  obtain ⟨hpB, hqB, V1, V2, V3, hw, hq, ht⟩ := h
  have k0 := hq.cell 0
  have hqz := hq.lt
  have hpz := hw.lt
  have hpq : p ≠ q := Whole.kind hw hq (by decide)
  simp at k0
  have hr0 := hr
  obtain ⟨ad, rfl, had, hc⟩ := hr.head
  have hn0 : n = ws.length + 1 := by have := hr.1; simp at this; omega
  subst hn0
  have hn1 : (0 : Int) < ((ws.length + 1 : Nat) : Int) := by omega
  have hn2 : 0 < ws.length + 1 := by omega
  obtain ⟨S, hS⟩ : ∃ S : ByteArray, S = ⟨wd.toArray⟩ := ⟨_, rfl⟩
  have hc' : w.cell? ad = some (.string S) := by rw [hc, hS]; rfl
  have hSl : S.toList = wd := by rw [ByteArray.toList_eq, hS]
  have HR := Lib.hid hr
  have HW := Lib.hid hw
  have HQ := Lib.hid hq
  have HT := Lib.hid ht
  have nad := World.new_ne w ad hc'
  have nq := World.new_ne w ⟨q, 0, none⟩ k0
  clear hr hr0 hc hS hw hq ht
  have hsl := run_tail49 ad (ws.length + 1) c (by omega)
  by_cases hx : wd = [115, 101, 109, 115]
  · have e1 : (S.toList != [115, 101, 109, 115]) = false := by rw [hSl, hx]; rfl
    have e2 : S.toList = [115, 101, 109, 115] := by rw [hSl, hx]
    have e3 : (S.toList == [115, 101, 109, 115]) = true := by rw [hSl, hx]; rfl
    have HX : Hid (wd = [115, 101, 109, 115]) := hx
    clear hx hSl
    go_enter Tryd.func25, Tryd.ntmps25
    go_wp2
    go_region
    obtain ⟨w1, hw1⟩ : ∃ w1, w1 = (w.alloc (.cells #[.string ⟨#[115, 101, 109, 115]⟩, .string ⟨#[109, 117, 116, 101, 120, 101, 115]⟩, .string ⟨#[113, 117, 101, 117, 101, 115]⟩] 9)).drew := ⟨_, rfl⟩
    have b1 : Below w.heap.size w w1 := by rw [hw1]; exact ((Below.refl _ _).alloc (Nat.le_refl _) _).drew
    have HW1 := Lib.hid hw1
    have htl : Hid (Reads w1 w1.heap.size 1 (tailA ad c) ws.length (ws.map strV)) := (Reads.tail (HR.out) hnc).below b1 (Nat.le_refl _) |>.more b1.size
    generalize tailA ad c = TA at *
    clear hw1
    go_wp2_with fail
    first | rw [← HW1.out] | skip
    have k1 := (b1.cell (p := ⟨q, 0, none⟩) hqz).trans k0
    refine (all_any ws w1 TA (c - 1) htl.out hl).mono ?_
    rintro e w2 ⟨b2, hnum⟩
    have hb2 := b1.trans (b2.mono b1.size)
    have k2 := (hb2.cell (p := ⟨q, 0, none⟩) hqz).trans k0
    rcases hns : Tk.nums ws with _ | ns
    · rw [hns] at hnum
      have hnum' : e = .returned (.tuple #[.slice none 0 0, .bool false]) := hnum
      subst hnum'
      have E : Hid (lineT t 0 false wd ws = none) := by show _ = _; unfold lineT; rw [hns]
      clear hns hnum hsl
      go_wp2_with fail
      go_ret
      unfold DPost
      rw [E.out]
      exact ⟨Fr.of hb2 (by omega) hB, rfl⟩
    · rw [hns] at hnum
      have hnum' : ∃ v, e = .returned (.tuple #[v, .bool true]) ∧ w2.ownsRow w1.heap.size 3 1 v ns.length (intV ns) := hnum
      obtain ⟨lv, rfl, own2⟩ := hnum'
      obtain ⟨A3, c3, rfl, _, _⟩ := row_slice own2
      have own3 := row_mono (base' := B) own2 (by have := b1.size; omega)
      have hw2 := HW.out.same (hb2.block p hpz)
      have hq2 := HQ.out.same (hb2.block q hqz)
      have ht2 := HT.out.below hb2 (Nat.le_refl _)
      have kk := hw2.cell 1
      have zz := hw2.frozen 1
      have kq := hq2.cell 0
      have zq := hq2.frozen 0
      simp at kk kq
      have EL : Hid (lineT t 0 false wd ws = doT t 0 false wd ns) := by show _ = _; unfold lineT; rw [hns]
      clear hns hnum hsl k1 k2
      have E : Hid (lineT t 0 false wd ws = some ({ t with sems := ns }, 1)) := by
        show _ = _
        rw [EL.out, HX.out]
        rfl
      clear EL
      go_wp2_with fail
      go_ret
      unfold DPost
      rw [E.out]
      have ht' : Tab w2 B V1 (.slice A3 ns.length c3) V3 { t with sems := ns } := ⟨ht2.tasks, own3, ht2.queues⟩
      refine ⟨((Fr.of hb2 (by omega) hB).setp hP.1 _).setq hP.2 _, rfl, hpB, hqB, _, _, _, (hw2.put 1 _).far hpq _, (hq2.far (fun e => hpq e.symm) _).put 0 _, (ht'.far (p := ⟨p, 1, none⟩) hpB _).far (p := ⟨q, 0, none⟩) hqB _⟩
  · have E : Hid (lineT t 0 false wd ws = none) := by
      show _ = _
      unfold lineT
      rcases Tk.nums ws with _ | ns
      · rfl
      · dsimp only
        unfold doT aheadT
        rw [if_pos (by decide), if_neg (by decide), if_pos (by intro h; exact hx (Option.some.inj h))]
        rfl
    have e1 : (S.toList != [115, 101, 109, 115]) = true := by rw [hSl]; exact bne_iff_ne.2 hx
    have e2 : ¬ S.toList = [115, 101, 109, 115] := by rw [hSl]; exact hx
    have e3 : (S.toList == [115, 101, 109, 115]) = false := by rw [hSl]; exact beq_eq_false_iff_ne.2 hx
    clear hx hSl hsl
    go_enter Tryd.func25, Tryd.ntmps25
    go_wp2
    go_region
    go_wp2_with fail
    go_ret
    unfold DPost
    rw [E.out]
    exact ⟨((Fr.refl P0 p q B w).alloc (by omega) hB _).drew, rfl⟩
set_option maxRecDepth 100000 in
set_option maxHeartbeats 8000000 in
theorem dline1 (h : DMem w p q B t 1) (hB : B ≤ w.heap.size) (hP : P0 ≤ p ∧ P0 ≤ q) (hr : Reads w w.heap.size 1 A n ((wd :: ws).map strV)) (hnc : n ≤ c) (hl : ws.length ≤ 1000000) :
    Calls Tryd.prog 25 #[.pointer (some ⟨p, 0, none⟩), .slice A n c, .bool false, .pointer (some ⟨q, 0, none⟩)] w (DPost w P0 p q B t 1 false wd ws) := by
  obtain ⟨hpB, hqB, V1, V2, V3, hw, hq, ht⟩ := h
  have k0 := hq.cell 0
  have hqz := hq.lt
  have hpz := hw.lt
  have hpq : p ≠ q := Whole.kind hw hq (by decide)
  simp at k0
  have hr0 := hr
  obtain ⟨ad, rfl, had, hc⟩ := hr.head
  have hn0 : n = ws.length + 1 := by have := hr.1; simp at this; omega
  subst hn0
  have hn1 : (0 : Int) < ((ws.length + 1 : Nat) : Int) := by omega
  have hn2 : 0 < ws.length + 1 := by omega
  obtain ⟨S, hS⟩ : ∃ S : ByteArray, S = ⟨wd.toArray⟩ := ⟨_, rfl⟩
  have hc' : w.cell? ad = some (.string S) := by rw [hc, hS]; rfl
  have hSl : S.toList = wd := by rw [ByteArray.toList_eq, hS]
  have HR := Lib.hid hr
  have HW := Lib.hid hw
  have HQ := Lib.hid hq
  have HT := Lib.hid ht
  have nad := World.new_ne w ad hc'
  have nq := World.new_ne w ⟨q, 0, none⟩ k0
  clear hr hr0 hc hS hw hq ht
  have hsl := run_tail49 ad (ws.length + 1) c (by omega)
  by_cases hx : wd = [109, 117, 116, 101, 120, 101, 115]
  · have e1 : (S.toList != [109, 117, 116, 101, 120, 101, 115]) = false := by rw [hSl, hx]; rfl
    have e2 : S.toList = [109, 117, 116, 101, 120, 101, 115] := by rw [hSl, hx]
    have e3 : (S.toList == [109, 117, 116, 101, 120, 101, 115]) = true := by rw [hSl, hx]; rfl
    have HX : Hid (wd = [109, 117, 116, 101, 120, 101, 115]) := hx
    clear hx hSl
    go_enter Tryd.func25, Tryd.ntmps25
    go_wp2
    go_region
    obtain ⟨w1, hw1⟩ : ∃ w1, w1 = (w.alloc (.cells #[.string ⟨#[115, 101, 109, 115]⟩, .string ⟨#[109, 117, 116, 101, 120, 101, 115]⟩, .string ⟨#[113, 117, 101, 117, 101, 115]⟩] 9)).drew := ⟨_, rfl⟩
    have b1 : Below w.heap.size w w1 := by rw [hw1]; exact ((Below.refl _ _).alloc (Nat.le_refl _) _).drew
    have HW1 := Lib.hid hw1
    have htl : Hid (Reads w1 w1.heap.size 1 (tailA ad c) ws.length (ws.map strV)) := (Reads.tail (HR.out) hnc).below b1 (Nat.le_refl _) |>.more b1.size
    generalize tailA ad c = TA at *
    clear hw1
    go_wp2_with fail
    first | rw [← HW1.out] | skip
    have k1 := (b1.cell (p := ⟨q, 0, none⟩) hqz).trans k0
    refine (all_any ws w1 TA (c - 1) htl.out hl).mono ?_
    rintro e w2 ⟨b2, hnum⟩
    have hb2 := b1.trans (b2.mono b1.size)
    have k2 := (hb2.cell (p := ⟨q, 0, none⟩) hqz).trans k0
    rcases hns : Tk.nums ws with _ | ns
    · rw [hns] at hnum
      have hnum' : e = .returned (.tuple #[.slice none 0 0, .bool false]) := hnum
      subst hnum'
      have E : Hid (lineT t 1 false wd ws = none) := by show _ = _; unfold lineT; rw [hns]
      clear hns hnum hsl
      go_wp2_with fail
      go_ret
      unfold DPost
      rw [E.out]
      exact ⟨Fr.of hb2 (by omega) hB, rfl⟩
    · rw [hns] at hnum
      have hnum' : ∃ v, e = .returned (.tuple #[v, .bool true]) ∧ w2.ownsRow w1.heap.size 3 1 v ns.length (intV ns) := hnum
      obtain ⟨lv, rfl, own2⟩ := hnum'
      obtain ⟨A3, c3, rfl, _, _⟩ := row_slice own2
      have own3 := row_mono (base' := B) own2 (by have := b1.size; omega)
      have hw2 := HW.out.same (hb2.block p hpz)
      have hq2 := HQ.out.same (hb2.block q hqz)
      have ht2 := HT.out.below hb2 (Nat.le_refl _)
      have kk := hw2.cell 2
      have zz := hw2.frozen 2
      have kq := hq2.cell 0
      have zq := hq2.frozen 0
      simp at kk kq
      have EL : Hid (lineT t 1 false wd ws = doT t 1 false wd ns) := by show _ = _; unfold lineT; rw [hns]
      clear hns hnum hsl k1 k2
      by_cases h1 : ns.length = 1
      · obtain ⟨x, rfl⟩ := List.length_eq_one_iff.1 h1
        have E : Hid (lineT t 1 false wd ws = some ({ t with mutexes := x }, 2)) := by
          show _ = _
          rw [EL.out, HX.out]
          rfl
        obtain ⟨g3, cap3, eg3, hg0, hgl3⟩ := own3.form (by simp)
        injection eg3 with eg3
        subst eg3
        have kg3 := own3.cellAt 0 (by simp)
        simp [intV] at kg3
        clear EL h1
        go_wp2_with fail
        go_ret
        unfold DPost
        rw [E.out]
        have ht' : Tab w2 B V1 V2 V3 { t with mutexes := x } := ⟨ht2.tasks, ht2.sems, ht2.queues⟩
        refine ⟨((Fr.of hb2 (by omega) hB).setp hP.1 _).setq hP.2 _, rfl, hpB, hqB, _, _, _, (hw2.put 2 _).far hpq _, (hq2.far (fun e => hpq e.symm) _).put 0 _, (ht'.far (p := ⟨p, 2, none⟩) hpB _).far (p := ⟨q, 0, none⟩) hqB _⟩
      · have E : Hid (lineT t 1 false wd ws = none) := by
          show _ = _
          rw [EL.out, HX.out]
          unfold doT aheadT
          rw [if_pos (by decide), if_neg (by decide), if_neg (by decide), if_neg (by decide), if_pos rfl, if_neg h1]
          rfl
        have h1' : ((ns.length : Int) != 1) = true := by simp; omega
        have h2' : ((ns.length : Int) == 1) = false := by simp; omega
        have h3' : ¬ (ns.length : Int) = 1 := by omega
        clear EL h1
        go_wp2_with fail
        go_ret
        unfold DPost
        rw [E.out]
        exact ⟨Fr.of hb2 (by omega) hB, rfl⟩
  · have E : Hid (lineT t 1 false wd ws = none) := by
      show _ = _
      unfold lineT
      rcases Tk.nums ws with _ | ns
      · rfl
      · dsimp only
        unfold doT aheadT
        rw [if_pos (by decide), if_neg (by decide), if_pos (by intro h; exact hx (Option.some.inj h))]
        rfl
    have e1 : (S.toList != [109, 117, 116, 101, 120, 101, 115]) = true := by rw [hSl]; exact bne_iff_ne.2 hx
    have e2 : ¬ S.toList = [109, 117, 116, 101, 120, 101, 115] := by rw [hSl]; exact hx
    have e3 : (S.toList == [109, 117, 116, 101, 120, 101, 115]) = false := by rw [hSl]; exact beq_eq_false_iff_ne.2 hx
    clear hx hSl hsl
    go_enter Tryd.func25, Tryd.ntmps25
    go_wp2
    go_region
    go_wp2_with fail
    go_ret
    unfold DPost
    rw [E.out]
    exact ⟨((Fr.refl P0 p q B w).alloc (by omega) hB _).drew, rfl⟩
set_option maxRecDepth 100000 in
set_option maxHeartbeats 8000000 in
theorem dline2 (h : DMem w p q B t 2) (hB : B ≤ w.heap.size) (hP : P0 ≤ p ∧ P0 ≤ q) (hr : Reads w w.heap.size 1 A n ((wd :: ws).map strV)) (hnc : n ≤ c) (hl : ws.length ≤ 1000000) :
    Calls Tryd.prog 25 #[.pointer (some ⟨p, 0, none⟩), .slice A n c, .bool false, .pointer (some ⟨q, 0, none⟩)] w (DPost w P0 p q B t 2 false wd ws) := by
  obtain ⟨hpB, hqB, V1, V2, V3, hw, hq, ht⟩ := h
  have k0 := hq.cell 0
  have hqz := hq.lt
  have hpz := hw.lt
  have hpq : p ≠ q := Whole.kind hw hq (by decide)
  simp at k0
  have hr0 := hr
  obtain ⟨ad, rfl, had, hc⟩ := hr.head
  have hn0 : n = ws.length + 1 := by have := hr.1; simp at this; omega
  subst hn0
  have hn1 : (0 : Int) < ((ws.length + 1 : Nat) : Int) := by omega
  have hn2 : 0 < ws.length + 1 := by omega
  obtain ⟨S, hS⟩ : ∃ S : ByteArray, S = ⟨wd.toArray⟩ := ⟨_, rfl⟩
  have hc' : w.cell? ad = some (.string S) := by rw [hc, hS]; rfl
  have hSl : S.toList = wd := by rw [ByteArray.toList_eq, hS]
  have HR := Lib.hid hr
  have HW := Lib.hid hw
  have HQ := Lib.hid hq
  have HT := Lib.hid ht
  have nad := World.new_ne w ad hc'
  have nq := World.new_ne w ⟨q, 0, none⟩ k0
  clear hr hr0 hc hS hw hq ht
  have hsl := run_tail49 ad (ws.length + 1) c (by omega)
  by_cases hx : wd = [113, 117, 101, 117, 101, 115]
  · have e1 : (S.toList != [113, 117, 101, 117, 101, 115]) = false := by rw [hSl, hx]; rfl
    have e2 : S.toList = [113, 117, 101, 117, 101, 115] := by rw [hSl, hx]
    have e3 : (S.toList == [113, 117, 101, 117, 101, 115]) = true := by rw [hSl, hx]; rfl
    have HX : Hid (wd = [113, 117, 101, 117, 101, 115]) := hx
    clear hx hSl
    go_enter Tryd.func25, Tryd.ntmps25
    go_wp2
    go_region
    obtain ⟨w1, hw1⟩ : ∃ w1, w1 = (w.alloc (.cells #[.string ⟨#[115, 101, 109, 115]⟩, .string ⟨#[109, 117, 116, 101, 120, 101, 115]⟩, .string ⟨#[113, 117, 101, 117, 101, 115]⟩] 9)).drew := ⟨_, rfl⟩
    have b1 : Below w.heap.size w w1 := by rw [hw1]; exact ((Below.refl _ _).alloc (Nat.le_refl _) _).drew
    have HW1 := Lib.hid hw1
    have htl : Hid (Reads w1 w1.heap.size 1 (tailA ad c) ws.length (ws.map strV)) := (Reads.tail (HR.out) hnc).below b1 (Nat.le_refl _) |>.more b1.size
    generalize tailA ad c = TA at *
    clear hw1
    go_wp2_with fail
    first | rw [← HW1.out] | skip
    have k1 := (b1.cell (p := ⟨q, 0, none⟩) hqz).trans k0
    refine (all_any ws w1 TA (c - 1) htl.out hl).mono ?_
    rintro e w2 ⟨b2, hnum⟩
    have hb2 := b1.trans (b2.mono b1.size)
    have k2 := (hb2.cell (p := ⟨q, 0, none⟩) hqz).trans k0
    rcases hns : Tk.nums ws with _ | ns
    · rw [hns] at hnum
      have hnum' : e = .returned (.tuple #[.slice none 0 0, .bool false]) := hnum
      subst hnum'
      have E : Hid (lineT t 2 false wd ws = none) := by show _ = _; unfold lineT; rw [hns]
      clear hns hnum hsl
      go_wp2_with fail
      go_ret
      unfold DPost
      rw [E.out]
      exact ⟨Fr.of hb2 (by omega) hB, rfl⟩
    · rw [hns] at hnum
      have hnum' : ∃ v, e = .returned (.tuple #[v, .bool true]) ∧ w2.ownsRow w1.heap.size 3 1 v ns.length (intV ns) := hnum
      obtain ⟨lv, rfl, own2⟩ := hnum'
      obtain ⟨A3, c3, rfl, _, _⟩ := row_slice own2
      have own3 := row_mono (base' := B) own2 (by have := b1.size; omega)
      have hw2 := HW.out.same (hb2.block p hpz)
      have hq2 := HQ.out.same (hb2.block q hqz)
      have ht2 := HT.out.below hb2 (Nat.le_refl _)
      have kk := hw2.cell 3
      have zz := hw2.frozen 3
      have kq := hq2.cell 0
      have zq := hq2.frozen 0
      simp at kk kq
      have EL : Hid (lineT t 2 false wd ws = doT t 2 false wd ns) := by show _ = _; unfold lineT; rw [hns]
      clear hns hnum hsl k1 k2
      have E : Hid (lineT t 2 false wd ws = some ({ t with queues := ns }, 3)) := by
        show _ = _
        rw [EL.out, HX.out]
        rfl
      clear EL
      go_wp2_with fail
      go_ret
      unfold DPost
      rw [E.out]
      have ht' : Tab w2 B V1 V2 (.slice A3 ns.length c3) { t with queues := ns } := ⟨ht2.tasks, ht2.sems, own3⟩
      refine ⟨((Fr.of hb2 (by omega) hB).setp hP.1 _).setq hP.2 _, rfl, hpB, hqB, _, _, _, (hw2.put 3 _).far hpq _, (hq2.far (fun e => hpq e.symm) _).put 0 _, (ht'.far (p := ⟨p, 3, none⟩) hpB _).far (p := ⟨q, 0, none⟩) hqB _⟩
  · have E : Hid (lineT t 2 false wd ws = none) := by
      show _ = _
      unfold lineT
      rcases Tk.nums ws with _ | ns
      · rfl
      · dsimp only
        unfold doT aheadT
        rw [if_pos (by decide), if_neg (by decide), if_pos (by intro h; exact hx (Option.some.inj h))]
        rfl
    have e1 : (S.toList != [113, 117, 101, 117, 101, 115]) = true := by rw [hSl]; exact bne_iff_ne.2 hx
    have e2 : ¬ S.toList = [113, 117, 101, 117, 101, 115] := by rw [hSl]; exact hx
    have e3 : (S.toList == [113, 117, 101, 117, 101, 115]) = false := by rw [hSl]; exact beq_eq_false_iff_ne.2 hx
    clear hx hSl hsl
    go_enter Tryd.func25, Tryd.ntmps25
    go_wp2
    go_region
    go_wp2_with fail
    go_ret
    unfold DPost
    rw [E.out]
    exact ⟨((Fr.refl P0 p q B w).alloc (by omega) hB _).drew, rfl⟩
end
end Go.Proofs.YtadcfedjmofjjaaDoor
