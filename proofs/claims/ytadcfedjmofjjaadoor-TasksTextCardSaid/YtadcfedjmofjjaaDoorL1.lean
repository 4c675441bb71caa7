/-
  A line ahead of the tasks: the walk of the given reader's ahead.
-/
import Derived.Test.YtadcfedjmofjjaaDoorMem
import Derived.Deep.QuietTactic
import Derived.BigQuiet
namespace Go.Proofs.YtadcfedjmofjjaaDoor
open Go.RowKit
/-- The reader's memory. -/
def RMem (w : World) (p : Nat) (t : Tk.Table) (st : Nat) : Prop := ∃ V1 V2 V3, Whole w p 53 #[V1, V2, .int .i64 t.mutexes, V3, .int .i64 st] ∧ Tab w (p + 1) V1 V2 V3 t
def aheadT (t : Tk.Table) (st : Nat) (wd : List UInt8) (ns : List Int) : Option Tk.Table :=
  if some wd ≠ Tk.heads[st]? then none else if st = 0 then some { t with sems := ns } else if st = 1 then (if ns.length = 1 then some { t with mutexes := ns.headD 0 } else none) else some { t with queues := ns }
def AheadPost (w : World) (p : Nat) (t : Tk.Table) (st : Nat) (wd : List UInt8) (ns : List Int) (e : Ending) (w' : World) : Prop :=
  Below p w w' ∧ match aheadT t st wd ns with
  | some t' => e = .returned (.bool true) ∧ RMem w' p t' (st + 1)
  | none => e = .returned (.bool false)
theorem Reads.head {w : World} {B n : Nat} {A : Option Addr} {x : List UInt8} {xs : List (List UInt8)} (h : Reads w B 1 A n ((x :: xs).map strV)) : ∃ ad, A = some ad ∧ ad.block < B ∧ w.cell? ad = some (strV x) := by
  obtain ⟨ad, u, e, hb, hu, hc⟩ := h.at_ (k := 0) (by have := h.1; simp at this; omega)
  simp at hu
  refine ⟨ad, e, hb, ?_⟩
  have : ad.add 0 = ad := by simp [Addr.add]
  rw [this] at hc
  rw [hc, hu]
theorem RMem.lt {w : World} {p st : Nat} {t : Tk.Table} (h : RMem w p t st) : p < w.heap.size := by
  obtain ⟨_, _, _, h1, _⟩ := h
  exact h1.lt
theorem RMem.below {w w' : World} {p st : Nat} {t : Tk.Table} (h : RMem w p t st) (hb : Below w.heap.size w w') : RMem w' p t st := by
  obtain ⟨V1, V2, V3, h1, h2⟩ := h
  exact ⟨V1, V2, V3, h1.same (hb.block p h1.lt), h2.below hb (Nat.le_refl _)⟩
section
variable {w : World} {p : Nat} {t : Tk.Table} {wd : List UInt8} {ws : List (List UInt8)} {ns : List Int} {A : Option Addr} {n c : Nat} {lv : Value}
set_option maxRecDepth 100000 in
set_option maxHeartbeats 4000000 in
theorem ahead0_any (h : RMem w p t 0) (hr : Reads w w.heap.size 1 A n ((wd :: ws).map strV)) (own : w.ownsRow (p + 1) 3 1 lv ns.length (intV ns)) :
    Calls Tryd.prog 40 #[.pointer (some ⟨p, 0, none⟩), .slice A n c, lv] w (AheadPost w p t 0 wd ns) := by
  obtain ⟨V1, V2, V3, hw, ht⟩ := h
  obtain ⟨ad, rfl, had, hc⟩ := hr.head
  have hn : (0 : Int) < n := by have := hr.1; simp at this; omega
  have k4 := hw.cell 4
  have k1 := hw.cell 1
  have fz := hw.frozen 1
  have fz4 := hw.frozen 4
  have hp := hw.lt
  simp at k4 k1
  obtain ⟨S, hS⟩ : ∃ S : ByteArray, S = ⟨wd.toArray⟩ := ⟨_, rfl⟩
  have hc' : w.cell? ad = some (.string S) := by rw [hc, hS]; rfl
  have hSl : S.toList = wd := by rw [ByteArray.toList_eq, hS]
  have hz1 : ad.block < w.heap.size + 1 := by omega
  clear hc hS
  by_cases hx : wd = [115, 101, 109, 115]
  · have E : Hid (aheadT t 0 wd ns = some { t with sems := ns }) := by show _ = _; rw [hx]; rfl
    have e1 : (S.toList != [115, 101, 109, 115]) = false := by rw [hSl, hx]; rfl
    have e2 : S.toList = [115, 101, 109, 115] := by rw [hSl, hx]
    have e3 : (S.toList == [115, 101, 109, 115]) = true := by rw [hSl, hx]; rfl
    have ht' : Tab w (p + 1) V1 lv V3 { t with sems := ns } := ⟨ht.tasks, own, ht.queues⟩
    clear hx hSl
    obtain ⟨a2, c2, rfl, _, _⟩ := row_slice own
    go_enter Tryd.func40, Tryd.ntmps40
    go_wp2
    go_quiet (fail)
    go_wp2_with fail
    refine bodyPost_ret (v := .bool true) (by simp [results, Tryd.results40, go_sem]) rfl ?_
    unfold AheadPost
    rw [E.out]
    refine ⟨?_, rfl, _, _, _, (((hw.alloc _).drewN _).put 1 _).put 4 _, ?_⟩
    · exact ((((Below.refl p w).alloc (by omega) _).drewN' _).setCell (Nat.le_refl _) _).setCell (Nat.le_refl _) _
    · refine ht'.same fun k hk hlt => ?_
      rw [Below.heap_setCell _ _ _ _ (by show k ≠ p; omega), Below.heap_setCell _ _ _ _ (by show k ≠ p; omega)]
      exact Below.heap_alloc _ _ _ hlt
  · have E : Hid (aheadT t 0 wd ns = none) := by
      show _ = _
      unfold aheadT
      rw [if_pos (by intro h; exact hx (Option.some.inj h))]
    have e1 : (S.toList != [115, 101, 109, 115]) = true := by rw [hSl]; exact bne_iff_ne.2 hx
    have e2 : ¬ S.toList = [115, 101, 109, 115] := by rw [hSl]; exact hx
    have e3 : (S.toList == [115, 101, 109, 115]) = false := by rw [hSl]; exact beq_eq_false_iff_ne.2 hx
    clear hx hSl
    go_enter Tryd.func40, Tryd.ntmps40
    go_wp2
    go_quiet (fail)
    go_wp2_with fail
    refine bodyPost_ret (v := .bool false) (by simp [results, Tryd.results40, go_sem]) rfl ?_
    unfold AheadPost
    rw [E.out]
    exact ⟨((Below.refl _ _).alloc (by omega) _).drewN' _, rfl⟩
set_option maxRecDepth 100000 in
set_option maxHeartbeats 4000000 in
theorem ahead1_any (h : RMem w p t 1) (hr : Reads w w.heap.size 1 A n ((wd :: ws).map strV)) (own : w.ownsRow (p + 1) 3 1 lv ns.length (intV ns)) :
    Calls Tryd.prog 40 #[.pointer (some ⟨p, 0, none⟩), .slice A n c, lv] w (AheadPost w p t 1 wd ns) := by
  obtain ⟨V1, V2, V3, hw, ht⟩ := h
  obtain ⟨ad, rfl, had, hc⟩ := hr.head
  have hn : (0 : Int) < n := by have := hr.1; simp at this; omega
  have k4 := hw.cell 4
  have k1 := hw.cell 2
  have fz := hw.frozen 2
  have fz4 := hw.frozen 4
  have hp := hw.lt
  simp at k4 k1
  obtain ⟨S, hS⟩ : ∃ S : ByteArray, S = ⟨wd.toArray⟩ := ⟨_, rfl⟩
  have hc' : w.cell? ad = some (.string S) := by rw [hc, hS]; rfl
  have hSl : S.toList = wd := by rw [ByteArray.toList_eq, hS]
  have hz1 : ad.block < w.heap.size + 1 := by omega
  clear hc hS
  by_cases hx : wd = [109, 117, 116, 101, 120, 101, 115]
  · by_cases h1 : ns.length = 1
    · obtain ⟨x, rfl⟩ := List.length_eq_one_iff.1 h1
      have E : Hid (aheadT t 1 wd [x] = some { t with mutexes := x }) := by show _ = _; rw [hx]; rfl
      obtain ⟨g, cap, rfl, hg0, hgl⟩ := own.form (by simp)
      have kg := own.cellAt 0 (by simp)
      simp [intV] at kg
      have hgz : g < w.heap.size + 1 := by omega
      have hgp : ¬ g = p := by omega
      have e1 : (S.toList != [109, 117, 116, 101, 120, 101, 115]) = false := by rw [hSl, hx]; rfl
      have e2 : S.toList = [109, 117, 116, 101, 120, 101, 115] := by rw [hSl, hx]
      have e3 : (S.toList == [109, 117, 116, 101, 120, 101, 115]) = true := by rw [hSl, hx]; rfl
      have ht' : Tab w (p + 1) V1 V2 V3 { t with mutexes := x } := ⟨ht.tasks, ht.sems, ht.queues⟩
      clear hx hSl
      skip
      go_enter Tryd.func40, Tryd.ntmps40
      go_wp2
      go_quiet (fail)
      go_wp2_with fail
      refine bodyPost_ret (v := .bool true) (by simp [results, Tryd.results40, go_sem]) rfl ?_
      unfold AheadPost
      rw [E.out]
      refine ⟨?_, rfl, _, _, _, (((hw.alloc _).drewN _).put 2 _).put 4 _, ?_⟩
      · exact ((((Below.refl p w).alloc (by omega) _).drewN' _).setCell (Nat.le_refl _) _).setCell (Nat.le_refl _) _
      · refine ht'.same fun k hk hlt => ?_
        rw [Below.heap_setCell _ _ _ _ (by show k ≠ p; omega), Below.heap_setCell _ _ _ _ (by show k ≠ p; omega)]
        exact Below.heap_alloc _ _ _ hlt
    · have E : Hid (aheadT t 1 wd ns = none) := by show _ = _; rw [hx]; unfold aheadT; rw [if_neg (by decide), if_neg (by decide), if_pos rfl, if_neg h1]
      obtain ⟨a2, c2, rfl, _, _⟩ := row_slice own
      have h1' : ((ns.length : Int) != 1) = true := by simp; omega
      have h2' : ((ns.length : Int) == 1) = false := by simp; omega
      have h3' : ¬ (ns.length : Int) = 1 := by omega
      have e1 : (S.toList != [109, 117, 116, 101, 120, 101, 115]) = false := by rw [hSl, hx]; rfl
      have e2 : S.toList = [109, 117, 116, 101, 120, 101, 115] := by rw [hSl, hx]
      have e3 : (S.toList == [109, 117, 116, 101, 120, 101, 115]) = true := by rw [hSl, hx]; rfl
      clear hx hSl
      go_enter Tryd.func40, Tryd.ntmps40
      go_wp2
      go_quiet (fail)
      go_wp2_with fail
      refine bodyPost_ret (v := .bool false) (by simp [results, Tryd.results40, go_sem]) rfl ?_
      unfold AheadPost
      rw [E.out]
      exact ⟨((Below.refl _ _).alloc (by omega) _).drewN' _, rfl⟩
  · have E : Hid (aheadT t 1 wd ns = none) := by
      show _ = _
      unfold aheadT
      rw [if_pos (by intro h; exact hx (Option.some.inj h))]
    have e1 : (S.toList != [109, 117, 116, 101, 120, 101, 115]) = true := by rw [hSl]; exact bne_iff_ne.2 hx
    have e2 : ¬ S.toList = [109, 117, 116, 101, 120, 101, 115] := by rw [hSl]; exact hx
    have e3 : (S.toList == [109, 117, 116, 101, 120, 101, 115]) = false := by rw [hSl]; exact beq_eq_false_iff_ne.2 hx
    clear hx hSl
    go_enter Tryd.func40, Tryd.ntmps40
    go_wp2
    go_quiet (fail)
    go_wp2_with fail
    refine bodyPost_ret (v := .bool false) (by simp [results, Tryd.results40, go_sem]) rfl ?_
    unfold AheadPost
    rw [E.out]
    exact ⟨((Below.refl _ _).alloc (by omega) _).drewN' _, rfl⟩
set_option maxRecDepth 100000 in
set_option maxHeartbeats 4000000 in
theorem ahead2_any (h : RMem w p t 2) (hr : Reads w w.heap.size 1 A n ((wd :: ws).map strV)) (own : w.ownsRow (p + 1) 3 1 lv ns.length (intV ns)) :
    Calls Tryd.prog 40 #[.pointer (some ⟨p, 0, none⟩), .slice A n c, lv] w (AheadPost w p t 2 wd ns) := by
  obtain ⟨V1, V2, V3, hw, ht⟩ := h
  obtain ⟨ad, rfl, had, hc⟩ := hr.head
  have hn : (0 : Int) < n := by have := hr.1; simp at this; omega
  have k4 := hw.cell 4
  have k1 := hw.cell 3
  have fz := hw.frozen 3
  have fz4 := hw.frozen 4
  have hp := hw.lt
  simp at k4 k1
  obtain ⟨S, hS⟩ : ∃ S : ByteArray, S = ⟨wd.toArray⟩ := ⟨_, rfl⟩
  have hc' : w.cell? ad = some (.string S) := by rw [hc, hS]; rfl
  have hSl : S.toList = wd := by rw [ByteArray.toList_eq, hS]
  have hz1 : ad.block < w.heap.size + 1 := by omega
  clear hc hS
  by_cases hx : wd = [113, 117, 101, 117, 101, 115]
  · have E : Hid (aheadT t 2 wd ns = some { t with queues := ns }) := by show _ = _; rw [hx]; rfl
    have e1 : (S.toList != [113, 117, 101, 117, 101, 115]) = false := by rw [hSl, hx]; rfl
    have e2 : S.toList = [113, 117, 101, 117, 101, 115] := by rw [hSl, hx]
    have e3 : (S.toList == [113, 117, 101, 117, 101, 115]) = true := by rw [hSl, hx]; rfl
    have ht' : Tab w (p + 1) V1 V2 lv { t with queues := ns } := ⟨ht.tasks, ht.sems, own⟩
    clear hx hSl
    obtain ⟨a2, c2, rfl, _, _⟩ := row_slice own
    go_enter Tryd.func40, Tryd.ntmps40
    go_wp2
    go_quiet (fail)
    go_wp2_with fail
    refine bodyPost_ret (v := .bool true) (by simp [results, Tryd.results40, go_sem]) rfl ?_
    unfold AheadPost
    rw [E.out]
    refine ⟨?_, rfl, _, _, _, (((hw.alloc _).drewN _).put 3 _).put 4 _, ?_⟩
    · exact ((((Below.refl p w).alloc (by omega) _).drewN' _).setCell (Nat.le_refl _) _).setCell (Nat.le_refl _) _
    · refine ht'.same fun k hk hlt => ?_
      rw [Below.heap_setCell _ _ _ _ (by show k ≠ p; omega), Below.heap_setCell _ _ _ _ (by show k ≠ p; omega)]
      exact Below.heap_alloc _ _ _ hlt
  · have E : Hid (aheadT t 2 wd ns = none) := by
      show _ = _
      unfold aheadT
      rw [if_pos (by intro h; exact hx (Option.some.inj h))]
    have e1 : (S.toList != [113, 117, 101, 117, 101, 115]) = true := by rw [hSl]; exact bne_iff_ne.2 hx
    have e2 : ¬ S.toList = [113, 117, 101, 117, 101, 115] := by rw [hSl]; exact hx
    have e3 : (S.toList == [113, 117, 101, 117, 101, 115]) = false := by rw [hSl]; exact beq_eq_false_iff_ne.2 hx
    clear hx hSl
    go_enter Tryd.func40, Tryd.ntmps40
    go_wp2
    go_quiet (fail)
    go_wp2_with fail
    refine bodyPost_ret (v := .bool false) (by simp [results, Tryd.results40, go_sem]) rfl ?_
    unfold AheadPost
    rw [E.out]
    exact ⟨((Below.refl _ _).alloc (by omega) _).drewN' _, rfl⟩
end
end Go.Proofs.YtadcfedjmofjjaaDoor
