/-
  The numbers of a kernel's, as it goes.
  A mutex let go: the walk of release; who has the mutex that a task waits for.
  Who has the mutex that a task waits for; a task's end.
  A task's end: the walk of end.
  The calls: the walks of say and of those that only say.
  Does a task wait with a time? The walks of timed and what it calls.
  What holds of the kernel between its operations: each task stands where it should; the numbers are in their bounds.
  Which tables may be: the bounds of each number.
  Each step of the kernel keeps what holds between its operations.
  Releases, ends, priorities, ticks keep what holds between the kernel's operations.
  Each operation, and each round of the kernel, keeps what holds between them; a kernel stops.
  What the walks need of a kernel between its operations; priorities, how they come down.
  All priorities told anew: the walk of priorities.
-/
import Derived.Test.YtncbgnpoffolcaaM1
import Derived.Test.YtncbgnpoffolcaaM2
import Derived.Deep.LoopGhost
import Derived.BigQuiet
import Derived.Deep.AppendLies
/-! The numbers of a kernel's, as it goes. -/
namespace Go.Proofs.Ytncbgnpoffolcaa
theorem Fine.more {k : Kn.K} {M M' : Nat} (h : Fine k M) (hM : M ≤ M') : Fine k M' := ⟨h.tasks, h.prio, fun x => zt (h.len x) hM, h.on, h.val⟩
theorem l_setL (k : Kn.K) (x y : Nat) (f : List Int → List Int) : (k.setL x f).l y = if y = x ∧ x < k.lst.length then f (k.l x) else k.l y := by
 by_cases e : y = x
 ·subst e
  by_cases h : y < k.lst.length
  ·rw [if_pos ⟨rfl, h⟩]
   unfold Kn.K.setL Kn.K.l
   simp [h]
  ·rw [if_neg (fun q => h q.2)]
   unfold Kn.K.setL Kn.K.l
   simp [List.getElem?_eq_none (Nat.le_of_not_lt h)]
 ·rw [if_neg (fun q => e q.1)]
  exact setL_other e
/-- A list shortened. -/
theorem Fine.erase {k : Kn.K} {M x : Nat} {n : Int} (h : Fine k M) : Fine (k.setL x (·.erase n)) M := by
 refine ⟨h.tasks, h.prio, fun y => ?_, h.on, fun y hy => ?_⟩
 ·rw [l_setL]
  split
  ·exact zt List.length_erase_le (h.len x)
  ·exact h.len y
 ·rw [l_setL]
  split
  ·rename_i q
   intro z hz
   exact h.val x (q.1 ▸ hy) z (List.mem_of_mem_erase hz)
  ·exact h.val y hy
/-- A task more behind a list. -/
theorem Fine.push {k : Kn.K} {M x : Nat} {m : Nat} (h : Fine k M) (hm : m < k.tasks.length) : Fine (k.setL x (· ++ [(m : Int)])) (M + 1) := by
 refine ⟨h.tasks, h.prio, fun y => ?_, h.on, fun y hy => ?_⟩
 ·rw [l_setL]
  split
  ·rw [List.length_append, List.length_singleton]
   have := h.len x
   omega
  ·exact zt (h.len y) (by omega)
 ·rw [l_setL]
  split
  ·rename_i q
   intro z hz
   rcases List.mem_append.1 hz with hz | hz
   ·exact h.val x (q.1 ▸ hy) z hz
   ·rw [List.mem_singleton.1 hz]
    exact ⟨by omega, by show (m : Int) < k.tasks.length; omega⟩
  ·exact h.val y hy
theorem Fine.task {k : Kn.K} {M i : Nat} {f : Kn.T → Kn.T} (h : Fine k M) (hp : 0 ≤ (f (kT k i)).prio ∧ (f (kT k i)).prio < 32) (ho : ∀ x, (f (kT k i)).on = some x → OnOk k x) : Fine (k.setT i f) M := by
 refine ⟨by rw [setT_len]; exact h.tasks, fun j hj => ?_, h.len, fun j x hj hx => ?_, fun x hx z hz => ?_⟩
 ·rw [setT_len] at hj
  by_cases e : j = i
  ·subst e
   rw [kT_set hj]
   exact hp
  ·rw [kT_other e]
   exact h.prio j hj
 ·rw [setT_len] at hj
  by_cases e : j = i
  ·subst e
   rw [kT_set hj] at hx
   exact ho x hx
  ·rw [kT_other e] at hx
   exact h.on j x hj hx
 ·rw [setT_len]
  exact h.val x hx z hz
theorem Fine.leave {k : Kn.K} {M : Nat} {n : Int} (h : Fine k M) : Fine (k.leave n) M := h.erase
theorem Fine.wake {k : Kn.K} {M m : Nat} {a : Int} (h : Fine k M) (hm : m < k.tasks.length) : Fine (k.wake m a) (M + 1) := by
 have key : ∀ k1 : Kn.K, Fine k1 M → m < k1.tasks.length → Fine (((k1.setT m fun t => { t with state := 0, answer := a, on := none, left := 0 })).setL ((k1.setT m fun t => { t with state := 0, answer := a, on := none, left := 0 }).t m).prio.toNat (· ++ [(m : Int)])) (M + 1) := by
  intro k1 h1 hm1
  exact Fine.push (h1.task (f := fun t => { t with state := 0, answer := a, on := none, left := 0 }) (h1.prio m hm1) (fun x hx => by cases hx)) (by rw [setT_len]; exact hm1)
 unfold Kn.K.wake
 cases hq : (k.t m).on with
 | none => exact key k h hm
 | some x => exact key _ h.erase hm
end Go.Proofs.Ytncbgnpoffolcaa
/-! A mutex let go: the walk of release; who has the mutex that a task waits for. -/
namespace Go.Proofs.Ytncbgnpoffolcaa
open Go.RowKit
theorem bestOf_mem (k : Kn.K) : ∀ (xs : List Int) (b : Int), k.bestOf xs b = b ∨ k.bestOf xs b ∈ xs
 | [], b => .inl rfl
 | n :: l, b => by
   rw [Kn.K.bestOf]
   by_cases h : b < 0 ∨ (k.t n).prio < (k.t b).prio
   ·rw [if_pos h]
    rcases bestOf_mem k l n with h1 | h1
    ·rw [h1]
     exact .inr List.mem_cons_self
    ·exact .inr (List.mem_cons_of_mem _ h1)
   ·rw [if_neg h]
    rcases bestOf_mem k l b with h1 | h1
    ·exact .inl h1
    ·exact .inr (List.mem_cons_of_mem _ h1)
theorem best_valid {k : Kn.K} {xs : List Int} (hv : Valid k xs) : k.best xs = -1 ∨ 0 ≤ k.best xs ∧ k.best xs < k.tasks.length := by
 rcases bestOf_mem k xs (-1) with h | h
 ·exact .inl h
 ·exact .inr (hv _ h)
section
variable {k : Kn.K} {L : Lay} {i : Nat} {b : Int}
theorem owner_live (c : Part) : c.live { k with owner := k.owner.set i b } L ↔ c.live k L := by
 cases c <;> first | exact Iff.rfl | simp [Part.live]
theorem owner_cont {c : Part} {ob : Option Obj} (hne : c ≠ .m i) (hc : c.cont k L ob) : c.cont { k with owner := k.owner.set i b } L ob := by
 cases c with
 | m j =>
   have e : j ≠ i := fun e => hne (by rw [e])
   show ob = _
   have e1 : (k.owner.set i b).getD j 0 = k.owner.getD j 0 := by simp [Ne.symm e]
   simp only [e1]
   exact hc
 | ker =>
   show ob = _
   have e1 : kerCells { k with owner := k.owner.set i b } L = kerCells k L := by unfold kerCells; simp only [List.length_set]; rfl
   rw [e1]
   exact hc
 | ma =>
   obtain ⟨q1, q2⟩ := hc
   refine ⟨q1, ?_⟩
   simp only [List.length_set]
   exact q2
 | t j => exact hc
 | s j => exact hc
 | q j => exact hc
 | l x => exact hc
 | o j => exact hc
 | lp j => exact hc
 | ta => exact hc
 | sa => exact hc
 | qa => exact hc
 | out => exact hc
/-- A mutex has another owner. -/
theorem KM.setOwner {w : World} {B : Nat} (h : KM w B k L) (hi : i < k.owner.length) : KM (w.setCell ⟨L.b (.m i), 0, none⟩ (.int .i64 b)) B { k with owner := k.owner.set i b } L :=
 h.one (.m i) owner_live (by
  obtain ⟨n1, n2, n3, n4, n5, n6⟩ := h.nil
  exact ⟨n1, n2, fun hh => by rw [List.length_set]; exact n3 hh, n4, n5, n6⟩) h.lens (by obtain ⟨f1, f2, f3⟩ := h.few; exact ⟨f1, by rw [List.length_set]; exact f2, f3⟩)
  (fun g hg _ => zk _ _ _ _ hg) (fun _ => by
   have hw : Whole w (L.b (.m i)) 85 #[.int .i64 (k.owner.getD i 0), L.hd (.l (40 + i)) (k.l (40 + i)).length] := h.cont (.m i) hi
   have e1 : (k.owner.set i b).getD i 0 = b := by simp [hi]
   show _ = _
   simp only [e1]
   exact hw.put 0 _) (fun c o hne _ hc => owner_cont hne hc) hi
theorem Fine.owner {M : Nat} (h : Fine k M) : Fine { k with owner := k.owner.set i b } M :=
 ⟨h.tasks, h.prio, h.len, fun j x hj hx => by
  rcases h.on j x hj hx with q | ⟨i', e, q⟩ | q | q
  ·exact .inl q
  ·exact .inr (.inl ⟨i', e, by show i' < (k.owner.set i b).length; rw [List.length_set]; exact q⟩)
  ·exact .inr (.inr (.inl q))
  ·exact .inr (.inr (.inr q)), h.val⟩
end
set_option maxRecDepth 100000 in
set_option maxHeartbeats 4000000 in
theorem release_any {w : World} {B M : Nat} {k : Kn.K} {L : Lay} {i : Nat} (h : KM w B k L) (hf : Fine k M) (hM : M ≤ 1000000) (hi : i < k.owner.length) (hB : B ≤ w.heap.size) :
 Calls Try.prog 57 #[L.ptr .ker 0, L.ptr (.m i) 0] w fun e w' => e = .returned (.tuple #[]) ∧ ∃ L', KM w' B (k.release i) L' ∧ Sam L L' ∧ Below B w w' := by
 have hi8 : i < 8 := by have := h.few; omega
 obtain ⟨q1, q2⟩ := holder_mutex hi8
 obtain ⟨hd1, _⟩ := h.headCell (x := 40 + i) (by omega) (by rw [q1]; exact hi)
 rw [q1, q2] at hd1
 have hval := hf.val (40 + i) (by omega)
 have hfin := hf
 obtain ⟨A, c, hAc, hrd⟩ : ∃ A c, L.hd (.l (40 + i)) (k.l (40 + i)).length = .slice A (k.l (40 + i)).length c ∧ Reads w w.heap.size 1 A (k.l (40 + i)).length (intV (k.l (40 + i))) := by
  rcases h.head (x := 40 + i) (by omega) with ⟨_, e1, e2⟩ | ⟨b, off, cap, _, e1, e2⟩
  ·rw [e1, e2]
   exact ⟨none, 0, rfl, Reads.none_⟩
  ·exact ⟨_, _, e1, e2.reads⟩
 rw [hAc] at hd1
 have HBE := zh (best_any (c := c) h hval hrd (by have := hf.len (40 + i); omega) (by have := hf.tasks; omega))
 have hbv := best_valid hval
 obtain ⟨b, hb⟩ : ∃ b, k.best (k.l (40 + i)) = b := ⟨_, rfl⟩
 have ER : Hid (k.release i = if 0 ≤ b then ({ k with owner := k.owner.set i b } : Kn.K).wake b 0 else { k with owner := k.owner.set i b }) := by
  show _ = _
  unfold Kn.K.release
  rw [hb]
 rw [hb] at HBE hbv
 have HK := zh h
 have HF := zh hf
 have hltM := h.lt (c := .m i) hi
 have hlowM := h.low (.m i) hi
 clear h hf hAc hrd hval hfin hb
 unfold Lay.ptr at HBE ⊢
 go_enter Try.func57, Try.ntmps57
 go_wp2_with fail
 refine HBE.out.mono ?_
 rintro e w1 ⟨rfl, hb1⟩
 have hk1 := HK.out.below hb1
 have wm : Whole w1 (L.b (.m i)) 85 #[.int .i64 (k.owner.getD i 0), L.hd (.l (40 + i)) (k.l (40 + i)).length] := hk1.cont (.m i) hi
 have c0 := wm.cell 0
 have f0 := wm.frozen 0
 simp at c0
 have hk2 := zh (hk1.setOwner (b := b) hi)
 have hB1 := zh (((zr B w).trans (hb1.mono hB)).setCell (p := ⟨L.b (.m i), 0, none⟩) hlowM (.int .i64 b))
 have hz1 := hb1.size
 clear hk1 wm hb1
 rcases hbv with rfl | ⟨hb0, hb2⟩
 ·go_wp2_with fail
  go_end0
  rw [ER.out]
  exact ⟨rfl, L, hk2.out, Sam.refl L, hB1.out⟩
 ·obtain ⟨m, rfl⟩ := Int.eq_ofNat_of_zero_le hb0
  have hm : m < k.tasks.length := by omega
  have hwk := wake_any (m := m) 0 hk2.out (HF.out.owner) hM hm (by rw [World.size_setCell]; omega) (fun x hx => HF.out.owner.on m x hm hx)
  have HWK := zh hwk
  clear hwk
  unfold Lay.ptr at HWK
  go_wp2_with fail
  refine HWK.out.mono ?_
  rintro e w2 ⟨rfl, L', k5, s5, b5⟩
  go_wp2_with fail
  go_end0
  rw [ER.out, if_pos hb0]
  exact ⟨rfl, L', k5, s5, hB1.out.trans b5⟩
end Go.Proofs.Ytncbgnpoffolcaa
/-! Who has the mutex that a task waits for; a task's end. -/
namespace Go.Proofs.Ytncbgnpoffolcaa
open Go.RowKit
theorem ta_sem_80 (a : Addr) (w : World) : (Instr.typeAssert (.iface 80 (.pointer (some a))) 72 80 true).run Try.prog w = .ok (.tuple #[.pointer (some a), .bool true]) w := by kernel_rfl
theorem ta_sem_83 (a : Addr) (w : World) : (Instr.typeAssert (.iface 80 (.pointer (some a))) 72 83 true).run Try.prog w = .ok (.tuple #[.pointer none, .bool false]) w := by kernel_rfl
theorem ta_sem_126 (a : Addr) (w : World) : (Instr.typeAssert (.iface 80 (.pointer (some a))) 72 126 true).run Try.prog w = .ok (.tuple #[.pointer none, .bool false]) w := by kernel_rfl
theorem ta_sem_127 (a : Addr) (w : World) : (Instr.typeAssert (.iface 80 (.pointer (some a))) 72 127 true).run Try.prog w = .ok (.tuple #[.pointer none, .bool false]) w := by kernel_rfl
theorem ta_mutex_83 (a : Addr) (w : World) : (Instr.typeAssert (.iface 83 (.pointer (some a))) 72 83 true).run Try.prog w = .ok (.tuple #[.pointer (some a), .bool true]) w := by kernel_rfl
theorem ta_full_80 (a : Addr) (w : World) : (Instr.typeAssert (.iface 126 (.pointer (some a))) 72 80 true).run Try.prog w = .ok (.tuple #[.pointer none, .bool false]) w := by kernel_rfl
theorem ta_full_83 (a : Addr) (w : World) : (Instr.typeAssert (.iface 126 (.pointer (some a))) 72 83 true).run Try.prog w = .ok (.tuple #[.pointer none, .bool false]) w := by kernel_rfl
theorem ta_full_126 (a : Addr) (w : World) : (Instr.typeAssert (.iface 126 (.pointer (some a))) 72 126 true).run Try.prog w = .ok (.tuple #[.pointer (some a), .bool true]) w := by kernel_rfl
theorem ta_full_127 (a : Addr) (w : World) : (Instr.typeAssert (.iface 126 (.pointer (some a))) 72 127 true).run Try.prog w = .ok (.tuple #[.pointer none, .bool false]) w := by kernel_rfl
theorem ta_empty_80 (a : Addr) (w : World) : (Instr.typeAssert (.iface 127 (.pointer (some a))) 72 80 true).run Try.prog w = .ok (.tuple #[.pointer none, .bool false]) w := by kernel_rfl
theorem ta_empty_83 (a : Addr) (w : World) : (Instr.typeAssert (.iface 127 (.pointer (some a))) 72 83 true).run Try.prog w = .ok (.tuple #[.pointer none, .bool false]) w := by kernel_rfl
theorem ta_empty_126 (a : Addr) (w : World) : (Instr.typeAssert (.iface 127 (.pointer (some a))) 72 126 true).run Try.prog w = .ok (.tuple #[.pointer none, .bool false]) w := by kernel_rfl
theorem ta_empty_127 (a : Addr) (w : World) : (Instr.typeAssert (.iface 127 (.pointer (some a))) 72 127 true).run Try.prog w = .ok (.tuple #[.pointer (some a), .bool true]) w := by kernel_rfl
theorem ta_nil_80 (w : World) : (Instr.typeAssert .nilIface 72 80 true).run Try.prog w = .ok (.tuple #[.pointer none, .bool false]) w := by kernel_rfl
theorem ta_nil_83 (w : World) : (Instr.typeAssert .nilIface 72 83 true).run Try.prog w = .ok (.tuple #[.pointer none, .bool false]) w := by kernel_rfl
theorem ta_nil_126 (w : World) : (Instr.typeAssert .nilIface 72 126 true).run Try.prog w = .ok (.tuple #[.pointer none, .bool false]) w := by kernel_rfl
theorem ta_nil_127 (w : World) : (Instr.typeAssert .nilIface 72 127 true).run Try.prog w = .ok (.tuple #[.pointer none, .bool false]) w := by kernel_rfl
set_option maxRecDepth 100000 in
set_option maxHeartbeats 4000000 in
theorem owner_any {w : World} {B M : Nat} {k : Kn.K} {L : Lay} {m : Nat} (h : KM w B k L) (hf : Fine k M) (hm : m < k.tasks.length) :
 Calls Try.prog 82 #[L.ptr .ker 0, L.ptr (.t m) 0] w fun e w' => e = .returned (.int .i64 (k.ownerOf (kT k m))) ∧ Below w.heap.size w w' := by
 have h2 : w.cell? ⟨L.b (.t m), 7, none⟩ = some (L.on (kT k m).on) := (h.task hm).cell 7
 have hon := hf.on m
 have hfew := h.few
 unfold Lay.ptr
 rcases hq : (kT k m).on with _ | x
 ·have E : Hid (k.ownerOf (kT k m) = -1) := by show _ = _; unfold Kn.K.ownerOf; rw [hq]
  rw [hq] at h2
  have h2' : w.cell? ⟨L.b (.t m), 7, none⟩ = some .nilIface := h2
  clear h hf h2 hq hon
  have a83 := ta_nil_83
  have a80 := ta_nil_80
  have a126 := ta_nil_126
  have a127 := ta_nil_127
  go_enter Try.func82, Try.ntmps82
  go_wp2_with fail
  go_ret
  exact ⟨by rw [E.out]; rfl, zr _ _⟩
 ·rcases hon x hm hq with ⟨i, rfl, hi⟩ | ⟨i, rfl, hi⟩ | ⟨i, rfl, hi⟩ | ⟨i, rfl, hi⟩
  ·have E : Hid (k.ownerOf (kT k m) = -1) := by show _ = _; unfold Kn.K.ownerOf; rw [hq]; simp only []; rw [if_neg (by omega)]
   rw [hq, on_sem (by omega)] at h2
   clear h hf hq hon
   have a83 := ta_sem_83 ⟨L.b (.s i), 0, none⟩
   have a80 := ta_sem_80 ⟨L.b (.s i), 0, none⟩
   have a126 := ta_sem_126 ⟨L.b (.s i), 0, none⟩
   have a127 := ta_sem_127 ⟨L.b (.s i), 0, none⟩
   go_enter Try.func82, Try.ntmps82
   go_wp2_with fail
   go_ret
   exact ⟨by rw [E.out]; rfl, zr _ _⟩
  ·have E : Hid (k.ownerOf (kT k m) = k.owner.getD i (-1)) := by show _ = _; unfold Kn.K.ownerOf; rw [hq]; simp only []; rw [if_pos (by omega), Nat.add_sub_cancel_left]
   rw [hq, on_mutex (by omega)] at h2
   have wm : Whole w (L.b (.m i)) 85 #[.int .i64 (k.owner.getD i 0), L.hd (.l (40 + i)) (k.l (40 + i)).length] := h.cont (.m i) hi
   have c0 := wm.cell 0
   simp at c0
   have e0 : Hid (k.owner.getD i (-1) = k.owner[i]) := by show _ = _; simp [hi]
   clear h hf hq hon wm
   have a83 := ta_mutex_83 ⟨L.b (.m i), 0, none⟩
   go_enter Try.func82, Try.ntmps82
   go_wp2_with fail
   go_ret
   refine ⟨?_, zr _ _⟩
   rw [E.out, e0.out]
   rfl
  ·have E : Hid (k.ownerOf (kT k m) = -1) := by show _ = _; unfold Kn.K.ownerOf; rw [hq]; simp only []; rw [if_neg (by omega)]
   rw [hq, on_full (by omega)] at h2
   clear h hf hq hon
   have a83 := ta_full_83 ⟨L.b (.q i), 2, none⟩
   have a80 := ta_full_80 ⟨L.b (.q i), 2, none⟩
   have a126 := ta_full_126 ⟨L.b (.q i), 2, none⟩
   have a127 := ta_full_127 ⟨L.b (.q i), 2, none⟩
   go_enter Try.func82, Try.ntmps82
   go_wp2_with fail
   go_ret
   exact ⟨by rw [E.out]; rfl, zr _ _⟩
  ·have E : Hid (k.ownerOf (kT k m) = -1) := by show _ = _; unfold Kn.K.ownerOf; rw [hq]; simp only []; rw [if_neg (by omega)]
   rw [hq, on_empty (by omega)] at h2
   clear h hf hq hon
   have a83 := ta_empty_83 ⟨L.b (.q i), 3, none⟩
   have a80 := ta_empty_80 ⟨L.b (.q i), 3, none⟩
   have a126 := ta_empty_126 ⟨L.b (.q i), 3, none⟩
   have a127 := ta_empty_127 ⟨L.b (.q i), 3, none⟩
   go_enter Try.func82, Try.ntmps82
   go_wp2_with fail
   go_ret
   exact ⟨by rw [E.out]; rfl, zr _ _⟩
end Go.Proofs.Ytncbgnpoffolcaa
/-! A task's end: the walk of end. -/
namespace Go.Proofs.Ytncbgnpoffolcaa
open Go.RowKit
section
variable {w : World} {B : Nat} {k : Kn.K} {L : Lay}
theorem KM.maOk (h : KM w B k L) (hn : 0 < k.owner.length) : L.nil .ma = false := by
 cases hh : L.nil .ma with
 | false => rfl
 | true => have := h.nil.2.2.1 hh; omega
theorem KM.mutexHead (h : KM w B k L) : w.cell? ⟨L.b .ker, 2, none⟩ = some (L.hd .ma k.owner.length) := by
 rw [h.ker.cell]
 rfl
theorem KM.mutexPtr (h : KM w B k L) {i : Nat} (hi : i < k.owner.length) : L.hd .ma k.owner.length = .slice (some ⟨L.b .ma, 0, none⟩) k.owner.length (L.cap .ma) ∧ w.cell? ⟨L.b .ma, i, none⟩ = some (.pointer (some ⟨L.b (.m i), 0, none⟩)) := by
 obtain ⟨h0, cur, hb, _, _, _, hc⟩ := h.cont .ma (h.maOk (by omega))
 refine ⟨?_, ?_⟩
 ·unfold Lay.hd
  rw [h.maOk (by omega)]
  simp [h0]
 ·rw [cell_of_row w _ i cur 83 (0, 0) hb]
  exact hc i hi
end
theorem release_owner (k : Kn.K) (i : Nat) : (k.release i).owner.length = k.owner.length ∧ (k.release i).tasks.length = k.tasks.length := by
 unfold Kn.K.release
 simp only []
 split
 ·unfold Kn.K.wake
  split <;> exact ⟨by simp [Kn.K.setL, Kn.K.setT], by simp [Kn.K.setL, Kn.K.setT]⟩
 ·exact ⟨by simp, rfl⟩
theorem Fine.release {k : Kn.K} {M i : Nat} (hi : i < 8) (h : Fine k M) : Fine (k.release i) (M + 1) := by
 unfold Kn.K.release
 rcases best_valid (h.val (40 + i) (by omega)) with e | ⟨e1, e2⟩
 ·rw [e]
  exact (h.owner).more (by omega)
 ·obtain ⟨m, hm⟩ := Int.eq_ofNat_of_zero_le e1
  rw [hm] at e2 ⊢
  simp only []
  rw [if_pos (by omega)]
  exact (h.owner).wake (by show m < k.tasks.length; omega)
theorem gives_step {n : Int} {r j : Nat} {k : Kn.K} : Kn.K.gives n (r + 1) j k = Kn.K.gives n r (j + 1) (if k.owner.getD j (-1) = n then k.release j else k) := rfl
set_option maxRecDepth 100000 in
set_option maxHeartbeats 4000000 in
theorem end_any {w : World} {B M : Nat} {k : Kn.K} {L : Lay} {m : Nat} (h : KM w B k L) (hf : Fine k M) (hM : M ≤ 999000) (hm : m < k.tasks.length) (hB : B ≤ w.heap.size) :
 Calls Try.prog 43 #[L.ptr .ker 0, .int .i64 m] w fun e w' => e = .returned (.tuple #[]) ∧ ∃ L', KM w' B (k.fin m) L' ∧ Sam L L' ∧ Below B w w' ∧ Fine (k.fin m) (M + 8) := by
 have HLV := zh (leave_any h hf (by omega) hm hB)
 have im : (m : Int) < k.tasks.length := by omega
 have im0 : (0 : Int) ≤ m := by omega
 have HF := zh hf
 have hfew := h.few
 clear h hf
 unfold Lay.ptr at HLV ⊢
 go_enter Try.func43, Try.ntmps43
 go_wp2_with fail
 refine HLV.out.mono ?_
 rintro e w1 ⟨rfl, L1, k1, s1, b1⟩
 have eT : L1.b (.t m) = L.b (.t m) := s1 (.t m) rfl
 have eK : L1.b .ker = L.b .ker := s1 .ker rfl
 have eA : L1.b .ta = L.b .ta := s1 .ta rfl
 have a0 := k1.tasksHead (show 0 < (k.leave m).tasks.length from by show 0 < k.tasks.length; omega)
 have a1 := k1.taskPtr (i := m) hm
 have wt := k1.task (i := m) hm
 rw [eK, eA] at a0
 rw [eA, eT] at a1
 rw [eT] at wt
 have a0' : w1.cell? ⟨L.b .ker, 0, none⟩ = some (.slice (some ⟨L.b .ta, 0, none⟩) k.tasks.length (L1.cap .ta)) := a0
 have t3 : w1.cell? ⟨L.b (.t m), 3, none⟩ = some (.int .i64 (kT k m).state) := wt.cell 3
 have f3 := wt.frozen 3
 have hlowT := k1.low (.t m) hm
 rw [eT] at hlowT
 have K1 := zh k1
 have S1 := zh s1
 have B1 := zh b1
 have WT := zh wt
 have hz1 := b1.size
 clear k1 s1 b1 wt a0
 go_upto_region 2 with fail
 obtain ⟨W, hW⟩ : ∃ W, W = w1.setCell ⟨L.b (.t m), 3, none⟩ (.int .i64 2) := ⟨_, rfl⟩
 rw [← hW]
 have hK4 : Hid (KM W B ((k.leave m).setT m fun t => { t with state := 2 }) L1) := by
  show KM _ _ _ _
  refine K1.out.setTask hm rfl rfl (fun g hg _ => ?_) ?_
  ·rw [eT] at hg
   rw [hW, zk _ _ _ _ hg]
  ·rw [eT, hW]
   have hq4 := WT.out.put 3 (.int .i64 2)
   have e4 : taskCells ((k.leave m).setT m fun t => { t with state := 2 }) L1 m = (taskCells (k.leave m) L1 m).setIfInBounds 3 (.int .i64 2) := by
    unfold taskCells
    rw [kT_set (k := k.leave m) hm]
    rfl
   rw [e4]
   exact hq4
 have HF4 : Hid (Fine ((k.leave m).setT m fun t => { t with state := 2 }) M) := by
  have q := (HF.out.leave (n := (m : Int))).task (i := m) (f := fun t => { t with state := 2 }) (HF.out.prio m hm) (fun x hx => HF.out.on m x hm hx)
  exact q
 have EF : Hid (k.fin m = Kn.K.gives m k.owner.length 0 ((k.leave m).setT m fun t => { t with state := 2 })) := by
  show _ = _
  rfl
 have hBW : Below B w W := by rw [hW]; exact B1.out.setCell (p := ⟨L.b (.t m), 3, none⟩) hlowT _
 have HBW := zh hBW
 have hzW := hBW.size
 have hown : ((k.leave m).setT m fun t => { t with state := 2 }).owner.length = k.owner.length := rfl
 have htl : ((k.leave m).setT m fun t => { t with state := 2 }).tasks.length = k.tasks.length := by rw [setT_len]; rfl
 generalize ((k.leave m).setT m fun t => { t with state := 2 }) = k0 at *
 have c2 := hK4.out.mutexHead
 rw [eK, hown] at c2
 obtain ⟨A, c, hAc⟩ : ∃ A c, L1.hd .ma k.owner.length = .slice A k.owner.length c := by
  unfold Lay.hd
  split
  ·rename_i hn
   have := hK4.out.nil.2.2.1 hn
   rw [hown] at this
   rw [this]
   exact ⟨_, _, rfl⟩
  ·exact ⟨_, _, rfl⟩
 rw [hAc] at c2
 have HAC := zh hAc
 clear hBW hW t3 f3 a0' a1 hAc
 go_wp2_with fail
 go_loopg [23] k.owner.length (fun kk i wr => ∃ (j : Nat) (kj : Kn.K) (L2 : Lay), j ≤ k.owner.length ∧ i = .int .i64 j ∧ KM wr B kj L2 ∧ Sam L1 L2 ∧ Below B W wr ∧ Fine kj (M + j) ∧ kj.owner.length = k.owner.length ∧ kj.tasks.length = k.tasks.length ∧ Kn.K.gives m k.owner.length 0 k0 = Kn.K.gives m (k.owner.length - j) j kj ∧ k.owner.length - j ≤ kk)
 case atStart => exact ⟨0, k0, L1, Nat.zero_le _, rfl, hK4.out, Sam.refl _, zr _ _, HF4.out, hown, htl, rfl, by omega⟩
 case round =>
  obtain ⟨j, kj, L2, hj, rfl, hKj, hSj, hBj, hFj, hoj, htj, hgj, hkk⟩ := hrel
  have KJ := zh hKj
  have SJ := zh hSj
  have BJ := zh hBj
  have FJ := zh hFj
  have GJ := zh hgj
  have OJ := zh hoj
  have TJ := zh htj
  have hzj := hBj.size
  clear hKj hSj hBj hFj hgj hoj htj
  by_cases hlt : j < k.owner.length
  ·have hlt' : (j : Int) < k.owner.length := by omega
   have hjo : j < kj.owner.length := by rw [OJ.out]; exact hlt
   obtain ⟨hp1, _⟩ := hK4.out.mutexPtr (i := j) (by rw [hown]; exact hlt)
   obtain ⟨_, hp3⟩ := KJ.out.mutexPtr (i := j) hjo
   rw [hown, HAC.out] at hp1
   injection hp1 with eA1 _ eC1
   subst eA1
   have eM : L2.b .ma = L1.b .ma := SJ.out .ma rfl
   have eMj : L2.b (.m j) = L.b (.m j) := (SJ.out (.m j) rfl).trans (S1.out (.m j) rfl)
   have eK2 : L2.b .ker = L.b .ker := (SJ.out .ker rfl).trans (S1.out .ker rfl)
   rw [eM, eMj] at hp3
   have wm : Whole wr (L2.b (.m j)) 85 #[.int .i64 (kj.owner.getD j 0), L2.hd (.l (40 + j)) (kj.l (40 + j)).length] := KJ.out.cont (.m j) hjo
   rw [eMj] at wm
   have c0 : wr.cell? ⟨L.b (.m j), 0, none⟩ = some (.int .i64 (kj.owner.getD j 0)) := wm.cell 0
   have eo : Hid (kj.owner.getD j (-1) = kj.owner.getD j 0) := by show _ = _; simp [hjo]
   have hst : Hid (Kn.K.gives m (k.owner.length - j) j kj = Kn.K.gives m (k.owner.length - (j + 1)) (j + 1) (if kj.owner.getD j 0 = (m : Int) then kj.release j else kj)) := by
    show _ = _
    rw [show k.owner.length - j = (k.owner.length - (j + 1)) + 1 by omega, gives_step, eo.out]
   have HRL := zh (release_any (i := j) KJ.out FJ.out (by omega) hjo (by omega))
   unfold Lay.ptr at HRL
   rw [eK2, eMj] at HRL
   generalize kj.owner.getD j 0 = ow at *
   clear wm eC1 eM eMj eK2
   by_cases ho : ow = (m : Int)
   ·have ho2 : (ow == (m : Int)) = true := by simp [ho]
    have hst2 : Hid (Kn.K.gives m (k.owner.length - j) j kj = Kn.K.gives m (k.owner.length - (j + 1)) (j + 1) (kj.release j)) := by
     have := hst.out
     rw [if_pos ho] at this
     exact this
    subst ho
    go_wp2_with fail
    refine HRL.out.mono ?_
    rintro e w5 ⟨rfl, L5, k5, s5, b5⟩
    obtain ⟨ro1, ro2⟩ := release_owner kj j
    have RO1 := zh ro1
    have RO2 := zh ro2
    clear ro1 ro2
    go_wp2_with fail
    go_roundg (k.owner.length - (j + 1))
    case measure => omega
    case rel => exact ⟨j + 1, kj.release j, L5, by omega, by go_num, k5, SJ.out.trans s5, BJ.out.trans b5, FJ.out.release (by omega), RO1.out.trans OJ.out, RO2.out.trans TJ.out, GJ.out.trans hst2.out, zl _⟩
   ·have ho2 : (ow == (m : Int)) = false := by simp [ho]
    have hst2 : Hid (Kn.K.gives m (k.owner.length - j) j kj = Kn.K.gives m (k.owner.length - (j + 1)) (j + 1) kj) := by
     have := hst.out
     rw [if_neg ho] at this
     exact this
    clear hst
    go_wp2_with fail
    go_roundg (k.owner.length - (j + 1))
    case measure => omega
    case rel => exact ⟨j + 1, kj, L2, by omega, by go_num, KJ.out, SJ.out, BJ.out, FJ.out.more (by omega), OJ.out, TJ.out, GJ.out.trans hst2.out, zl _⟩
  ·have hge : ¬ (j : Int) < k.owner.length := by omega
   have hjl : k.owner.length - j = 0 := by omega
   have EG : Hid (k.fin m = kj) := by
    show _ = _
    rw [EF.out, GJ.out, hjl]
    rfl
   go_wp2_with fail
   go_end0
   rw [EG.out]
   exact ⟨rfl, L2, KJ.out, S1.out.trans SJ.out, HBW.out.trans BJ.out, FJ.out.more (by omega)⟩
end Go.Proofs.Ytncbgnpoffolcaa
/-! The calls: the walks of say and of those that only say. -/
namespace Go.Proofs.Ytncbgnpoffolcaa
open Go.RowKit
/-- A call as the program has it. -/
def callV (L : Lay) (m : Nat) (o : Kn.Op) : Value := .agg #[.pointer (some ⟨L.b .ker, 0, none⟩), .int .i64 m, .pointer (some ⟨L.b (.t m), 0, none⟩), .int .i64 o.kind, .int .i64 o.a, .int .i64 o.b]
theorem Fine.say {k : Kn.K} {M m : Nat} {a : Int} (h : Fine k M) (hm : m < k.tasks.length) : Fine (k.say m a) M :=
 h.task (i := m) (f := fun t => { t with answer := a }) (h.prio m hm) (fun x hx => h.on m x hm hx)
set_option maxRecDepth 100000 in
set_option maxHeartbeats 2000000 in
theorem say_near {w : World} {B : Nat} {k : Kn.K} {L : Lay} {m : Nat} {o : Kn.Op} (a : Int) (h : KM w B k L) (hm : m < k.tasks.length) (hB : B ≤ w.heap.size) :
 Calls Try.prog 83 #[callV L m o, .int .i64 a] w fun e w' => e = .returned (.tuple #[]) ∧ KM w' B (k.say m a) L ∧ Below B w w' ∧ ∀ g, g < w.heap.size → g ≠ L.b (.t m) → w'.heap[g]? = w.heap[g]? := by
 have hlt := h.lt (c := .t m) hm
 have hlow := h.low (.t m) hm
 have wt := h.task hm
 have t5 : w.cell? ⟨L.b (.t m), 5, none⟩ = some (.int .i64 (kT k m).answer) := wt.cell 5
 have f5 := wt.frozen 5
 have HK := zh h
 have WT := zh wt
 clear h wt
 unfold callV
 go_enter Try.func83, Try.ntmps83
 go_wp2_with fail
 go_end0
 have key : ∀ W : World, KM W B k L → Whole W (L.b (.t m)) 74 (taskCells k L m) → KM (W.setCell ⟨L.b (.t m), 5, none⟩ (.int .i64 a)) B (k.say m a) L := by
  intro W hK hw
  refine hK.setTask (f := fun t => { t with answer := a }) hm rfl rfl (fun g hg _ => zk _ _ _ _ hg) ?_
  have e : taskCells (k.setT m fun t => { t with answer := a }) L m = (taskCells k L m).setIfInBounds 5 (.int .i64 a) := by
   unfold taskCells
   rw [kT_set hm]
   rfl
  rw [e]
  exact hw.put 5 _
 have hz : B ≤ (w.setCell ⟨L.b (.t m), 5, none⟩ (.int .i64 a)).heap.size := by rw [World.size_setCell]; exact hB
 exact ⟨rfl, (key w HK.out WT.out).below ((zr _ _).alloc (zl _) _), ((zr B w).setCell (p := ⟨L.b (.t m), 5, none⟩) hlow _).alloc hz _, fun g hg hne => (zo _ _ g (by rw [World.size_setCell]; exact hg)).trans (zk _ _ _ _ hne)⟩
theorem say_any {w : World} {B : Nat} {k : Kn.K} {L : Lay} {m : Nat} {o : Kn.Op} (a : Int) (h : KM w B k L) (hm : m < k.tasks.length) (hB : B ≤ w.heap.size) :
 Calls Try.prog 83 #[callV L m o, .int .i64 a] w fun e w' => e = .returned (.tuple #[]) ∧ KM w' B (k.say m a) L ∧ Below B w w' :=
 (say_near a h hm hB).mono fun _ _ ⟨x, y, z, _⟩ => ⟨x, y, z⟩
set_option maxRecDepth 100000 in
theorem bad_any {w : World} {B : Nat} {k : Kn.K} {L : Lay} {m : Nat} {o : Kn.Op} (h : KM w B k L) (hm : m < k.tasks.length) (hB : B ≤ w.heap.size) :
 Calls Try.prog 70 #[callV L m o] w fun e w' => e = .returned (.tuple #[]) ∧ KM w' B (k.say m 5) L ∧ Below B w w' := by
 have hb : Below B w (w.alloc (.cells #[.pointer (some ⟨L.b .ker, 0, none⟩), .int .i64 m, .pointer (some ⟨L.b (.t m), 0, none⟩), .int .i64 o.kind, .int .i64 o.a, .int .i64 o.b] 112)) := (zr _ _).alloc hB _
 have hS := say_any (o := o) (5) (h.below ((zr w.heap.size w).alloc (zl _) (.cells #[.pointer (some ⟨L.b .ker, 0, none⟩), .int .i64 m, .pointer (some ⟨L.b (.t m), 0, none⟩), .int .i64 o.kind, .int .i64 o.a, .int .i64 o.b] 112))) hm (by simp; omega)
 have HS := zh hS
 clear h hS
 unfold callV at HS ⊢
 go_enter Try.func70, Try.ntmps70
 go_wp2_with fail
 refine HS.out.mono ?_
 rintro e w1 ⟨rfl, k1, b1⟩
 go_wp2_with fail
 go_end0
 exact ⟨rfl, k1, hb.trans b1⟩
set_option maxRecDepth 100000 in
theorem who_any {w : World} {B : Nat} {k : Kn.K} {L : Lay} {m : Nat} {o : Kn.Op} (h : KM w B k L) (hm : m < k.tasks.length) (hB : B ≤ w.heap.size) :
 Calls Try.prog 73 #[callV L m o] w fun e w' => e = .returned (.tuple #[]) ∧ KM w' B (k.say m m) L ∧ Below B w w' := by
 have hb : Below B w (w.alloc (.cells #[.pointer (some ⟨L.b .ker, 0, none⟩), .int .i64 m, .pointer (some ⟨L.b (.t m), 0, none⟩), .int .i64 o.kind, .int .i64 o.a, .int .i64 o.b] 112)) := (zr _ _).alloc hB _
 have hS := say_any (o := o) (m) (h.below ((zr w.heap.size w).alloc (zl _) (.cells #[.pointer (some ⟨L.b .ker, 0, none⟩), .int .i64 m, .pointer (some ⟨L.b (.t m), 0, none⟩), .int .i64 o.kind, .int .i64 o.a, .int .i64 o.b] 112))) hm (by simp; omega)
 have HS := zh hS
 clear h hS
 unfold callV at HS ⊢
 go_enter Try.func73, Try.ntmps73
 go_wp2_with fail
 refine HS.out.mono ?_
 rintro e w1 ⟨rfl, k1, b1⟩
 go_wp2_with fail
 go_end0
 exact ⟨rfl, k1, hb.trans b1⟩
set_option maxRecDepth 100000 in
set_option maxHeartbeats 2000000 in
theorem base_any {w : World} {B : Nat} {k : Kn.K} {L : Lay} {m : Nat} {o : Kn.Op} (h : KM w B k L) (hm : m < k.tasks.length) (hB : B ≤ w.heap.size) :
 Calls Try.prog 72 #[callV L m o] w fun e w' => e = .returned (.tuple #[]) ∧ KM w' B ((k.setT m fun t => { t with base := o.a }).say m 0) L ∧ Below B w w' := by
 have hlt := h.lt (c := .t m) hm
 have hlow := h.low (.t m) hm
 have wt := h.task hm
 have t1 : w.cell? ⟨L.b (.t m), 1, none⟩ = some (.int .i64 (kT k m).base) := wt.cell 1
 have f1 := wt.frozen 1
 have key : KM (w.setCell ⟨L.b (.t m), 1, none⟩ (.int .i64 o.a)) B (k.setT m fun t => { t with base := o.a }) L := by
  refine h.setTask (f := fun t => { t with base := o.a }) hm rfl rfl (fun g hg _ => zk _ _ _ _ hg) ?_
  have e : taskCells (k.setT m fun t => { t with base := o.a }) L m = (taskCells k L m).setIfInBounds 1 (.int .i64 o.a) := by
   unfold taskCells
   rw [kT_set hm]
   rfl
  rw [e]
  exact wt.put 1 _
 have hb0 : Below B w (w.setCell ⟨L.b (.t m), 1, none⟩ (.int .i64 o.a)) := (zr B w).setCell (p := ⟨L.b (.t m), 1, none⟩) hlow _
 have hz : B ≤ (w.setCell ⟨L.b (.t m), 1, none⟩ (.int .i64 o.a)).heap.size := by rw [World.size_setCell]; exact hB
 have hb := hb0.alloc hz (.cells #[.pointer (some ⟨L.b .ker, 0, none⟩), .int .i64 m, .pointer (some ⟨L.b (.t m), 0, none⟩), .int .i64 o.kind, .int .i64 o.a, .int .i64 o.b] 112)
 have HS := zh (say_any (o := o) 0 (key.below ((zr _ _).alloc (zl _) (.cells #[.pointer (some ⟨L.b .ker, 0, none⟩), .int .i64 m, .pointer (some ⟨L.b (.t m), 0, none⟩), .int .i64 o.kind, .int .i64 o.a, .int .i64 o.b] 112))) (by rw [setT_len]; exact hm) (by simp; omega))
 have HB := zh hb
 clear h wt key hb0 hb
 unfold callV at HS ⊢
 go_enter Try.func72, Try.ntmps72
 go_wp2_with fail
 refine HS.out.mono ?_
 rintro e w1 ⟨rfl, k1, b1⟩
 go_wp2_with fail
 go_end0
 exact ⟨rfl, k1, HB.out.trans b1⟩
end Go.Proofs.Ytncbgnpoffolcaa
/-! Does a task wait with a time? The walks of timed and what it calls. -/
namespace Go.Proofs.Ytncbgnpoffolcaa
open Go.RowKit
set_option maxRecDepth 100000 in
theorem timed1_any {w : World} {B : Nat} {k : Kn.K} {L : Lay} {m : Nat} (h : KM w B k L) (hm : m < k.tasks.length) :
 Calls Try.prog 54 #[L.ptr (.t m) 0] w fun e w' => e = .returned (.bool (decide ((kT k m).state = 1 ∧ 0 < (kT k m).left))) ∧ w = w' := by
 have wt := h.task hm
 have t3 : w.cell? ⟨L.b (.t m), 3, none⟩ = some (.int .i64 (kT k m).state) := wt.cell 3
 have t8 : w.cell? ⟨L.b (.t m), 8, none⟩ = some (.int .i64 (kT k m).left) := wt.cell 8
 generalize (kT k m).state = s at *
 generalize (kT k m).left = l at *
 clear h wt
 obtain ⟨r, hr⟩ : ∃ r, decide (s = 1 ∧ 0 < l) = r := ⟨_, rfl⟩
 rw [hr]
 unfold Lay.ptr
 by_cases hs : s = 1
 ·subst hs
  by_cases hl : 0 < l
  ·have E : Hid (r = true) := hr.symm.trans (zu ⟨rfl, hl⟩)
   clear hr
   go_enter Try.func54, Try.ntmps54
   go_wp2_with fail
   go_ret
   exact ⟨by rw [E.out]; rfl, rfl⟩
  ·have E : Hid (r = false) := hr.symm.trans (decide_eq_false (fun q => hl q.2))
   clear hr
   have hd : decide (0 < l) = false := decide_eq_false hl
   go_enter Try.func54, Try.ntmps54
   go_wp2_with fail
   go_ret
   exact ⟨by rw [E.out]; rfl, rfl⟩
 ·have hs2 : (s == 1) = false := by simp [hs]
  have E : Hid (r = false) := hr.symm.trans (decide_eq_false (fun q => hs q.1))
  clear hr
  go_enter Try.func54, Try.ntmps54
  go_wp2_with fail
  go_ret
  exact ⟨by rw [E.out]; rfl, rfl⟩
/-- Does a task wait with a time? -/
def Tm (k : Kn.K) (i : Nat) : Bool := decide ((kT k i).state = 1 ∧ 0 < (kT k i).left)
set_option maxRecDepth 100000 in
set_option maxHeartbeats 2000000 in
theorem indexFunc_any {w : World} {B : Nat} {k : Kn.K} {L : Lay} {c : Nat} (h : KM w B k L) (hn : k.tasks.length ≤ 1000) :
 Calls Try.prog 79 #[.slice (some ⟨L.b .ta, 0, none⟩) k.tasks.length c, .func (.func 54) #[] #[]] w fun e w' => ∃ r : Int, e = .returned (.int .i64 r) ∧ w = w' ∧ (r = -1 ∧ (∀ i, i < k.tasks.length → Tm k i = false) ∨ 0 ≤ r ∧ ∃ i, i < k.tasks.length ∧ Tm k i = true) := by
 have HK := zh h
 clear h
 go_enter Try.func79, Try.ntmps79
 go_wp2_with fail
 go_loopg [8] k.tasks.length (fun kk i wr => ∃ (j : Nat), j ≤ k.tasks.length ∧ i = .int .i64 j ∧ (∀ i, i < j → Tm k i = false) ∧ wr = w ∧ k.tasks.length - j ≤ kk)
 case atStart => exact ⟨0, Nat.zero_le _, rfl, by simp, rfl, by omega⟩
 case round =>
  obtain ⟨j, hj, rfl, hnn, rfl, hkk⟩ := hrel
  have HN := zh hnn
  clear hnn
  by_cases hlt : j < k.tasks.length
  ·have hlt' : (j : Int) < k.tasks.length := by omega
   have h1 := HK.out.taskPtr hlt
   have HT := zh (timed1_any HK.out hlt)
   unfold Lay.ptr at HT
   rcases hr : decide ((kT k j).state = 1 ∧ 0 < (kT k j).left) with _ | _
   ·rw [hr] at HT
    have hn2 : Hid (∀ i, i < j + 1 → Tm k i = false) := fun i hi => by
     by_cases e : i = j
     ·rw [e]
      exact hr
     ·exact HN.out i (by omega)
    clear hr
    go_wp2_with fail
    refine HT.out.mono ?_
    rintro e w2 ⟨rfl, rfl⟩
    go_wp2_with fail
    go_roundg (k.tasks.length - (j + 1))
    case measure => omega
    case rel => exact ⟨j + 1, by omega, by go_num, hn2.out, rfl, zl _⟩
   ·rw [hr] at HT
    have HR : Hid (Tm k j = true) := hr
    clear hr
    go_wp2_with fail
    refine HT.out.mono ?_
    rintro e w2 ⟨rfl, rfl⟩
    go_wp2_with fail
    go_ret
    exact ⟨j, rfl, rfl, .inr ⟨by omega, j, hlt, HR.out⟩⟩
  ·have hge : ¬ (j : Int) < k.tasks.length := by omega
   have hjl : j = k.tasks.length := by omega
   go_wp2_with fail
   go_ret
   exact ⟨-1, rfl, rfl, .inl ⟨rfl, fun i hi => HN.out i (by omega)⟩⟩
theorem kT_getElem {k : Kn.K} {i : Nat} (hi : i < k.tasks.length) : kT k i = k.tasks[i] := by
 unfold kT
 simp [hi]
theorem timed_true {k : Kn.K} {i : Nat} (hi : i < k.tasks.length) (h : Tm k i = true) : k.timed = true := by
 unfold Kn.K.timed
 rw [List.any_eq_true]
 refine ⟨k.tasks[i], List.getElem_mem hi, ?_⟩
 unfold Tm at h
 rw [kT_getElem hi] at h
 exact h
theorem timed_false {k : Kn.K} (h : ∀ i, i < k.tasks.length → Tm k i = false) : k.timed = false := by
 unfold Kn.K.timed
 rw [List.any_eq_false]
 intro t ht
 obtain ⟨i, hi, rfl⟩ := List.mem_iff_getElem.1 ht
 have := h i hi
 unfold Tm at this
 rw [kT_getElem hi] at this
 simpa using this
set_option maxRecDepth 100000 in
theorem containsFunc_any {w : World} {B : Nat} {k : Kn.K} {L : Lay} {c : Nat} (h : KM w B k L) (hn : k.tasks.length ≤ 1000) :
 Calls Try.prog 53 #[.slice (some ⟨L.b .ta, 0, none⟩) k.tasks.length c, .func (.func 54) #[] #[]] w fun e w' => e = .returned (.bool k.timed) ∧ w = w' := by
 have HI := zh (indexFunc_any (c := c) h hn)
 clear h
 go_enter Try.func53, Try.ntmps53
 go_wp2_with fail
 refine HI.out.mono ?_
 rintro e w2 ⟨r, rfl, rfl, hr⟩
 rcases hr with ⟨rfl, hr⟩ | ⟨hr0, i, hi, hr⟩
 ·have E := zh (timed_false hr)
  clear hr
  go_wp2_with fail
  go_ret
  exact ⟨by rw [E.out]; rfl, rfl⟩
 ·have E := zh (timed_true hi hr)
  clear hr
  go_wp2_with fail
  go_ret
  exact ⟨by rw [E.out]; rfl, rfl⟩
set_option maxRecDepth 100000 in
theorem timed_any {w : World} {B : Nat} {k : Kn.K} {L : Lay} (h : KM w B k L) (hn : k.tasks.length ≤ 1000) (h1 : 0 < k.tasks.length) :
 Calls Try.prog 41 #[L.ptr .ker 0] w fun e w' => e = .returned (.bool k.timed) ∧ w = w' := by
 have h0 := h.tasksHead h1
 have HC := zh (containsFunc_any (c := L.cap .ta) h hn)
 clear h
 unfold Lay.ptr
 go_enter Try.func41, Try.ntmps41
 go_wp2_with fail
 refine HC.out.mono ?_
 rintro e w2 ⟨rfl, rfl⟩
 go_wp2_with fail
 go_ret
 exact ⟨rfl, rfl⟩
end Go.Proofs.Ytncbgnpoffolcaa
/-! What holds of the kernel between its operations: each task stands where it should; the numbers are in their bounds. -/
namespace Go.Proofs.Ytncbgnpoffolcaa
namespace Kn
def K.ti (k : K) (i : Nat) : T := k.tasks.getD i noT
theorem t_nat (k : K) (i : Nat) : k.t (i : Int) = k.ti i := rfl
/-- A list of tasks. -/
def TL (x : Nat) : Prop := x < 48 ∨ 56 ≤ x ∧ x < 72
/-- Should the task stand in the list? -/
def Should (t : T) (y : Nat) : Prop := (y < 32 ∧ t.state = 0 ∧ t.prio = y) ∨ (32 ≤ y ∧ t.state = 1 ∧ t.on = some y)
/-- What may be waited for. -/
def K.OnOk (k : K) (x : Nat) : Prop := (∃ i, x = 32 + i ∧ i < k.sems.length) ∨ (∃ i, x = 40 + i ∧ i < k.owner.length) ∨ (∃ i, x = 56 + i ∧ i < k.size.length) ∨ (∃ i, x = 64 + i ∧ i < k.size.length)
structure Inv (k : K) : Prop where
 lens : k.lst.length = 72
 tasks : k.tasks.length ≤ 32
 few : k.sems.length ≤ 8 ∧ k.owner.length ≤ 8 ∧ k.size.length ≤ 8
 prio : ∀ i, i < k.tasks.length → 0 ≤ (k.ti i).prio ∧ (k.ti i).prio < 32
 state : ∀ i, i < k.tasks.length → (k.ti i).state = 0 ∨ (k.ti i).state = 1 ∨ (k.ti i).state = 2
 on : ∀ i x, i < k.tasks.length → (k.ti i).on = some x → (k.ti i).state = 1 ∧ k.OnOk x
 val : ∀ y, TL y → ∀ z ∈ k.l y, 0 ≤ z ∧ z < k.tasks.length
 mem : ∀ y, TL y → ∀ i, i < k.tasks.length → ((i : Int) ∈ k.l y ↔ Should (k.ti i) y)
 nodup : ∀ y, TL y → (k.l y).Nodup
/-- Ended tasks stay so; the sizes stay. -/
structure Mono (k k' : K) : Prop where
 tasks : k'.tasks.length = k.tasks.length
 sems : k'.sems.length = k.sems.length
 owner : k'.owner.length = k.owner.length
 size : k'.size = k.size
 ended : ∀ i, i < k.tasks.length → (k.ti i).state = 2 → (k'.ti i).state = 2
theorem Mono.refl (k : K) : Mono k k := ⟨rfl, rfl, rfl, rfl, fun _ _ h => h⟩
theorem Mono.trans {a b c : K} (h : Mono a b) (h' : Mono b c) : Mono a c :=
 ⟨h'.tasks.trans h.tasks, h'.sems.trans h.sems, h'.owner.trans h.owner, h'.size.trans h.size, fun i hi hs => h'.ended i (by rw [h.tasks]; exact hi) (h.ended i hi hs)⟩
section
variable {k k' : K}
theorem ti_setT {i j : Nat} {f : T → T} (hi : i < k.tasks.length) : (k.setT i f).ti j = if j = i then f (k.ti i) else k.ti j := by
 unfold K.ti K.setT
 by_cases h : j = i
 ·subst h
  simp [hi]
 ·rw [if_neg h]
  simp [Ne.symm h]
theorem l_setT {i : Int} {y : Nat} {f : T → T} : (k.setT i f).l y = k.l y := rfl
theorem len_setT {i : Int} {f : T → T} : (k.setT i f).tasks.length = k.tasks.length := by simp [K.setT]
theorem l_setL' {x y : Nat} {f : List Int → List Int} (hl : k.lst.length = 72) (hx : x < 72) : (k.setL x f).l y = if y = x then f (k.l x) else k.l y := by
 unfold K.setL K.l
 by_cases h : y = x
 ·subst h
  simp [hl, hx]
 ·rw [if_neg h]
  simp [Ne.symm h]
theorem lst_setL {x : Nat} {f : List Int → List Int} : (k.setL x f).lst.length = k.lst.length := by simp [K.setL]
theorem TL.lt {x : Nat} (h : TL x) : x < 72 := by unfold TL at h; omega
theorem K.OnOk.lt {x : Nat} (h : k.OnOk x) (hf : k.sems.length ≤ 8 ∧ k.owner.length ≤ 8 ∧ k.size.length ≤ 8) : TL x ∧ 32 ≤ x := by
 obtain ⟨f1, f2, f3⟩ := hf
 unfold TL
 rcases h with ⟨i, rfl, hi⟩ | ⟨i, rfl, hi⟩ | ⟨i, rfl, hi⟩ | ⟨i, rfl, hi⟩ <;> omega
theorem K.OnOk.keep {x : Nat} (h : k.OnOk x) (e1 : k'.sems.length = k.sems.length) (e2 : k'.owner.length = k.owner.length) (e3 : k'.size.length = k.size.length) : k'.OnOk x := by
 unfold K.OnOk
 rw [e1, e2, e3]
 exact h
/-- One task has moved. -/
theorem Inv.move {i : Nat} (h : Inv k) (m : Mono k k') (hlen : k'.lst.length = 72) (ht : ∀ j, j ≠ i → k'.ti j = k.ti j)
 (hp : i < k.tasks.length → 0 ≤ (k'.ti i).prio ∧ (k'.ti i).prio < 32) (hst : i < k.tasks.length → (k'.ti i).state = 0 ∨ (k'.ti i).state = 1 ∨ (k'.ti i).state = 2)
 (ho : ∀ x, i < k.tasks.length → (k'.ti i).on = some x → (k'.ti i).state = 1 ∧ k.OnOk x)
 (hm : ∀ y, TL y → ∀ z, z ≠ (i : Int) → (z ∈ k'.l y ↔ z ∈ k.l y)) (hi' : ∀ y, TL y → ((i : Int) ∈ k'.l y ↔ Should (k'.ti i) y)) (hnd : ∀ y, TL y → (k'.l y).Nodup) (hi : i < k.tasks.length) : Inv k' := by
 obtain ⟨m1, m2, m3, m4, _⟩ := m
 refine ⟨hlen, by rw [m1]; exact h.tasks, by rw [m2, m3, m4]; exact h.few, fun j hj => ?_, fun j hj => ?_, fun j x hj hx => ?_, fun y hy z hz => ?_, fun y hy j hj => ?_, hnd⟩
 ·rw [m1] at hj
  by_cases e : j = i
  ·subst e; exact hp hj
  ·rw [ht j e]; exact h.prio j hj
 ·rw [m1] at hj
  by_cases e : j = i
  ·subst e; exact hst hj
  ·rw [ht j e]; exact h.state j hj
 ·rw [m1] at hj
  have key : (k'.ti j).state = 1 ∧ k.OnOk x := by
   by_cases e : j = i
   ·subst e; exact ho x hj hx
   ·rw [ht j e] at hx ⊢; exact h.on j x hj hx
  exact ⟨key.1, key.2.keep m2 m3 (by rw [m4])⟩
 ·rw [m1]
  by_cases e : z = (i : Int)
  ·rw [e]; omega
  ·exact h.val y hy z ((hm y hy z e).1 hz)
 ·rw [m1] at hj
  by_cases e : j = i
  ·subst e; exact hi' y hy
  ·rw [hm y hy j (by omega), ht j e]; exact h.mem y hy j hj
/-- Nothing that stands anywhere has moved. -/
theorem Inv.frame (h : Inv k) (m : Mono k k') (hlst : k'.lst.length = 72) (hl : ∀ y, TL y → k'.l y = k.l y) (ht : ∀ j, j < k.tasks.length → (k'.ti j).prio = (k.ti j).prio ∧ (k'.ti j).state = (k.ti j).state ∧ (k'.ti j).on = (k.ti j).on) : Inv k' := by
 obtain ⟨m1, m2, m3, m4, _⟩ := m
 refine ⟨hlst, by rw [m1]; exact h.tasks, by rw [m2, m3, m4]; exact h.few, fun j hj => ?_, fun j hj => ?_, fun j x hj hx => ?_, fun y hy z hz => ?_, fun y hy j hj => ?_, fun y hy => by rw [hl y hy]; exact h.nodup y hy⟩
 ·rw [m1] at hj; rw [(ht j hj).1]; exact h.prio j hj
 ·rw [m1] at hj; rw [(ht j hj).2.1]; exact h.state j hj
 ·rw [m1] at hj
  rw [(ht j hj).2.2] at hx
  obtain ⟨q1, q2⟩ := h.on j x hj hx
  exact ⟨(ht j hj).2.1.trans q1, q2.keep m2 m3 (by rw [m4])⟩
 ·rw [m1]; rw [hl y hy] at hz; exact h.val y hy z hz
 ·rw [m1] at hj
  obtain ⟨e1, e2, e3⟩ := ht j hj
  rw [hl y hy, h.mem y hy j hj]
  unfold Should
  rw [e1, e2, e3]
theorem Should.one {t : T} {y y' : Nat} (h : Should t y) (h' : Should t y') : y = y' := by
 unfold Should at h h'
 rcases h with ⟨a, b, c⟩ | ⟨a, b, c⟩ <;> rcases h' with ⟨a', b', c'⟩ | ⟨a', b', c'⟩
 ·omega
 ·omega
 ·omega
 ·rw [c] at c'; exact Option.some.inj c'
theorem mem_erase_ne {l : List Int} {z n : Int} (h : z ≠ n) : z ∈ l.erase n ↔ z ∈ l := List.mem_erase_of_ne h
theorem not_mem_erase {l : List Int} {n : Int} (h : l.Nodup) : n ∉ l.erase n := h.not_mem_erase
theorem nodup_push {l : List Int} {n : Int} (h : l.Nodup) (hn : n ∉ l) : (l ++ [n]).Nodup := by
 rw [List.nodup_append]
 exact ⟨h, by simp, fun a ha b hb => by rw [List.mem_singleton.1 hb]; rintro rfl; exact hn ha⟩
/-- A list without a task that stood there, one list with it. -/
def K.moved (k : K) (x : Option Nat) (n : Int) (y : Option (Nat × Bool)) : K :=
 let k1 := match x with
  | some x => k.setL x (·.erase n)
  | none => k
 match y with
 | some (y, true) => k1.setL y (n :: ·)
 | some (y, false) => k1.setL y (· ++ [n])
 | none => k1
theorem moved_lst {x : Option Nat} {n : Int} {y : Option (Nat × Bool)} : (k.moved x n y).lst.length = k.lst.length := by
 unfold K.moved
 rcases x with _ | x <;> rcases y with _ | ⟨y, _ | _⟩ <;> simp [lst_setL]
theorem moved_mem {x : Option Nat} {n : Int} {y : Option (Nat × Bool)} (hl : k.lst.length = 72) (hx : ∀ a, x = some a → a < 72) (hy : ∀ a b, y = some (a, b) → a < 72) {z : Int} (hz : z ≠ n) (u : Nat) : z ∈ (k.moved x n y).l u ↔ z ∈ k.l u := by
 have h1 : ∀ k1 : K, k1.lst.length = 72 → (∀ u, z ∈ k1.l u ↔ z ∈ k.l u) → (z ∈ (match y with | some (y, true) => k1.setL y (n :: ·) | some (y, false) => k1.setL y (· ++ [n]) | none => k1).l u ↔ z ∈ k.l u) := by
  intro k1 hl1 hk1
  rcases y with _ | ⟨y, _ | _⟩
  ·exact hk1 u
  ·simp only []
   rw [l_setL' hl1 (hy y false rfl)]
   split
   ·rename_i e; subst e; simp [hz, hk1]
   ·exact hk1 u
  ·simp only []
   rw [l_setL' hl1 (hy y true rfl)]
   split
   ·rename_i e; subst e; simp [hz, hk1]
   ·exact hk1 u
 unfold K.moved
 rcases x with _ | x
 ·exact h1 k hl (fun _ => Iff.rfl)
 ·refine h1 _ (by rw [lst_setL]; exact hl) (fun u => ?_)
  rw [l_setL' hl (hx x rfl)]
  split
  ·rename_i e; subst e; exact mem_erase_ne hz
  ·exact Iff.rfl
/-- Where the task stands behind it: in the new list alone. -/
theorem moved_self {x : Option Nat} {n : Int} {y : Option (Nat × Bool)} (hl : k.lst.length = 72) (hx : ∀ a, x = some a → a < 72) (hy : ∀ a b, y = some (a, b) → a < 72) (hnd : ∀ u, TL u → (k.l u).Nodup) (hat : ∀ u, TL u → n ∈ k.l u → x = some u) {u : Nat} (hu : TL u) :
 (n ∈ (k.moved x n y).l u ↔ ∃ b, y = some (u, b)) ∧ ((k.moved x n y).l u).Nodup := by
 have h1 : ∀ k1 : K, k1.lst.length = 72 → (n ∉ k1.l u) → (k1.l u).Nodup → (n ∈ (match y with | some (y, true) => k1.setL y (n :: ·) | some (y, false) => k1.setL y (· ++ [n]) | none => k1).l u ↔ ∃ b, y = some (u, b)) ∧ ((match y with | some (y, true) => k1.setL y (n :: ·) | some (y, false) => k1.setL y (· ++ [n]) | none => k1).l u).Nodup := by
  intro k1 hl1 hn1 hnd1
  rcases y with _ | ⟨y, _ | _⟩
  ·exact ⟨⟨fun q => absurd q hn1, by rintro ⟨b, hb⟩; cases hb⟩, hnd1⟩
  ·simp only []
   rw [l_setL' hl1 (hy y false rfl)]
   split
   ·rename_i e; subst e
    exact ⟨⟨fun _ => ⟨false, rfl⟩, fun _ => by simp⟩, nodup_push hnd1 hn1⟩
   ·rename_i e
    exact ⟨⟨fun q => absurd q hn1, by rintro ⟨b, hb⟩; injection hb with hb; injection hb with hb; exact absurd hb.symm e⟩, hnd1⟩
  ·simp only []
   rw [l_setL' hl1 (hy y true rfl)]
   split
   ·rename_i e; subst e
    exact ⟨⟨fun _ => ⟨true, rfl⟩, fun _ => by simp⟩, List.nodup_cons.2 ⟨hn1, hnd1⟩⟩
   ·rename_i e
    exact ⟨⟨fun q => absurd q hn1, by rintro ⟨b, hb⟩; injection hb with hb; injection hb with hb; exact absurd hb.symm e⟩, hnd1⟩
 unfold K.moved
 rcases x with _ | x
 ·exact h1 k hl (fun q => by cases hat u hu q) (hnd u hu)
 ·refine h1 _ (by rw [lst_setL]; exact hl) ?_ ?_
  ·rw [l_setL' hl (hx x rfl)]
   split
   ·rename_i e; subst e; exact not_mem_erase (hnd _ hu)
   ·rename_i e
    intro q
    have := hat u hu q
    injection this with this
    exact e this.symm
  ·rw [l_setL' hl (hx x rfl)]
   split
   ·rename_i e; subst e; exact (hnd _ hu).erase n
   ·exact hnd u hu
end
end Kn
end Go.Proofs.Ytncbgnpoffolcaa
/-! Which tables may be: the bounds of each number. -/
namespace Go.Proofs.Ytncbgnpoffolcaa
namespace Kn
/-- An operation's bounds at a place: the greatest a, the least and the greatest b. -/
def bounds (kind at_ : Int) : Option (Int × Int × Int) :=
 if kind = 0 then some (255, 0, 0) else if kind = 2 then some (1000, 0, 0) else if kind = 3 then some (15, -1, 1000)
 else if kind = 4 ∨ kind = 5 ∨ kind = 6 ∨ kind = 8 then some (15, 0, 0) else if kind = 7 then some (15, 0, 1000)
 else if kind = 10 then some (at_ - 1, 1, 20) else if kind = 13 then some (31, 0, 0)
 else if kind = 1 ∨ kind = 9 ∨ kind = 11 ∨ kind = 12 ∨ kind = 14 then some (0, 0, 0) else Option.none
def Op.fits (o : Op) (at_ : Int) : Bool :=
 match bounds o.kind at_ with
 | some (a, l, b) => decide (0 ≤ o.a ∧ o.a ≤ a ∧ l ≤ o.b ∧ o.b ≤ b)
 | Option.none => false
def opsFit : List Op → Int → Bool
 | [], _ => true
 | o :: l, i => o.fits i && opsFit l (i + 1)
def Task.fits (t : Task) : Bool := decide (0 ≤ t.prio ∧ t.prio ≤ 31 ∧ t.ops.length ≤ 100) && opsFit t.ops 0
def Table.fits (t : Table) : Bool :=
 decide (1 ≤ t.tasks.length ∧ t.tasks.length ≤ 32 ∧ t.sems.length ≤ 8 ∧ 0 ≤ t.mutexes ∧ t.mutexes ≤ 8 ∧ t.queues.length ≤ 8) &&
 t.sems.all (fun n => decide (0 ≤ n ∧ n ≤ 100)) && t.queues.all (fun n => decide (1 ≤ n ∧ n ≤ 16)) && t.tasks.all Task.fits
theorem opsFit_at : ∀ (l : List Op) (i : Int) (j : Nat), opsFit l i = true → ∀ h : j < l.length, l[j].fits (i + j) = true
 | [], _, _, _, h => by simp at h
 | o :: l, i, 0, hf, _ => by
   simp [opsFit] at hf
   simpa using hf.1
 | o :: l, i, j + 1, hf, h => by
   simp [opsFit] at hf
   have := opsFit_at l (i + 1) j hf.2 (by simpa using h)
   simp only [List.getElem_cons_succ]
   rw [show i + ((j + 1 : Nat) : Int) = i + 1 + j by omega]
   exact this
/-- What an operation is that may be at a place. -/
theorem fits_cases {o : Op} {i : Int} (h : o.fits i = true) :
 (o.kind = 0 ∧ 0 ≤ o.a ∧ o.a ≤ 255) ∨ o.kind = 1 ∨ (o.kind = 2 ∧ 0 ≤ o.a ∧ o.a ≤ 1000) ∨ (o.kind = 3 ∧ 0 ≤ o.a ∧ o.a ≤ 15 ∧ -1 ≤ o.b ∧ o.b ≤ 1000) ∨
 ((o.kind = 4 ∨ o.kind = 5 ∨ o.kind = 6 ∨ o.kind = 8) ∧ 0 ≤ o.a ∧ o.a ≤ 15) ∨ (o.kind = 7 ∧ 0 ≤ o.a ∧ o.a ≤ 15 ∧ 0 ≤ o.b ∧ o.b ≤ 1000) ∨ (o.kind = 10 ∧ 0 ≤ o.a ∧ o.a ≤ i - 1 ∧ 1 ≤ o.b ∧ o.b ≤ 20) ∨
 (o.kind = 13 ∧ 0 ≤ o.a ∧ o.a ≤ 31) ∨ o.kind = 9 ∨ o.kind = 11 ∨ o.kind = 12 ∨ o.kind = 14 := by
 unfold Op.fits at h
 split at h
 ·rename_i a l b e
  have hd := of_decide_eq_true h
  unfold bounds at e
  repeat' split at e
  all_goals first
   | (simp at e; done)
   | (simp at e; obtain ⟨e1, e2, e3⟩ := e; omega)
 ·simp at h
end Kn
end Go.Proofs.Ytncbgnpoffolcaa
/-! Each step of the kernel keeps what holds between its operations. -/
namespace Go.Proofs.Ytncbgnpoffolcaa
namespace Kn
/-- The numbers of a task. -/
structure GT (t : T) : Prop where
 base : 0 ≤ t.base ∧ t.base < 32
 left : 0 ≤ t.left ∧ t.left ≤ 1000
 few : t.ops.length ≤ 100
 fits : ∀ j (h : j < t.ops.length), (t.ops[j]).fits j = true
 loops : t.loops.length = t.ops.length
 loop : ∀ c ∈ t.loops, 0 ≤ c ∧ c ≤ 20
 place : t.place ≤ t.ops.length
/-- The numbers of a kernel. -/
structure Good (k : K) : Prop where
 task : ∀ i, i < k.tasks.length → GT (k.ti i)
 sems : ∀ s ∈ k.sems, 0 ≤ s ∧ s ≤ 100
 owner : ∀ o ∈ k.owner, -1 ≤ o ∧ o < k.tasks.length
 size : ∀ s ∈ k.size, 1 ≤ s ∧ s ≤ 16
 que : ∀ x, 48 ≤ x → x < 56 → (k.l x).length ≤ 16
 out : k.out.length ≤ k.ops
structure Ok (k : K) : Prop where
 inv : Inv k
 good : Good k
section
variable {k k' : K}
/-- One task moves from a list to another. -/
theorem Ok.go {i : Nat} {x : Option Nat} {y : Option (Nat × Bool)} {f : T → T} (h : Ok k) (hi : i < k.tasks.length) (hx : ∀ u, TL u → (i : Int) ∈ k.l u → x = some u) (hxl : ∀ a, x = some a → TL a) (hyl : ∀ a b, y = some (a, b) → TL a)
 (e1 : k'.lst = (k.moved x i y).lst) (e2 : k'.tasks = (k.setT i f).tasks) (e3 : k'.sems = k.sems) (e4 : k'.owner = k.owner) (e5 : k'.size = k.size) (e6 : k'.out = k.out) (e7 : k'.ops = k.ops)
 (hp : 0 ≤ (f (k.ti i)).prio ∧ (f (k.ti i)).prio < 32) (hst : (f (k.ti i)).state = 0 ∨ (f (k.ti i)).state = 1 ∨ (f (k.ti i)).state = 2)
 (ho : ∀ x, (f (k.ti i)).on = some x → (f (k.ti i)).state = 1 ∧ k.OnOk x) (hs : ∀ u, TL u → ((∃ b, y = some (u, b)) ↔ Should (f (k.ti i)) u)) (hend : (k.ti i).state = 2 → (f (k.ti i)).state = 2) (hg : GT (f (k.ti i))) : Ok k' ∧ Mono k k' := by
 have hti : ∀ j, k'.ti j = if j = i then f (k.ti i) else k.ti j := fun j => by
  have := ti_setT (k := k) (i := i) (j := j) (f := f) hi
  unfold K.ti at this ⊢
  rw [e2]
  exact this
 have hlu : ∀ u, k'.l u = (k.moved x i y).l u := fun u => by unfold K.l; rw [e1]
 have hlen : k'.tasks.length = k.tasks.length := by rw [e2, len_setT]
 have hx72 : ∀ a, x = some a → a < 72 := fun a ha => (hxl a ha).lt
 have hy72 : ∀ a b, y = some (a, b) → a < 72 := fun a b ha => (hyl a b ha).lt
 have m : Mono k k' := ⟨hlen, by rw [e3], by rw [e4], e5, fun j _ h2 => by
  rw [hti]
  split
  ·rename_i e; subst e; exact hend h2
  ·exact h2⟩
 have hself := fun u (hu : TL u) => moved_self (k := k) (x := x) (n := (i : Int)) (y := y) h.inv.lens hx72 hy72 h.inv.nodup hx hu
 have hi' : k'.ti i = f (k.ti i) := by rw [hti, if_pos rfl]
 refine ⟨⟨h.inv.move (i := i) m (by rw [e1, moved_lst]; exact h.inv.lens) (fun j hj => by rw [hti, if_neg hj]) (fun _ => by rw [hi']; exact hp) (fun _ => by rw [hi']; exact hst) (fun x _ => by rw [hi']; exact ho x) (fun u hu z hz => by rw [hlu]; exact moved_mem h.inv.lens hx72 hy72 hz u) (fun u hu => by rw [hlu, hi', (hself u hu).1]; exact hs u hu) (fun u hu => by rw [hlu]; exact (hself u hu).2) hi, ?_⟩, m⟩
 refine ⟨fun j hj => ?_, by rw [e3]; exact h.good.sems, by rw [e4, hlen]; exact h.good.owner, by rw [e5]; exact h.good.size, fun u h1 h2 => ?_, by rw [e6, e7]; exact h.good.out⟩
 ·rw [hti]
  split
  ·exact hg
  ·rw [hlen] at hj; exact h.good.task j hj
 ·have hfar : ∀ a, TL a → u ≠ a := fun a ha => by unfold TL at ha; omega
  have : (k.moved x i y).l u = k.l u := by
   have g1 : ∀ k1 : K, k1.lst.length = 72 → k1.l u = k.l u → (match y with | some (y, true) => k1.setL y ((i : Int) :: ·) | some (y, false) => k1.setL y (· ++ [(i : Int)]) | none => k1).l u = k.l u := by
    intro k1 hl1 hk1
    rcases y with _ | ⟨y, _ | _⟩
    ·exact hk1
    ·simp only []
     rw [l_setL' hl1 (hy72 y false rfl), if_neg (hfar _ (hyl y false rfl))]; exact hk1
    ·simp only []
     rw [l_setL' hl1 (hy72 y true rfl), if_neg (hfar _ (hyl y true rfl))]; exact hk1
   unfold K.moved
   rcases x with _ | x
   ·exact g1 k h.inv.lens rfl
   ·exact g1 _ (by rw [lst_setL]; exact h.inv.lens) (by rw [l_setL' h.inv.lens (hx72 x rfl), if_neg (hfar _ (hxl x rfl))])
  rw [hlu, this]
  exact h.good.que u h1 h2
theorem row_TL {p : Nat} (h : p < 32) : TL p := by unfold TL; omega
/-- Numbers of one task turn that are of no account where it stands. -/
theorem Ok.task {i : Nat} {f : T → T} (h : Ok k) (hi : i < k.tasks.length) (e2 : k'.tasks = (k.setT i f).tasks) (e1 : k'.lst = k.lst) (e3 : k'.sems = k.sems) (e4 : k'.owner = k.owner) (e5 : k'.size = k.size) (e6 : k'.out = k.out) (e7 : k'.ops = k.ops)
 (hf : (f (k.ti i)).prio = (k.ti i).prio ∧ (f (k.ti i)).state = (k.ti i).state ∧ (f (k.ti i)).on = (k.ti i).on) (hg : GT (f (k.ti i))) : Ok k' ∧ Mono k k' := by
 have hti : ∀ j, k'.ti j = if j = i then f (k.ti i) else k.ti j := fun j => by
  have := ti_setT (k := k) (i := i) (j := j) (f := f) hi
  unfold K.ti at this ⊢
  rw [e2]
  exact this
 have hlen : k'.tasks.length = k.tasks.length := by rw [e2, len_setT]
 have hl : ∀ u, k'.l u = k.l u := fun u => by unfold K.l; rw [e1]
 have m : Mono k k' := ⟨hlen, by rw [e3], by rw [e4], e5, fun j _ hs => by
  rw [hti]
  split
  ·rename_i e; subst e; rw [hf.2.1]; exact hs
  ·exact hs⟩
 refine ⟨⟨h.inv.frame m (by rw [e1]; exact h.inv.lens) (fun u _ => hl u) (fun j hj => ?_), ⟨fun j hj => ?_, by rw [e3]; exact h.good.sems, by rw [e4, hlen]; exact h.good.owner, by rw [e5]; exact h.good.size, fun u h1 h2 => by rw [hl]; exact h.good.que u h1 h2, by rw [e6, e7]; exact h.good.out⟩⟩, m⟩
 ·rw [hti]
  split
  ·rename_i e; subst e; exact hf
  ·exact ⟨rfl, rfl, rfl⟩
 ·rw [hti]
  split
  ·exact hg
  ·rw [hlen] at hj; exact h.good.task j hj
/-- Other numbers of the kernel turn. -/
theorem Ok.nums (h : Ok k) (e2 : k'.tasks = k.tasks) (e1 : ∀ u, TL u → k'.l u = k.l u) (e0 : k'.lst.length = 72) (e3 : k'.sems.length = k.sems.length) (e4 : k'.owner.length = k.owner.length) (e5 : k'.size = k.size)
 (g1 : ∀ s ∈ k'.sems, 0 ≤ s ∧ s ≤ 100) (g2 : ∀ o ∈ k'.owner, -1 ≤ o ∧ o < k.tasks.length) (g3 : ∀ x, 48 ≤ x → x < 56 → (k'.l x).length ≤ 16) (g4 : k'.out.length ≤ k'.ops) : Ok k' ∧ Mono k k' := by
 have ht : ∀ j, k'.ti j = k.ti j := fun j => by unfold K.ti; rw [e2]
 have m : Mono k k' := ⟨by rw [e2], e3, e4, e5, fun j _ hs => by rw [ht]; exact hs⟩
 exact ⟨⟨h.inv.frame m e0 e1 (fun j _ => by rw [ht]; exact ⟨rfl, rfl, rfl⟩), ⟨fun j hj => by rw [ht]; rw [e2] at hj; exact h.good.task j hj, g1, by rw [e2]; exact g2, by rw [e5]; exact h.good.size, g3, g4⟩⟩, m⟩
theorem Inv.row_of (h : Inv k) {i : Nat} (hi : i < k.tasks.length) (hs : (k.ti i).state = 0) {u : Nat} (hu : TL u) (hm : (i : Int) ∈ k.l u) : some (k.ti i).prio.toNat = some u := by
 rcases (h.mem u hu i hi).1 hm with ⟨_, _, a⟩ | ⟨_, a, _⟩
 ·rw [a]; rfl
 ·omega
theorem Inv.que_of (h : Inv k) {i : Nat} (hi : i < k.tasks.length) (hs : (k.ti i).state = 1) {u : Nat} (hu : TL u) (hm : (i : Int) ∈ k.l u) : (k.ti i).on = some u := by
 rcases (h.mem u hu i hi).1 hm with ⟨_, a, _⟩ | ⟨_, _, a⟩
 ·omega
 ·exact a
theorem some_pair {a u : Nat} {c : Bool} : (∃ b, some (a, c) = some (u, b)) ↔ u = a := by
 constructor
 ·rintro ⟨b, hb⟩
  injection hb with hb
  injection hb with hb
  exact hb.symm
 ·rintro rfl
  exact ⟨c, rfl⟩
theorem Inv.prioRow (h : Inv k) {i : Nat} (hi : i < k.tasks.length) : (k.ti i).prio.toNat < 32 ∧ ((k.ti i).prio.toNat : Int) = (k.ti i).prio := by
 have := h.prio i hi
 omega
/-- A waiting task is woken. -/
theorem Ok.wake {i : Nat} {a : Int} (h : Ok k) (hi : i < k.tasks.length) (hs : (k.ti i).state = 1) : Ok (k.wake i a) ∧ Mono k (k.wake i a) := by
 obtain ⟨p1, p2⟩ := h.inv.prioRow hi
 have g := h.good.task i hi
 refine h.go (i := i) (x := (k.ti i).on) (y := some ((k.ti i).prio.toNat, false)) (f := fun t => { t with state := 0, answer := a, on := none, left := 0 }) hi (fun u hu hm => h.inv.que_of hi hs hu hm) (fun x hx => ((h.inv.on i x hi hx).2.lt h.inv.few).1) (fun x b hx => ?_) ?_ ?_ ?_ ?_ ?_ ?_ ?_ (h.inv.prio i hi) (.inl rfl) (fun x hx => by cases hx) (fun u hu => ?_) (fun q => by omega) ⟨g.base, by show (0:Int) ≤ 0 ∧ (0:Int) ≤ 1000; omega, g.few, g.fits, g.loops, g.loop, g.place⟩
 ·injection hx with hx
  injection hx with hx
  rw [← hx]; exact row_TL p1
 ·unfold K.wake K.moved
  rw [t_nat]
  have key : ∀ k1 : K, k1.tasks = k.tasks → ((k1.setT (i : Int) fun t => { t with state := 0, answer := a, on := none, left := 0 }).t (i : Int)).prio = (k.ti i).prio := fun k1 hk1 => by
   have hi1 : i < k1.tasks.length := by rw [hk1]; exact hi
   rw [t_nat, ti_setT hi1, if_pos rfl]
   show (k1.ti i).prio = _
   unfold K.ti; rw [hk1]
  rcases hon : (k.ti i).on with _ | x
  ·simp only []
   rw [key k rfl]
   rfl
  ·simp only []
   rw [key (k.setL x _) rfl]
   rfl
 ·unfold K.wake
  rw [t_nat]
  rcases (k.ti i).on with _ | x <;> rfl
 ·unfold K.wake; rcases (k.t i).on with _ | x <;> rfl
 ·unfold K.wake; rcases (k.t i).on with _ | x <;> rfl
 ·unfold K.wake; rcases (k.t i).on with _ | x <;> rfl
 ·unfold K.wake; rcases (k.t i).on with _ | x <;> rfl
 ·unfold K.wake; rcases (k.t i).on with _ | x <;> rfl
 ·rw [some_pair]
  unfold Should
  constructor
  ·rintro rfl
   exact .inl ⟨p1, rfl, p2.symm⟩
  ·rintro (⟨_, _, q⟩ | ⟨_, q, _⟩)
   ·show u = _
    have q' : (k.ti i).prio = u := q
    omega
   ·cases q
/-- A ready task waits. -/
theorem Ok.wait {i : Nat} {on : Option Nat} {left : Int} (h : Ok k) (hi : i < k.tasks.length) (hs : (k.ti i).state = 0) (ho : ∀ x, on = some x → k.OnOk x) (hl : 0 ≤ left ∧ left ≤ 1000) : Ok (k.wait i on left) ∧ Mono k (k.wait i on left) := by
 obtain ⟨p1, p2⟩ := h.inv.prioRow hi
 have g := h.good.task i hi
 refine h.go (i := i) (x := some (k.ti i).prio.toNat) (y := on.map fun x => (x, false)) (f := fun t => { t with state := 1, on := on, left := left }) hi (fun u hu hm => h.inv.row_of hi hs hu hm) (fun a ha => ?_) (fun a b ha => ?_) ?_ ?_ ?_ ?_ ?_ ?_ ?_ (h.inv.prio i hi) (.inr (.inl rfl)) (fun x hx => ⟨rfl, ho x hx⟩) (fun u hu => ?_) (fun q => by omega) ⟨g.base, hl, g.few, g.fits, g.loops, g.loop, g.place⟩
 ·injection ha with ha
  rw [← ha]; exact row_TL p1
 ·rcases on with _ | x
  ·cases ha
  ·injection ha with ha
   injection ha with ha
   rw [← ha]; exact ((ho x rfl).lt h.inv.few).1
 ·rcases on with _ | x <;> rfl
 ·rcases on with _ | x <;> rfl
 ·rcases on with _ | x <;> rfl
 ·rcases on with _ | x <;> rfl
 ·rcases on with _ | x <;> rfl
 ·rcases on with _ | x <;> rfl
 ·rcases on with _ | x <;> rfl
 ·unfold Should
  rcases on with _ | x
  ·constructor
   ·rintro ⟨b, hb⟩; cases hb
   ·rintro (⟨_, q, _⟩ | ⟨_, _, q⟩) <;> cases q
  ·show (∃ b, some (x, false) = some (u, b)) ↔ _
   rw [some_pair]
   constructor
   ·rintro rfl
    exact .inr ⟨((ho u rfl).lt h.inv.few).2, rfl, rfl⟩
   ·rintro (⟨_, q, _⟩ | ⟨_, _, q⟩)
    ·cases q
    ·injection q with q; exact q.symm
/-- A ready task goes to the end of its row. -/
theorem Ok.yield {i : Nat} (h : Ok k) (hi : i < k.tasks.length) (hs : (k.ti i).state = 0) : Ok (k.yield i) ∧ Mono k (k.yield i) := by
 obtain ⟨p1, p2⟩ := h.inv.prioRow hi
 have g := h.good.task i hi
 refine h.go (i := i) (x := some (k.ti i).prio.toNat) (y := some ((k.ti i).prio.toNat, false)) (f := fun t => { t with answer := 0 }) hi (fun u hu hm => h.inv.row_of hi hs hu hm) (fun a ha => ?_) (fun a b ha => ?_) rfl rfl rfl rfl rfl rfl rfl (h.inv.prio i hi) (h.inv.state i hi) (fun x hx => h.inv.on i x hi hx) (fun u hu => ?_) (fun q => q) ⟨g.base, g.left, g.few, g.fits, g.loops, g.loop, g.place⟩
 ·injection ha with ha
  rw [← ha]; exact row_TL p1
 ·injection ha with ha
  injection ha with ha
  rw [← ha]; exact row_TL p1
 ·rw [some_pair]
  unfold Should
  constructor
  ·rintro rfl
   exact .inl ⟨p1, hs, p2.symm⟩
  ·rintro (⟨_, _, q⟩ | ⟨_, q, _⟩)
   ·have q' : (k.ti i).prio = u := q
    omega
   ·have q' : (k.ti i).state = 1 := q
    omega
/-- A ready task ends (its mutexes apart). -/
theorem Ok.out {i : Nat} (h : Ok k) (hi : i < k.tasks.length) (hs : (k.ti i).state = 0) : Ok ((k.leave i).setT i fun t => { t with state := 2 }) ∧ Mono k ((k.leave i).setT i fun t => { t with state := 2 }) := by
 obtain ⟨p1, p2⟩ := h.inv.prioRow hi
 have g := h.good.task i hi
 refine h.go (i := i) (x := some (k.ti i).prio.toNat) (y := none) (f := fun t => { t with state := 2 }) hi (fun u hu hm => h.inv.row_of hi hs hu hm) (fun a ha => ?_) (fun a b ha => by cases ha) rfl rfl rfl rfl rfl rfl rfl (h.inv.prio i hi) (.inr (.inr rfl)) (fun x hx => ?_) (fun u hu => ?_) (fun _ => rfl) ⟨g.base, g.left, g.few, g.fits, g.loops, g.loop, g.place⟩
 ·injection ha with ha
  rw [← ha]; exact row_TL p1
 ·have := (h.inv.on i x hi hx).1
  omega
 ·unfold Should
  constructor
  ·rintro ⟨b, hb⟩; cases hb
  ·rintro (⟨_, q, _⟩ | ⟨_, q, _⟩) <;> cases q
/-- A ready task has another priority. -/
theorem Ok.row {i : Nat} {p : Int} {b : Bool} (h : Ok k) (hi : i < k.tasks.length) (hs : (k.ti i).state = 0) (hp : 0 ≤ p ∧ p < 32) :
 Ok (if b then ((k.leave i).setT i fun t => { t with prio := p }).setL p.toNat ((i : Int) :: ·) else ((k.leave i).setT i fun t => { t with prio := p }).setL p.toNat (· ++ [(i : Int)])) ∧
 Mono k (if b then ((k.leave i).setT i fun t => { t with prio := p }).setL p.toNat ((i : Int) :: ·) else ((k.leave i).setT i fun t => { t with prio := p }).setL p.toNat (· ++ [(i : Int)])) := by
 obtain ⟨p1, p2⟩ := h.inv.prioRow hi
 have g := h.good.task i hi
 refine h.go (i := i) (x := some (k.ti i).prio.toNat) (y := some (p.toNat, b)) (f := fun t => { t with prio := p }) hi (fun u hu hm => h.inv.row_of hi hs hu hm) (fun a ha => ?_) (fun a b ha => ?_) ?_ ?_ ?_ ?_ ?_ ?_ ?_ hp (h.inv.state i hi) (fun x hx => h.inv.on i x hi hx) (fun u hu => ?_) (fun q => q) ⟨g.base, g.left, g.few, g.fits, g.loops, g.loop, g.place⟩
 ·injection ha with ha
  rw [← ha]; exact row_TL p1
 ·injection ha with ha
  injection ha with ha
  rw [← ha]; exact row_TL (by omega)
 ·cases b <;> rfl
 ·cases b <;> rfl
 ·cases b <;> rfl
 ·cases b <;> rfl
 ·cases b <;> rfl
 ·cases b <;> rfl
 ·cases b <;> rfl
 ·rw [some_pair]
  unfold Should
  constructor
  ·rintro rfl
   exact .inl ⟨by omega, hs, by show p = _; omega⟩
  ·rintro (⟨_, _, q⟩ | ⟨_, q, _⟩)
   ·have q' : p = u := q
    omega
   ·have q' : (k.ti i).state = 1 := q
    omega
end
end Kn
end Go.Proofs.Ytncbgnpoffolcaa
/-! Releases, ends, priorities, ticks keep what holds between the kernel's operations. -/
namespace Go.Proofs.Ytncbgnpoffolcaa
namespace Kn
section
variable {k k' : K}
theorem bestOf_in (k : K) : ∀ (xs : List Int) (b : Int), k.bestOf xs b = b ∨ k.bestOf xs b ∈ xs
 | [], b => .inl rfl
 | n :: l, b => by
   rw [K.bestOf]
   by_cases h : b < 0 ∨ (k.t n).prio < (k.t b).prio
   ·rw [if_pos h]
    rcases bestOf_in k l n with h1 | h1
    ·rw [h1]
     exact .inr List.mem_cons_self
    ·exact .inr (List.mem_cons_of_mem _ h1)
   ·rw [if_neg h]
    rcases bestOf_in k l b with h1 | h1
    ·exact .inl h1
    ·exact .inr (List.mem_cons_of_mem _ h1)
/-- The best one of those that wait is none, or waits. -/
theorem Inv.best (h : Inv k) {x : Nat} (hx : TL x) (h32 : 32 ≤ x) : k.best (k.l x) = -1 ∨ ∃ i : Nat, k.best (k.l x) = i ∧ i < k.tasks.length ∧ (k.ti i).state = 1 ∧ (k.ti i).on = some x := by
 rcases bestOf_in k (k.l x) (-1) with e | e
 ·exact .inl e
 ·right
  obtain ⟨h0, h1⟩ := h.val x hx _ e
  obtain ⟨i, hi⟩ := Int.eq_ofNat_of_zero_le h0
  have hi' : k.best (k.l x) = i := hi
  refine ⟨i, hi', by omega, ?_⟩
  have hm : (i : Int) ∈ k.l x := by rw [← hi]; exact e
  rcases (h.mem x hx i (by omega)).1 hm with ⟨q, _, _⟩ | ⟨_, q1, q2⟩
  ·omega
  ·exact ⟨q1, q2⟩
theorem Ok.say {i : Nat} {a : Int} (h : Ok k) (hi : i < k.tasks.length) : Ok (k.say i a) ∧ Mono k (k.say i a) :=
 h.task (f := fun t => { t with answer := a }) hi rfl rfl rfl rfl rfl rfl rfl ⟨rfl, rfl, rfl⟩ (by
  have g := h.good.task i hi
  exact ⟨g.base, g.left, g.few, g.fits, g.loops, g.loop, g.place⟩)
theorem Ok.prio {i : Nat} {p : Int} (h : Ok k) (hi : i < k.tasks.length) (hs : (k.ti i).state ≠ 0) (hp : 0 ≤ p ∧ p < 32) : Ok (k.setT i fun t => { t with prio := p }) ∧ Mono k (k.setT i fun t => { t with prio := p }) := by
 have g := h.good.task i hi
 have hti : ∀ j, (k.setT i fun t => { t with prio := p }).ti j = if j = i then { k.ti i with prio := p } else k.ti j := fun j => ti_setT hi
 have m : Mono k (k.setT i fun t => { t with prio := p }) := ⟨len_setT, rfl, rfl, rfl, fun j _ h2 => by
  rw [hti]
  split
  ·rename_i e; subst e; exact h2
  ·exact h2⟩
 have hsh : ∀ u, Should { k.ti i with prio := p } u ↔ Should (k.ti i) u := fun u => by
  unfold Should
  constructor
  ·rintro (⟨_, q, _⟩ | q)
   ·exact absurd q hs
   ·exact .inr q
  ·rintro (⟨_, q, _⟩ | q)
   ·exact absurd q hs
   ·exact .inr q
 refine ⟨⟨h.inv.move (i := i) m h.inv.lens (fun j hj => by rw [hti, if_neg hj]) (fun _ => by rw [hti, if_pos rfl]; exact hp) (fun hi => by rw [hti, if_pos rfl]; exact h.inv.state i hi) (fun x hi => by rw [hti, if_pos rfl]; exact h.inv.on i x hi) (fun u hu z _ => Iff.rfl) (fun u hu => by rw [hti, if_pos rfl, hsh]; exact h.inv.mem u hu i hi) (fun u hu => h.inv.nodup u hu) hi, ⟨fun j hj => ?_, h.good.sems, ?_, h.good.size, h.good.que, h.good.out⟩⟩, m⟩
 ·rw [hti]
  split
  ·exact ⟨g.base, g.left, g.few, g.fits, g.loops, g.loop, g.place⟩
  ·rw [len_setT] at hj; exact h.good.task j hj
 ·rw [len_setT]; exact h.good.owner
theorem Ok.own {i : Nat} {b : Int} (h : Ok k) (hb : -1 ≤ b ∧ b < k.tasks.length) : Ok { k with owner := k.owner.set i b } ∧ Mono k { k with owner := k.owner.set i b } :=
 h.nums rfl (fun _ _ => rfl) h.inv.lens rfl (by simp) rfl h.good.sems (fun o ho => by
  rcases List.mem_or_eq_of_mem_set ho with q | q
  ·exact h.good.owner o q
  ·rw [q]; exact hb) h.good.que h.good.out
theorem Ok.release {i : Nat} (h : Ok k) (hi : i < 8) : Ok (k.release i) ∧ Mono k (k.release i) := by
 unfold K.release
 simp only []
 rcases h.inv.best (x := 40 + i) (by unfold TL; omega) (by omega) with e | ⟨j, e, hj, hs, _⟩
 ·rw [e]
  simp only [show ¬ ((0 : Int) ≤ -1) by omega, if_false]
  exact h.own (by omega)
 ·rw [e]
  rw [if_pos (by omega)]
  obtain ⟨h1, m1⟩ := h.own (i := i) (b := (j : Int)) (by omega)
  obtain ⟨h2, m2⟩ := h1.wake (i := j) (a := 0) hj hs
  exact ⟨h2, m1.trans m2⟩
theorem Ok.gives (n : Int) : ∀ (f i : Nat) (k : K), Ok k → i + f ≤ 8 → Ok (K.gives n f i k) ∧ Mono k (K.gives n f i k)
 | 0, _, k, h, _ => ⟨h, Mono.refl k⟩
 | f + 1, i, k, h, hf => by
   unfold K.gives
   split
   ·obtain ⟨h1, m1⟩ := h.release (i := i) (by omega)
    obtain ⟨h2, m2⟩ := Ok.gives n f (i + 1) _ h1 (by omega)
    exact ⟨h2, m1.trans m2⟩
   ·exact Ok.gives n f (i + 1) k h (by omega)
/-- A ready task ends. -/
theorem Ok.fin {i : Nat} (h : Ok k) (hi : i < k.tasks.length) (hs : (k.ti i).state = 0) : Ok (k.fin i) ∧ Mono k (k.fin i) ∧ ((k.fin i).ti i).state = 2 := by
 obtain ⟨h1, m1⟩ := h.out hi hs
 have e1 : (((k.leave i).setT i fun t => { t with state := 2 }).ti i).state = 2 := by
  rw [ti_setT (show i < (k.leave i).tasks.length from hi), if_pos rfl]
 obtain ⟨h2, m2⟩ := Ok.gives i ((k.leave i).setT i fun t => { t with state := 2 }).owner.length 0 _ h1 (by have := h1.inv.few; omega)
 exact ⟨h2, m1.trans m2, m2.ended i (by rw [m1.tasks]; exact hi) e1⟩
/-- Numbers of priorities. -/
def PL (n : Nat) (l : List Int) : Prop := l.length = n ∧ ∀ z ∈ l, 0 ≤ z ∧ z < 32
theorem PL.get {n : Nat} {l : List Int} (h : PL n l) (i : Nat) : 0 ≤ l.getD i 0 ∧ l.getD i 0 < 32 := by
 rw [zd]
 by_cases hi : i < l.length
 ·rw [List.getElem?_eq_getElem hi]
  exact h.2 _ (List.getElem_mem hi)
 ·rw [List.getElem?_eq_none (by omega)]
  simp
theorem PL.set {n : Nat} {l : List Int} (h : PL n l) {o : Nat} {v : Int} (hv : 0 ≤ v ∧ v < 32) : PL n (l.set o v) :=
 ⟨by rw [List.length_set]; exact h.1, fun z hz => by
  rcases List.mem_or_eq_of_mem_set hz with q | q
  ·exact h.2 z q
  ·rw [q]; exact hv⟩
theorem pass_PL (k : K) {n : Nat} : ∀ (ts : List T) (i : Nat) (l : List Int) (again : Bool), PL n l → PL n (k.pass ts i l again).1
 | [], _, _, _, h => h
 | t :: r, i, l, again, h => by
   unfold K.pass
   simp only []
   split
   ·exact pass_PL k r (i + 1) _ true (h.set (h.get i))
   ·exact pass_PL k r (i + 1) l again h
theorem prios_PL (k : K) {n : Nat} : ∀ (f : Nat) (l : List Int), PL n l → PL n (k.prios f l)
 | 0, _, h => h
 | f + 1, l, h => by
   unfold K.prios
   have := pass_PL k k.tasks 0 l false h
   split
   ·rename_i l' e; rw [e] at this; exact prios_PL k f l' this
   ·rename_i l' e; rw [e] at this; exact this
theorem Good.base (h : Good k) : PL k.tasks.length (k.tasks.map (·.base)) :=
 ⟨by simp, fun z hz => by
  obtain ⟨t, ht, rfl⟩ := List.mem_map.1 hz
  obtain ⟨i, hi, rfl⟩ := List.mem_iff_getElem.1 ht
  have := (h.task i hi).base
  unfold K.ti at this
  rwa [zd, List.getElem?_eq_getElem hi] at this⟩
theorem Good.priorities (h : Good k) : PL k.tasks.length k.priorities := prios_PL k _ _ h.base
theorem Ok.anewAt (last : Int) : ∀ (ps : List Int) (i : Nat) (k : K), Ok k → i + ps.length ≤ k.tasks.length → (∀ z ∈ ps, 0 ≤ z ∧ z < 32) → Ok (K.anewAt last ps i k) ∧ Mono k (K.anewAt last ps i k)
 | [], _, k, h, _, _ => ⟨h, Mono.refl k⟩
 | p :: r, i, k, h, hl, hp => by
   unfold K.anewAt
   simp only []
   rw [List.length_cons] at hl
   have hi : i < k.tasks.length := by omega
   have key : ∀ k1 : K, Ok k1 ∧ Mono k k1 → Ok (K.anewAt last r (i + 1) k1) ∧ Mono k (K.anewAt last r (i + 1) k1) := by
    rintro k1 ⟨h1, m1⟩
    obtain ⟨h2, m2⟩ := Ok.anewAt last r (i + 1) k1 h1 (by rw [m1.tasks]; omega) (fun z hz => hp z (List.mem_cons_of_mem _ hz))
    exact ⟨h2, m1.trans m2⟩
   have hp0 := hp p List.mem_cons_self
   split
   ·exact key k ⟨h, Mono.refl k⟩
   ·split
    ·rename_i hs
     exact key _ (h.prio hi (by rw [← t_nat]; exact hs) hp0)
    ·rename_i hs
     have hs0 : (k.ti i).state = 0 := by rw [← t_nat]; simpa using hs
     split
     ·exact key _ (h.row (b := true) hi hs0 hp0)
     ·exact key _ (h.row (b := false) hi hs0 hp0)
theorem Ok.anew (h : Ok k) (last : Int) : Ok (k.anew last) ∧ Mono k (k.anew last) :=
 Ok.anewAt last _ 0 k h (by rw [h.good.priorities.1]; omega) h.good.priorities.2
theorem Ok.tickAt : ∀ (f i : Nat) (k : K), Ok k → i + f ≤ k.tasks.length → Ok (K.tickAt f i k) ∧ Mono k (K.tickAt f i k)
 | 0, _, k, h, _ => ⟨h, Mono.refl k⟩
 | f + 1, i, k, h, hl => by
   unfold K.tickAt
   simp only []
   have hi : i < k.tasks.length := by omega
   have key : ∀ k1 : K, Ok k1 ∧ Mono k k1 → Ok (K.tickAt f (i + 1) k1) ∧ Mono k (K.tickAt f (i + 1) k1) := by
    rintro k1 ⟨h1, m1⟩
    obtain ⟨h2, m2⟩ := Ok.tickAt f (i + 1) k1 h1 (by rw [m1.tasks]; omega)
    exact ⟨h2, m1.trans m2⟩
   have g := h.good.task i hi
   split
   ·exact key k ⟨h, Mono.refl k⟩
   ·rename_i hc
    have hs : (k.ti i).state = 1 := by rw [← t_nat]; exact Decidable.byContradiction fun q => hc (.inl q)
    have hl0 : (k.ti i).left ≠ 0 := by rw [← t_nat]; exact fun q => hc (.inr q)
    have hb := g.left
    obtain ⟨h1, m1⟩ := h.task (k' := k.setT i fun t => { t with left := t.left - 1 }) (f := fun t => { t with left := t.left - 1 }) hi rfl rfl rfl rfl rfl rfl rfl ⟨rfl, rfl, rfl⟩ ⟨g.base, by show (0 : Int) ≤ (k.ti i).left - 1 ∧ (k.ti i).left - 1 ≤ 1000; omega, g.few, g.fits, g.loops, g.loop, g.place⟩
    split
    ·exact key _ ⟨h1, m1⟩
    ·obtain ⟨h2, m2⟩ := h1.wake (i := i) (a := if (k.t (i : Int)).on = none then 0 else 1) (by rw [m1.tasks]; exact hi) (by rw [ti_setT hi, if_pos rfl]; exact hs)
     exact key _ ⟨h2, m1.trans m2⟩
theorem Ok.tick (h : Ok k) : Ok k.tick ∧ Mono k k.tick := by
 unfold K.tick
 obtain ⟨h0, m0⟩ := h.nums (k' := { k with ticks := k.ticks + 1 }) rfl (fun _ _ => rfl) h.inv.lens rfl rfl rfl h.good.sems h.good.owner h.good.que h.good.out
 obtain ⟨h1, m1⟩ := Ok.tickAt k.tasks.length 0 _ h0 (by show 0 + k.tasks.length ≤ k.tasks.length; omega)
 obtain ⟨h2, m2⟩ := h1.anew (-1)
 exact ⟨h2, m0.trans (m1.trans m2)⟩
end
end Kn
end Go.Proofs.Ytncbgnpoffolcaa
/-! Each operation, and each round of the kernel, keeps what holds between them; a kernel stops. -/
namespace Go.Proofs.Ytncbgnpoffolcaa
namespace Kn
section
variable {k k' : K}
theorem mem_mod {l : List Int} {a : Nat} {f : Int → Int} {s : Int} (h : s ∈ l.modify a f) : s ∈ l ∨ ∃ h : a < l.length, s = f l[a] := by
 obtain ⟨j, hj, rfl⟩ := List.mem_iff_getElem.1 h
 rw [List.length_modify] at hj
 rw [List.getElem_modify]
 split
 ·rename_i e; subst e; exact .inr ⟨hj, rfl⟩
 ·exact .inl (List.getElem_mem hj)
theorem getD_at {l : List Int} {a : Nat} (h : a < l.length) (d : Int) : l.getD a d = l[a] := by simp [h]
theorem Ok.put (h : Ok k) (ho : k.out.length < k.ops) (a : Int) : Ok (k.put a) ∧ Mono k (k.put a) :=
 h.nums rfl (fun _ _ => rfl) h.inv.lens rfl rfl rfl h.good.sems h.good.owner h.good.que (by show (k.out ++ [_]).length ≤ k.ops; simp; omega)
theorem Ok.semsMod (h : Ok k) {a : Nat} {f : Int → Int} (hf : ∀ h : a < k.sems.length, 0 ≤ f k.sems[a] ∧ f k.sems[a] ≤ 100) : Ok { k with sems := k.sems.modify a f } ∧ Mono k { k with sems := k.sems.modify a f } :=
 h.nums rfl (fun _ _ => rfl) h.inv.lens (by simp) rfl rfl (fun s hs => by
  rcases mem_mod hs with q | ⟨q, rfl⟩
  ·exact h.good.sems s q
  ·exact hf q) h.good.owner h.good.que h.good.out
theorem Ok.queSet (h : Ok k) {a : Nat} (ha : a < 8) {f : List Int → List Int} (hf : (f (k.l (48 + a))).length ≤ 16) : Ok (k.setL (48 + a) f) ∧ Mono k (k.setL (48 + a) f) :=
 h.nums rfl (fun u hu => by
  rw [l_setL' h.inv.lens (by omega), if_neg]
  rintro rfl
  unfold TL at hu
  omega) (by rw [lst_setL]; exact h.inv.lens) rfl rfl rfl h.good.sems h.good.owner (fun x h1 h2 => by
  rw [l_setL' h.inv.lens (by omega)]
  split
  ·exact hf
  ·exact h.good.que x h1 h2) h.good.out
theorem Ok.value {i : Nat} {v : Int} (h : Ok k) (hi : i < k.tasks.length) : Ok (k.setT i fun t => { t with value := v }) ∧ Mono k (k.setT i fun t => { t with value := v }) :=
 h.task (f := fun t => { t with value := v }) hi rfl rfl rfl rfl rfl rfl rfl ⟨rfl, rfl, rfl⟩ (by
  have g := h.good.task i hi
  exact ⟨g.base, g.left, g.few, g.fits, g.loops, g.loop, g.place⟩)
theorem say_ti {i j : Nat} {a : Int} (hi : i < k.tasks.length) : ((k.say i a).ti j).state = (k.ti j).state ∧ ((k.say i a).ti j).on = (k.ti j).on ∧ ((k.say i a).ti j).prio = (k.ti j).prio := by
 unfold K.say
 rw [ti_setT hi]
 split
 ·rename_i e; subst e; exact ⟨rfl, rfl, rfl⟩
 ·exact ⟨rfl, rfl, rfl⟩
theorem Ok.delay {i : Nat} {o : Op} (h : Ok k) (hi : i < k.tasks.length) (hs : (k.ti i).state = 0) (hb : 0 ≤ o.a ∧ o.a ≤ 1000) : Ok (k.delay i o) ∧ Mono k (k.delay i o) := by
 unfold K.delay
 split
 ·exact h.yield hi hs
 ·exact h.wait hi hs (fun x hx => by cases hx) hb
theorem Ok.take {i : Nat} {o : Op} (h : Ok k) (hi : i < k.tasks.length) (hs : (k.ti i).state = 0) (hb : o.b ≤ 1000) : Ok (k.take i o) ∧ Mono k (k.take i o) := by
 unfold K.take
 split
 ·exact h.say hi
 rename_i hlt
 have ha : o.a.toNat < k.sems.length := by omega
 split
 ·rename_i hpos
  rw [getD_at ha] at hpos
  have hb := h.good.sems _ (List.getElem_mem ha)
  obtain ⟨h1, m1⟩ := h.semsMod (a := o.a.toNat) (f := (· - 1)) (fun q => by show 0 ≤ k.sems[o.a.toNat] - 1 ∧ k.sems[o.a.toNat] - 1 ≤ 100; omega)
  obtain ⟨h2, m2⟩ := h1.say (i := i) (a := 0) hi
  exact ⟨h2, m1.trans m2⟩
 split
 ·exact h.say hi
 ·refine h.wait hi hs (fun x hx => ?_) ?_
  ·injection hx with hx
   exact .inl ⟨_, hx.symm, ha⟩
  ·split <;> omega
theorem Ok.give {i : Nat} {o : Op} (h : Ok k) (hi : i < k.tasks.length) : Ok (k.give i o) ∧ Mono k (k.give i o) := by
 have hfew := h.inv.few
 unfold K.give
 split
 ·exact h.say hi
 rename_i hlt
 have ha : o.a.toNat < k.sems.length := by omega
 obtain ⟨h1, m1⟩ := h.say (i := i) (a := 0) hi
 rcases h1.inv.best (x := 32 + o.a.toNat) (by unfold TL; omega) (by omega) with e1 | ⟨j, e1, hj, hsj, _⟩
 ·have e1' : (k.say i 0).best (k.l (32 + o.a.toNat)) = -1 := e1
  rw [e1']
  unfold K.give1
  rw [if_neg (by omega)]
  split
  ·obtain ⟨h2, m2⟩ := h1.say (i := i) (a := 4) (by rw [m1.tasks]; exact hi)
   exact ⟨h2, m1.trans m2⟩
  ·rename_i hle
   have ha1 : o.a.toNat < (k.say (i : Int) 0).sems.length := ha
   rw [getD_at ha1] at hle
   obtain ⟨h2, m2⟩ := h1.semsMod (a := o.a.toNat) (f := (· + 1)) (fun q => by
    have hb := h1.good.sems _ (List.getElem_mem ha1)
    show 0 ≤ (k.say (i : Int) 0).sems[o.a.toNat] + 1 ∧ (k.say (i : Int) 0).sems[o.a.toNat] + 1 ≤ 100
    omega)
   exact ⟨h2, m1.trans m2⟩
 ·have e1' : (k.say i 0).best (k.l (32 + o.a.toNat)) = j := e1
  rw [e1']
  unfold K.give1
  rw [if_pos (by omega)]
  obtain ⟨h2, m2⟩ := h1.wake (i := j) (a := 0) hj hsj
  exact ⟨h2, m1.trans m2⟩
theorem Ok.lock {i : Nat} {o : Op} (h : Ok k) (hi : i < k.tasks.length) (hs : (k.ti i).state = 0) : Ok (k.lock i o) ∧ Mono k (k.lock i o) := by
 unfold K.lock
 split
 ·exact h.say hi
 rename_i hlt
 have ha : o.a.toNat < k.owner.length := by omega
 split
 ·obtain ⟨h1, m1⟩ := h.own (i := o.a.toNat) (b := (i : Int)) (by omega)
  obtain ⟨h2, m2⟩ := h1.say (i := i) (a := 0) hi
  exact ⟨h2, m1.trans m2⟩
 split
 ·exact h.say hi
 ·refine h.wait hi hs (fun x hx => ?_) (by omega)
  injection hx with hx
  exact .inr (.inl ⟨_, hx.symm, ha⟩)
theorem Ok.unlock {i : Nat} {o : Op} (h : Ok k) (hi : i < k.tasks.length) : Ok (k.unlock i o) ∧ Mono k (k.unlock i o) := by
 have hfew := h.inv.few
 unfold K.unlock
 split
 ·exact h.say hi
 split
 ·exact h.say hi
 ·obtain ⟨h1, m1⟩ := h.say (i := i) (a := 0) hi
  obtain ⟨h2, m2⟩ := h1.release (i := o.a.toNat) (by omega)
  exact ⟨h2, m1.trans m2⟩
theorem Ok.send {i : Nat} {o : Op} (h : Ok k) (hi : i < k.tasks.length) (hs : (k.ti i).state = 0) : Ok (k.send i o) ∧ Mono k (k.send i o) := by
 have hfew := h.inv.few
 unfold K.send
 split
 ·exact h.say hi
 rename_i hlt
 have ha : o.a.toNat < k.size.length := by omega
 unfold K.send1
 rcases h.inv.best (x := 64 + o.a.toNat) (by unfold TL; omega) (by omega) with e1 | ⟨j, e1, hj, hsj, _⟩
 ·rw [e1]
  rw [if_neg (by omega)]
  split
  ·rename_i hle
   rw [getD_at ha] at hle
   have hb := h.good.size _ (List.getElem_mem ha)
   obtain ⟨h1, m1⟩ := h.queSet (a := o.a.toNat) (f := (· ++ [o.b])) (by omega) (by show (k.l (48 + o.a.toNat) ++ [o.b]).length ≤ 16; simp; omega)
   obtain ⟨h2, m2⟩ := h1.say (i := i) (a := 0) hi
   exact ⟨h2, m1.trans m2⟩
  ·obtain ⟨h1, m1⟩ := h.value (i := i) (v := o.b) hi
   obtain ⟨h2, m2⟩ := h1.wait (i := i) (on := some (56 + o.a.toNat)) (left := 0) (by rw [m1.tasks]; exact hi) (by rw [ti_setT hi, if_pos rfl]; exact hs) (fun x hx => by
    injection hx with hx
    exact .inr (.inr (.inl ⟨_, hx.symm, ha⟩))) (by omega)
   exact ⟨h2, m1.trans m2⟩
 ·rw [e1]
  rw [if_pos (by omega)]
  obtain ⟨h1, m1⟩ := h.wake (i := j) (a := o.b) hj hsj
  obtain ⟨h2, m2⟩ := h1.say (i := i) (a := 0) (by rw [m1.tasks]; exact hi)
  exact ⟨h2, m1.trans m2⟩
theorem Ok.recv {i : Nat} {o : Op} (h : Ok k) (hi : i < k.tasks.length) (hs : (k.ti i).state = 0) : Ok (k.recv i o) ∧ Mono k (k.recv i o) := by
 have hfew := h.inv.few
 unfold K.recv
 split
 ·exact h.say hi
 rename_i hlt
 have ha : o.a.toNat < k.size.length := by omega
 split
 ·refine h.wait hi hs (fun x hx => ?_) (by omega)
  injection hx with hx
  exact .inr (.inr (.inr ⟨_, hx.symm, ha⟩))
 ·rename_i x r hl
  have hq := h.good.que (48 + o.a.toNat) (by omega) (by omega)
  rw [hl] at hq
  rw [List.length_cons] at hq
  obtain ⟨h0, m0⟩ := h.say (i := i) (a := x) hi
  obtain ⟨h1, m1⟩ := h0.queSet (a := o.a.toNat) (f := fun _ => r) (by omega) (by show r.length ≤ 16; omega)
  have hl1 : ((k.say i x).setL (48 + o.a.toNat) fun _ => r).l (48 + o.a.toNat) = r := by rw [l_setL' h0.inv.lens (by omega), if_pos rfl]
  have hl2 : ((k.say i x).setL (48 + o.a.toNat) fun _ => r).l (56 + o.a.toNat) = k.l (56 + o.a.toNat) := by rw [l_setL' h0.inv.lens (by omega), if_neg (by omega)]; rfl
  unfold K.recv1 K.recv2
  rw [← hl2]
  rcases h1.inv.best (x := 56 + o.a.toNat) (by unfold TL; omega) (by omega) with e1 | ⟨j, e1, hj, hsj, _⟩
  ·rw [e1]
   rw [if_neg (by omega)]
   exact ⟨h1, m0.trans m1⟩
  ·rw [e1]
   rw [if_pos (by omega)]
   obtain ⟨h2, m2⟩ := h1.queSet (a := o.a.toNat) (f := (· ++ [((((k.say i x).setL (48 + o.a.toNat) fun _ => r)).t j).value])) (by omega) (by
    show (_ ++ [_]).length ≤ 16
    rw [hl1]
    simp
    omega)
   obtain ⟨h3, m3⟩ := h2.wake (i := j) (a := 0) hj hsj
   exact ⟨h3, m0.trans (m1.trans (m2.trans m3))⟩
theorem Ok.loop {i : Nat} {o : Op} (h : Ok k) (hi : i < k.tasks.length) (hb : 0 ≤ o.a ∧ o.a ≤ (((k.ti i).place - 1 : Nat) : Int) - 1 ∧ o.b ≤ 20) : Ok (k.loop i o) ∧ Mono k (k.loop i o) := by
 have g := h.good.task i hi
 have hpl := g.place
 unfold K.loop
 split
 ·rename_i hc
  rw [t_nat] at hc
  refine h.task (f := fun t => { t with loops := t.loops.modify ((k.t i).place - 1) (· + 1), place := o.a.toNat }) hi rfl rfl rfl rfl rfl rfl rfl ⟨rfl, rfl, rfl⟩ ⟨g.base, g.left, g.few, g.fits, ?_, ?_, ?_⟩
  ·show ((k.ti i).loops.modify _ _).length = _
   rw [List.length_modify]; exact g.loops
  ·intro c hcm
   rcases List.mem_iff_getElem.1 hcm with ⟨j, hj, rfl⟩
   have hj' : j < (k.ti i).loops.length := by
    have : j < ((k.ti i).loops.modify ((k.t i).place - 1) (· + 1)).length := hj
    rwa [List.length_modify] at this
   show 0 ≤ ((k.ti i).loops.modify ((k.t i).place - 1) (· + 1))[j]'(by rw [List.length_modify]; exact hj') ∧ _ ≤ _
   have hm := g.loop _ (List.getElem_mem hj')
   have he : ((k.ti i).loops.modify ((k.t i).place - 1) (· + 1))[j]'(by rw [List.length_modify]; exact hj') = if (k.t i).place - 1 = j then (k.ti i).loops[j] + 1 else (k.ti i).loops[j] := List.getElem_modify ..
   have hx : 0 ≤ (if (k.t i).place - 1 = j then (k.ti i).loops[j] + 1 else (k.ti i).loops[j]) ∧ (if (k.t i).place - 1 = j then (k.ti i).loops[j] + 1 else (k.ti i).loops[j]) ≤ 20 := by
    split
    ·rename_i e2
     rw [t_nat] at e2
     rw [e2, getD_at hj'] at hc
     omega
    ·exact hm
   rw [← he] at hx
   exact hx
  ·show o.a.toNat ≤ (k.ti i).ops.length
   omega
 ·refine h.task (f := fun t => { t with loops := t.loops.set ((k.t i).place - 1) 0 }) hi rfl rfl rfl rfl rfl rfl rfl ⟨rfl, rfl, rfl⟩ ⟨g.base, g.left, g.few, g.fits, ?_, ?_, g.place⟩
  ·show ((k.ti i).loops.set _ _).length = _
   rw [List.length_set]; exact g.loops
  ·intro c hcm
   rcases List.mem_or_eq_of_mem_set hcm with q | q
   ·exact g.loop c q
   ·rw [q]; omega
theorem Ok.setBase {i : Nat} {o : Op} (h : Ok k) (hi : i < k.tasks.length) (hb : 0 ≤ o.a ∧ o.a < 32) : Ok (k.setBase i o) ∧ Mono k (k.setBase i o) := by
 have g := h.good.task i hi
 obtain ⟨h1, m1⟩ := h.task (k' := k.setT i fun t => { t with base := o.a }) (f := fun t => { t with base := o.a }) hi rfl rfl rfl rfl rfl rfl rfl ⟨rfl, rfl, rfl⟩ ⟨hb, g.left, g.few, g.fits, g.loops, g.loop, g.place⟩
 obtain ⟨h2, m2⟩ := h1.say (i := i) (a := 0) (by rw [m1.tasks]; exact hi)
 exact ⟨h2, m1.trans m2⟩
/-- An operation keeps all. -/
theorem Ok.act {i : Nat} {o : Op} (h : Ok k) (hi : i < k.tasks.length) (hs : (k.ti i).state = 0) (ho : k.out.length < k.ops) (hf : o.fits (((k.ti i).place - 1 : Nat) : Int) = true) : Ok (k.act i o) ∧ Mono k (k.act i o) := by
 have hc := fits_cases hf
 unfold K.act
 by_cases k0 : o.kind = 0
 ·rw [if_pos k0]
  exact h.put ho _
 rw [if_neg k0]
 by_cases k1 : o.kind = 1
 ·rw [if_pos k1]
  exact h.yield hi hs
 rw [if_neg k1]
 by_cases k2 : o.kind = 2
 ·rw [if_pos k2]
  exact h.delay hi hs (by omega)
 rw [if_neg k2]
 by_cases k3 : o.kind = 3
 ·rw [if_pos k3]
  exact h.take hi hs (by omega)
 rw [if_neg k3]
 by_cases k4 : o.kind = 4
 ·rw [if_pos k4]
  exact h.give hi
 rw [if_neg k4]
 by_cases k5 : o.kind = 5
 ·rw [if_pos k5]
  exact h.lock hi hs
 rw [if_neg k5]
 by_cases k6 : o.kind = 6
 ·rw [if_pos k6]
  exact h.unlock hi
 rw [if_neg k6]
 by_cases k7 : o.kind = 7
 ·rw [if_pos k7]
  exact h.send hi hs
 rw [if_neg k7]
 by_cases k8 : o.kind = 8
 ·rw [if_pos k8]
  exact h.recv hi hs
 rw [if_neg k8]
 by_cases k9 : o.kind = 9
 ·rw [if_pos k9]
  exact h.put ho _
 rw [if_neg k9]
 by_cases k10 : o.kind = 10
 ·rw [if_pos k10]
  exact h.loop hi (by omega)
 rw [if_neg k10]
 by_cases k11 : o.kind = 11
 ·rw [if_pos k11]
  exact h.say hi
 rw [if_neg k11]
 by_cases k12 : o.kind = 12
 ·rw [if_pos k12]
  obtain ⟨h1, m1⟩ := h.put ho 33
  obtain ⟨h2, m2, _⟩ := h1.fin (i := i) hi hs
  exact ⟨h2, m1.trans m2⟩
 rw [if_neg k12]
 by_cases k13 : o.kind = 13
 ·rw [if_pos k13]
  exact h.setBase hi (by omega)
 rw [if_neg k13]
 exact h.say hi
theorem do_eq (k : K) (n : Int) : k.do_ n = (k.setT n fun t => { t with place := t.place + 1 }).act n ((k.t n).ops.getD (k.t n).place ⟨0, 0, 0⟩) := rfl
/-- The task's next operation. -/
theorem Ok.do_ {i : Nat} (h : Ok k) (hi : i < k.tasks.length) (hs : (k.ti i).state = 0) (ho : k.out.length < k.ops) (hp : (k.ti i).place < (k.ti i).ops.length) : Ok (k.do_ i) ∧ Mono k (k.do_ i) := by
 have g := h.good.task i hi
 rw [do_eq, t_nat]
 obtain ⟨h1, m1⟩ := h.task (k' := k.setT i fun t => { t with place := t.place + 1 }) (f := fun t => { t with place := t.place + 1 }) hi rfl rfl rfl rfl rfl rfl rfl ⟨rfl, rfl, rfl⟩ ⟨g.base, g.left, g.few, g.fits, g.loops, g.loop, by show (k.ti i).place + 1 ≤ (k.ti i).ops.length; omega⟩
 have e : (k.setT i fun t => { t with place := t.place + 1 }).ti i = { k.ti i with place := (k.ti i).place + 1 } := by rw [ti_setT hi, if_pos rfl]
 obtain ⟨h2, m2⟩ := h1.act (i := i) (o := (k.ti i).ops.getD (k.ti i).place ⟨0, 0, 0⟩) (by rw [m1.tasks]; exact hi) (by rw [e]; exact hs) ho (by
  rw [e]
  show ((k.ti i).ops.getD (k.ti i).place ⟨0, 0, 0⟩).fits ((((k.ti i).place + 1) - 1 : Nat) : Int) = true
  rw [Nat.add_sub_cancel, zd, List.getElem?_eq_getElem hp]
  exact g.fits _ hp)
 exact ⟨h2, m1.trans m2⟩
theorem first_mem : ∀ ls : List (List Int), first ls = -1 ∨ ∃ j, j < ls.length ∧ first ls ∈ ls.getD j []
 | [] => .inl rfl
 | [] :: r => by
   rcases first_mem r with h | ⟨j, hj, h⟩
   ·exact .inl h
   ·exact .inr ⟨j + 1, by rw [List.length_cons]; omega, h⟩
 | (x :: l) :: r => .inr ⟨0, by simp, by simp [first]⟩
/-- What runs is none, or a task that is ready. -/
theorem Inv.running (h : Inv k) : k.running = -1 ∨ ∃ i : Nat, k.running = i ∧ i < k.tasks.length ∧ (k.ti i).state = 0 := by
 rcases first_mem (k.lst.take 32) with e | ⟨j, hj, e⟩
 ·exact .inl e
 ·right
  have hj32 : j < 32 := by rw [List.length_take] at hj; omega
  have e' : k.running ∈ k.l j := by
   have : (k.lst.take 32).getD j [] = k.l j := by
    unfold K.l
    simp [List.getElem?_take_of_lt hj32]
   rw [this] at e
   exact e
  obtain ⟨h0, h1⟩ := h.val j (row_TL hj32) _ e'
  obtain ⟨i, hi⟩ := Int.eq_ofNat_of_zero_le h0
  rw [hi] at e'
  refine ⟨i, hi, by omega, ?_⟩
  rcases (h.mem j (row_TL hj32) i (by omega)).1 e' with ⟨_, q, _⟩ | ⟨q, _⟩
  ·exact q
  ·omega
/-- How many tasks have not ended. -/
def K.alive (k : K) : Nat := (k.tasks.filter fun t => t.state != 2).length
theorem alive_le : ∀ (a b : List T), b.length = a.length → (∀ j (h : j < a.length) (h' : j < b.length), a[j].state = 2 → b[j].state = 2) → (b.filter fun t => t.state != 2).length ≤ (a.filter fun t => t.state != 2).length ∧ ((∃ j, ∃ (h : j < a.length) (h' : j < b.length), a[j].state ≠ 2 ∧ b[j].state = 2) → (b.filter fun t => t.state != 2).length < (a.filter fun t => t.state != 2).length)
 | [], [], _, _ => ⟨zl _, by rintro ⟨j, h, _⟩; simp at h⟩
 | [], _ :: _, hl, _ => by simp at hl
 | _ :: _, [], hl, _ => by simp at hl
 | x :: a, y :: b, hl, hm => by
   have h0 := hm 0 (by simp) (by simp)
   simp only [List.getElem_cons_zero] at h0
   obtain ⟨i1, i2⟩ := alive_le a b (by simpa using hl) (fun j h h' q => by
    have := hm (j + 1) (by simpa using h) (by simpa using h')
    simp only [List.getElem_cons_succ] at this
    exact this q)
   rw [List.filter_cons, List.filter_cons]
   by_cases hx : x.state = 2
   ·have hy := h0 hx
    simp only [hx, hy, bne_self_eq_false, Bool.false_eq_true, if_false]
    refine ⟨i1, ?_⟩
    rintro ⟨j, h, h', q1, q2⟩
    rcases j with _ | j
    ·exact absurd hx q1
    ·exact i2 ⟨j, by simpa using h, by simpa using h', q1, q2⟩
   ·have hxb : (x.state != 2) = true := by simp [hx]
    rw [if_pos hxb]
    by_cases hy : y.state = 2
    ·simp only [hy, bne_self_eq_false, Bool.false_eq_true, if_false, List.length_cons]
     exact ⟨by omega, fun _ => by omega⟩
    ·have hyb : (y.state != 2) = true := by simp [hy]
     rw [if_pos hyb]
     simp only [List.length_cons]
     refine ⟨by omega, ?_⟩
     rintro ⟨j, h, h', q1, q2⟩
     rcases j with _ | j
     ·exact absurd q2 hy
     ·have := i2 ⟨j, by simpa using h, by simpa using h', q1, q2⟩
      omega
theorem ti_get {i : Nat} (hi : i < k.tasks.length) : k.ti i = k.tasks[i] := by
 unfold K.ti
 simp [hi]
theorem Mono.alive (m : Mono k k') : k'.alive ≤ k.alive :=
 (alive_le k.tasks k'.tasks m.tasks (fun j h h' q => by
  rw [← ti_get h'] ; rw [← ti_get h] at q; exact m.ended j h q)).1
theorem Mono.alive_lt (m : Mono k k') {i : Nat} (hi : i < k.tasks.length) (h0 : (k.ti i).state ≠ 2) (h1 : (k'.ti i).state = 2) : k'.alive < k.alive :=
 (alive_le k.tasks k'.tasks m.tasks (fun j h h' q => by
  rw [← ti_get h'] ; rw [← ti_get h] at q; exact m.ended j h q)).2 ⟨i, hi, by rw [m.tasks]; exact hi, by rw [← ti_get hi]; exact h0, by rw [← ti_get (show i < k'.tasks.length by rw [m.tasks]; exact hi)]; exact h1⟩
/-! What stays through an operation: ticks, operations. -/
theorem anewAt_nums (last : Int) : ∀ (ps : List Int) (i : Nat) (k : K), (K.anewAt last ps i k).ticks = k.ticks ∧ (K.anewAt last ps i k).ops = k.ops ∧ (K.anewAt last ps i k).out = k.out
 | [], _, _ => ⟨rfl, rfl, rfl⟩
 | p :: r, i, k => by
   unfold K.anewAt
   simp only []
   split
   ·exact anewAt_nums last r (i + 1) k
   ·split
    ·exact anewAt_nums last r (i + 1) _
    ·split
     ·exact anewAt_nums last r (i + 1) _
     ·exact anewAt_nums last r (i + 1) _
theorem anew_nums (k : K) (last : Int) : (k.anew last).ticks = k.ticks ∧ (k.anew last).ops = k.ops ∧ (k.anew last).out = k.out := anewAt_nums last _ 0 k
theorem wake_nums (k : K) (n a : Int) : (k.wake n a).ticks = k.ticks ∧ (k.wake n a).ops = k.ops ∧ (k.wake n a).out = k.out := by
 unfold K.wake
 rcases (k.t n).on with _ | x <;> exact ⟨rfl, rfl, rfl⟩
theorem wait_nums (k : K) (n : Int) (on : Option Nat) (left : Int) : (k.wait n on left).ticks = k.ticks ∧ (k.wait n on left).ops = k.ops ∧ (k.wait n on left).out = k.out := by
 unfold K.wait
 rcases on with _ | x <;> exact ⟨rfl, rfl, rfl⟩
theorem release_nums (k : K) (i : Nat) : (k.release i).ticks = k.ticks ∧ (k.release i).ops = k.ops ∧ (k.release i).out = k.out := by
 unfold K.release
 simp only []
 split
 ·exact wake_nums _ _ _
 ·exact ⟨rfl, rfl, rfl⟩
theorem gives_nums (n : Int) : ∀ (f i : Nat) (k : K), (K.gives n f i k).ticks = k.ticks ∧ (K.gives n f i k).ops = k.ops ∧ (K.gives n f i k).out = k.out
 | 0, _, _ => ⟨rfl, rfl, rfl⟩
 | f + 1, i, k => by
   unfold K.gives
   split
   ·obtain ⟨a, b, c⟩ := gives_nums n f (i + 1) (k.release i)
    obtain ⟨a', b', c'⟩ := release_nums k i
    exact ⟨a.trans a', b.trans b', c.trans c'⟩
   ·exact gives_nums n f (i + 1) k
theorem fin_nums (k : K) (n : Int) : (k.fin n).ticks = k.ticks ∧ (k.fin n).ops = k.ops ∧ (k.fin n).out = k.out := gives_nums n _ _ _
theorem tickAt_nums : ∀ (f i : Nat) (k : K), (K.tickAt f i k).ticks = k.ticks ∧ (K.tickAt f i k).ops = k.ops ∧ (K.tickAt f i k).out = k.out
 | 0, _, _ => ⟨rfl, rfl, rfl⟩
 | f + 1, i, k => by
   unfold K.tickAt
   simp only []
   split
   ·exact tickAt_nums f (i + 1) k
   ·split
    ·exact tickAt_nums f (i + 1) _
    ·obtain ⟨a, b, c⟩ := tickAt_nums f (i + 1) (K.wake (k.setT i fun t => { t with left := t.left - 1 }) i (if (k.t i).on = none then 0 else 1))
     obtain ⟨a', b', c'⟩ := wake_nums (k.setT i fun t => { t with left := t.left - 1 }) i (if (k.t i).on = none then 0 else 1)
     exact ⟨a.trans a', b.trans b', c.trans c'⟩
theorem tick_nums (k : K) : k.tick.ticks = k.ticks + 1 ∧ k.tick.ops = k.ops ∧ k.tick.out = k.out := by
 unfold K.tick
 obtain ⟨a, b, c⟩ := anew_nums (K.tickAt k.tasks.length 0 { k with ticks := k.ticks + 1 }) (-1)
 obtain ⟨a', b', c'⟩ := tickAt_nums k.tasks.length 0 { k with ticks := k.ticks + 1 }
 exact ⟨a.trans a', b.trans b', c.trans c'⟩
def SameN (k k1 : K) : Prop := k1.ticks = k.ticks ∧ k1.ops = k.ops ∧ k1.out = k.out
theorem delay_nums (k : K) (n : Int) (o : Op) : SameN k (k.delay n o) := by
 unfold K.delay
 split
 ·exact ⟨rfl, rfl, rfl⟩
 ·exact wait_nums _ _ _ _
theorem take_nums (k : K) (n : Int) (o : Op) : SameN k (k.take n o) := by
 unfold K.take
 split
 ·exact ⟨rfl, rfl, rfl⟩
 split
 ·exact ⟨rfl, rfl, rfl⟩
 split
 ·exact ⟨rfl, rfl, rfl⟩
 ·exact wait_nums _ _ _ _
theorem give_nums (k : K) (n : Int) (o : Op) : SameN k (k.give n o) := by
 unfold K.give K.give1
 split
 ·exact ⟨rfl, rfl, rfl⟩
 split
 ·exact wake_nums (k.say n 0) _ _
 split
 ·exact ⟨rfl, rfl, rfl⟩
 ·exact ⟨rfl, rfl, rfl⟩
theorem lock_nums (k : K) (n : Int) (o : Op) : SameN k (k.lock n o) := by
 unfold K.lock
 split
 ·exact ⟨rfl, rfl, rfl⟩
 split
 ·exact ⟨rfl, rfl, rfl⟩
 split
 ·exact ⟨rfl, rfl, rfl⟩
 ·exact wait_nums _ _ _ _
theorem unlock_nums (k : K) (n : Int) (o : Op) : SameN k (k.unlock n o) := by
 unfold K.unlock
 split
 ·exact ⟨rfl, rfl, rfl⟩
 split
 ·exact ⟨rfl, rfl, rfl⟩
 ·exact release_nums (k.say n 0) _
theorem send_nums (k : K) (n : Int) (o : Op) : SameN k (k.send n o) := by
 unfold K.send K.send1
 split
 ·exact ⟨rfl, rfl, rfl⟩
 split
 ·exact wake_nums k (k.best (k.l (64 + o.a.toNat))) o.b
 split
 ·exact ⟨rfl, rfl, rfl⟩
 ·exact wait_nums (k.setT n _) _ _ _
theorem recv_nums (k : K) (n : Int) (o : Op) : SameN k (k.recv n o) := by
 unfold K.recv
 split
 ·exact ⟨rfl, rfl, rfl⟩
 split
 ·exact wait_nums _ _ _ _
 ·unfold K.recv1 K.recv2
  split
  ·exact wake_nums (K.setL (K.setL (k.say n _) _ _) _ _) _ _
  ·exact ⟨rfl, rfl, rfl⟩
theorem loop_nums (k : K) (n : Int) (o : Op) : SameN k (k.loop n o) := by
 unfold K.loop
 split <;> exact ⟨rfl, rfl, rfl⟩
theorem act_nums (k : K) (n : Int) (o : Op) : (k.act n o).ticks = k.ticks ∧ (k.act n o).ops = k.ops ∧ ∃ l, (k.act n o).out = k.out ++ l := by
 have nil : ∀ k1 : K, SameN k k1 → k1.ticks = k.ticks ∧ k1.ops = k.ops ∧ ∃ l, k1.out = k.out ++ l := fun k1 ⟨a, b, c⟩ => ⟨a, b, [], by rw [c, List.append_nil]⟩
 unfold K.act
 by_cases k0 : o.kind = 0
 ·rw [if_pos k0]
  exact ⟨rfl, rfl, [UInt8.ofNat o.a.toNat], rfl⟩
 rw [if_neg k0]
 by_cases k1 : o.kind = 1
 ·rw [if_pos k1]
  exact nil _ ⟨rfl, rfl, rfl⟩
 rw [if_neg k1]
 by_cases k2 : o.kind = 2
 ·rw [if_pos k2]
  exact nil _ (delay_nums _ _ _)
 rw [if_neg k2]
 by_cases k3 : o.kind = 3
 ·rw [if_pos k3]
  exact nil _ (take_nums _ _ _)
 rw [if_neg k3]
 by_cases k4 : o.kind = 4
 ·rw [if_pos k4]
  exact nil _ (give_nums _ _ _)
 rw [if_neg k4]
 by_cases k5 : o.kind = 5
 ·rw [if_pos k5]
  exact nil _ (lock_nums _ _ _)
 rw [if_neg k5]
 by_cases k6 : o.kind = 6
 ·rw [if_pos k6]
  exact nil _ (unlock_nums _ _ _)
 rw [if_neg k6]
 by_cases k7 : o.kind = 7
 ·rw [if_pos k7]
  exact nil _ (send_nums _ _ _)
 rw [if_neg k7]
 by_cases k8 : o.kind = 8
 ·rw [if_pos k8]
  exact nil _ (recv_nums _ _ _)
 rw [if_neg k8]
 by_cases k9 : o.kind = 9
 ·rw [if_pos k9]
  exact ⟨rfl, rfl, [UInt8.ofNat (97 + (k.t n).answer.tmod 26).toNat], rfl⟩
 rw [if_neg k9]
 by_cases k10 : o.kind = 10
 ·rw [if_pos k10]
  exact nil _ (loop_nums _ _ _)
 rw [if_neg k10]
 by_cases k11 : o.kind = 11
 ·rw [if_pos k11]
  exact nil _ ⟨rfl, rfl, rfl⟩
 rw [if_neg k11]
 by_cases k12 : o.kind = 12
 ·rw [if_pos k12]
  obtain ⟨a, b, c⟩ := fin_nums (k.put 33) n
  exact ⟨a, b, [33], c⟩
 rw [if_neg k12]
 by_cases k13 : o.kind = 13
 ·rw [if_pos k13]
  exact nil _ ⟨rfl, rfl, rfl⟩
 rw [if_neg k13]
 exact nil _ ⟨rfl, rfl, rfl⟩
theorem do_nums (k : K) (n : Int) : (k.do_ n).ticks = k.ticks ∧ (k.do_ n).ops = k.ops ∧ ∃ l, (k.do_ n).out = k.out ++ l := act_nums _ _ _
/-- A round of the kernel; none: it stops. -/
def K.round (ticks ops : Nat) (k : K) : Option K :=
 if k.running < 0 then
  if k.timed = false ∨ ticks ≤ k.ticks then none else some k.tick
 else if ops ≤ k.ops then none
 else if (k.t k.running).ops.length ≤ (k.t k.running).place then some ((k.fin k.running).anew k.running)
 else some ((({ k with ops := k.ops + 1 }).do_ k.running).anew k.running)
theorem run_eq (ticks ops f : Nat) (k : K) : K.run ticks ops (f + 1) k =
 if k.running < 0 then
  if k.timed = false ∨ ticks ≤ k.ticks then k else K.run ticks ops f k.tick
 else if ops ≤ k.ops then k
 else if (k.t k.running).ops.length ≤ (k.t k.running).place then K.run ticks ops f ((k.fin k.running).anew k.running)
 else K.run ticks ops f ((({ k with ops := k.ops + 1 }).do_ k.running).anew k.running) := rfl
theorem run_round (ticks ops f : Nat) (k : K) : K.run ticks ops (f + 1) k = match k.round ticks ops with | none => k | some k' => K.run ticks ops f k' := by
 rw [run_eq]
 unfold K.round
 split
 ·split <;> rfl
 ·split
  ·rfl
  ·split <;> rfl
/-- What is left to do. -/
def K.rest (k : K) (ticks ops : Nat) : Nat := (ticks - k.ticks) + (ops - k.ops) + k.alive
theorem Ok.round {ticks ops : Nat} (h : Ok k) (e : k.round ticks ops = some k') : Ok k' ∧ Mono k k' ∧ k'.rest ticks ops < k.rest ticks ops ∧ (k.ticks ≤ ticks → k'.ticks ≤ ticks) ∧ (k.ops ≤ ops → k'.ops ≤ ops) := by
 unfold K.round at e
 rcases h.inv.running with hr | ⟨i, hr, hi, hs⟩
 ·rw [hr] at e
  rw [if_pos (by omega)] at e
  split at e
  ·cases e
  ·rename_i hc
   injection e with e
   subst e
   obtain ⟨h1, m1⟩ := h.tick
   obtain ⟨a, b, _⟩ := tick_nums k
   have ht : ¬ ticks ≤ k.ticks := fun q => hc (.inr q)
   have := m1.alive
   refine ⟨h1, m1, ?_, by omega, by omega⟩
   unfold K.rest
   omega
 ·rw [hr] at e
  rw [if_neg (by omega)] at e
  split at e
  ·cases e
  ·rename_i hop
   split at e
   ·injection e with e
    subst e
    obtain ⟨h1, m1, e1⟩ := h.fin hi hs
    obtain ⟨h2, m2⟩ := h1.anew (i : Int)
    obtain ⟨a, b, _⟩ := anew_nums (k.fin i) i
    obtain ⟨a', b', _⟩ := fin_nums k i
    have := m1.alive_lt hi (by omega) e1
    have := m2.alive
    refine ⟨h2, m1.trans m2, ?_, by omega, by omega⟩
    unfold K.rest
    omega
   ·rename_i hpl
    injection e with e
    subst e
    obtain ⟨h0, m0⟩ := h.nums (k' := { k with ops := k.ops + 1 }) rfl (fun _ _ => rfl) h.inv.lens rfl rfl rfl h.good.sems h.good.owner h.good.que (by have := h.good.out; show k.out.length ≤ k.ops + 1; omega)
    obtain ⟨h1, m1⟩ := h0.do_ (i := i) hi hs (by have := h.good.out; show k.out.length < k.ops + 1; omega) (by rw [t_nat] at hpl; show (k.ti i).place < (k.ti i).ops.length; omega)
    obtain ⟨h2, m2⟩ := h1.anew (i : Int)
    obtain ⟨a, b, _⟩ := anew_nums (K.do_ { k with ops := k.ops + 1 } i) i
    obtain ⟨a', b', _⟩ := do_nums { k with ops := k.ops + 1 } i
    have e1 : ({ k with ops := k.ops + 1 } : K).ops = k.ops + 1 := rfl
    have e2 : ({ k with ops := k.ops + 1 } : K).ticks = k.ticks := rfl
    have := (m0.trans (m1.trans m2)).alive
    refine ⟨h2, m0.trans (m1.trans m2), ?_, by omega, by omega⟩
    unfold K.rest
    omega
end
end Kn
end Go.Proofs.Ytncbgnpoffolcaa
/-! What the walks need of a kernel between its operations; priorities, how they come down. -/
namespace Go.Proofs.Ytncbgnpoffolcaa
theorem kT_ti (k : Kn.K) (i : Nat) : kT k i = k.ti i := rfl
theorem nodup_len : ∀ (n : Nat) (l : List Int), l.Nodup → (∀ z ∈ l, 0 ≤ z ∧ z < (n : Int)) → l.length ≤ n
 | 0, l, _, h => by
   rcases l with _ | ⟨x, l⟩
   ·exact zl _
   ·have := h x List.mem_cons_self
    omega
 | n + 1, l, hn, h => by
   by_cases hm : (n : Int) ∈ l
   ·have h1 := nodup_len n (l.erase (n : Int)) (hn.erase _) (fun z hz => by
     have h2 := h z (List.mem_of_mem_erase hz)
     have h3 : z ≠ (n : Int) := fun e => by rw [e] at hz; exact hn.not_mem_erase hz
     omega)
    rw [List.length_erase_of_mem hm] at h1
    have := List.length_pos_of_mem hm
    omega
   ·have h1 := nodup_len n l hn (fun z hz => by
     have h2 := h z hz
     have h3 : z ≠ (n : Int) := fun e => by rw [e] at hz; exact hm hz
     omega)
    omega
theorem l_far {k : Kn.K} (h : k.lst.length = 72) {x : Nat} (hx : 72 ≤ x) : k.l x = [] := by
 unfold Kn.K.l
 rw [zd, List.getElem?_eq_none (by omega)]
 rfl
theorem Kn.Ok.fine {k : Kn.K} (h : Kn.Ok k) : Fine k 32 := by
 have hv : ∀ x, x < 48 ∨ 56 ≤ x → Valid k (k.l x) := fun x hx => by
  by_cases h72 : x < 72
  ·exact h.inv.val x (by unfold Kn.TL; omega)
  ·intro z hz
   rw [l_far h.inv.lens (by omega)] at hz
   cases hz
 refine ⟨by have := h.inv.tasks; omega, h.inv.prio, fun x => ?_, fun i x hi hx => (h.inv.on i x hi hx).2, hv⟩
 by_cases h72 : x < 72
 ·by_cases ht : Kn.TL x
  ·exact zt (nodup_len _ _ (h.inv.nodup x ht) (h.inv.val x ht)) h.inv.tasks
  ·unfold Kn.TL at ht
   have := h.good.que x (by omega) (by omega)
   omega
 ·rw [l_far h.inv.lens (by omega)]
  simp
/-! Priorities. -/
namespace Kn
def sum : List Int → Int
 | [] => 0
 | a :: l => a + sum l
theorem sum_set : ∀ (l : List Int) (o : Nat) (v : Int), o < l.length → sum (l.set o v) = sum l - l.getD o 0 + v
 | [], _, _, h => by simp at h
 | a :: l, 0, v, _ => by simp [sum]; omega
 | a :: l, o + 1, v, h => by
   have := sum_set l o v (by simpa using h)
   simp only [List.set_cons_succ, sum, List.getD_cons_succ]
   omega
theorem sum_le : ∀ (l : List Int), (∀ z ∈ l, 0 ≤ z ∧ z < 32) → 0 ≤ sum l ∧ sum l ≤ 31 * l.length
 | [], _ => by simp [sum]
 | a :: l, h => by
   have h1 := sum_le l fun z hz => h z (List.mem_cons_of_mem _ hz)
   have h2 := h a List.mem_cons_self
   simp only [sum, List.length_cons]
   omega
theorem pass_cons (k : K) (t : T) (r : List T) (i : Nat) (l : List Int) (again : Bool) :
 k.pass (t :: r) i l again = if t.state = 1 ∧ 0 ≤ k.ownerOf t ∧ l.getD i 0 < l.getD (k.ownerOf t).toNat 0 then k.pass r (i + 1) (l.set (k.ownerOf t).toNat (l.getD i 0)) true else k.pass r (i + 1) l again := rfl
theorem prios_true {k : K} {f : Nat} {l l' : List Int} (h : k.pass k.tasks 0 l false = (l', true)) : k.prios (f + 1) l = k.prios f l' := by
 rw [K.prios, h]
theorem prios_false {k : K} {f : Nat} {l l' : List Int} (h : k.pass k.tasks 0 l false = (l', false)) : k.prios (f + 1) l = l' := by
 rw [K.prios, h]
theorem Good.ownerOf {k : K} (h : Good k) (t : T) : -1 ≤ k.ownerOf t ∧ (k.ownerOf t < k.tasks.length ∨ k.ownerOf t = -1) := by
 unfold K.ownerOf
 rcases t.on with _ | x
 ·simp
 ·simp only []
  split
  ·rw [zd]
   rcases hx : k.owner[x - 40]? with _ | o
   ·simp
   ·have := h.owner o (List.mem_of_getElem? hx)
    simp only [Option.getD_some]
    omega
  ·simp
end Kn
end Go.Proofs.Ytncbgnpoffolcaa
/-! All priorities told anew: the walk of priorities. -/
namespace Go.Proofs.Ytncbgnpoffolcaa
open Go.RowKit
theorem ListIs.set {w : World} {g cap : Nat} {xs : List Int} (h : ListIs w.heap[g]? 0 cap xs) (j : Nat) (v : Int) : ListIs (w.setCell ⟨g, j, none⟩ (.int .i64 v)).heap[g]? 0 cap (xs.set j v) := by
 obtain ⟨cur, hb, h1, h2, h3, h4⟩ := h
 have hw : Whole (w.setCell ⟨g, j, none⟩ (.int .i64 v)) g 3 (cur.setIfInBounds j (.int .i64 v)) := Whole.put (w := w) hb _ _
 refine ⟨_, hw, by rw [List.length_set]; exact h1, by simpa using h2, by simpa using h3, fun i x hx => ?_⟩
 have hil := (List.getElem?_eq_some_iff.1 hx).1
 rw [List.length_set] at hil
 rw [List.getElem?_set] at hx
 split at hx
 ·rename_i e
  subst e
  rw [if_pos hil] at hx
  injection hx with hx
  subst hx
  have : j < cur.size := by omega
  simp [this]
 ·rename_i e
  rw [Array.getElem?_setIfInBounds_ne (by omega)]
  exact h4 i x hx
theorem ListIs.frozen {w : World} {g off cap : Nat} {xs : List Int} (h : ListIs w.heap[g]? off cap xs) (j : Nat) : w.frozen? ⟨g, j, none⟩ = false := by
 obtain ⟨cur, hb, _⟩ := h
 exact Whole.frozen (w := w) hb j
theorem ListIs.own {w : World} {B g cap : Nat} {xs : List Int} (h : w.ownsRow B 3 1 (.slice (some ⟨g, 0, none⟩) xs.length cap) xs.length (intV xs)) (hn : 0 < xs.length) : ListIs w.heap[g]? 0 cap xs := by
 obtain ⟨g', cap', e, _, hl⟩ := ListIs.of_own h hn
 injection e with e1 _ e3
 injection e1 with e1
 injection e1 with e1
 rw [e1, e3]
 exact hl
set_option maxRecDepth 100000 in
set_option maxHeartbeats 8000000 in
theorem priorities_any {w : World} {B : Nat} {k : Kn.K} {L : Lay} (h : KM w B k L) (hk : Kn.Ok k) (hn : 0 < k.tasks.length) :
 Calls Try.prog 58 #[L.ptr .ker 0] w fun e w' => ∃ g cap, e = .returned (.slice (some ⟨g, 0, none⟩) k.tasks.length cap) ∧ w.heap.size ≤ g ∧ ListIs w'.heap[g]? 0 cap k.priorities ∧ Below w.heap.size w w' := by
 obtain ⟨i0, hi, hz0, hz1, hz2⟩ := info_parts info3
 have hf := hk.fine
 have hlen := hk.inv.tasks
 have hmax : k.tasks.length ≤ 32 := hlen
 have h0 := h.tasksHead hn
 have HK := zh h
 have HF := zh hf
 have HG := zh hk.good
 have HI : Hid (k.priorities = k.prios (32 * k.tasks.length + 1) (k.tasks.map (·.base))) := rfl
 clear h hf hk hlen
 unfold Lay.ptr
 go_enter Try.func58, Try.ntmps58
 go_wp2_with fail
 go_loopg [3, 15] k.tasks.length (fun kk lv iv wr => ∃ j : Nat, j ≤ k.tasks.length ∧ iv = .int .i64 j ∧ wr.ownsRow w.heap.size 3 1 lv j (intV ((k.tasks.map (·.base)).take j)) ∧ Below w.heap.size w wr ∧ k.tasks.length - j ≤ kk)
 case atStart => exact ⟨0, Nat.zero_le _, rfl, World.ownsRow_nil _ _ _ _, zr _ _, by omega⟩
 case round =>
  obtain ⟨j, hj, rfl, own, hb, hkk⟩ := hrel
  have hzr := hb.size
  by_cases hlt : j < k.tasks.length
  ·have hlt' : (j : Int) < k.tasks.length := by omega
   have h1 := (HK.out.below hb).taskPtr hlt
   have h2 : wr.cell? ⟨L.b (.t j), 1, none⟩ = some (.int .i64 (kT k j).base) := ((HK.out.below hb).task hlt).cell 1
   have HT : Hid (intV ((k.tasks.map (·.base)).take (j + 1)) = intV ((k.tasks.map (·.base)).take j) ++ [.int .i64 (kT k j).base]) := by
    show _ = _
    rw [List.take_succ_eq_append_getElem (by simpa using hlt)]
    simp [intV, kT_getElem hlt]
   generalize (kT k j).base = bs at *
   go_wp2_with (at_builtin; refine wpList_append_own _ rfl _ _ _ rfl w.heap.size 3 i0 _ 1 8 Try.underlying24 hi hz0 hz1 hz2 rfl (by decide) _ j (intV ((k.tasks.map (·.base)).take j)) rfl (own.alloc _) ⟨wr.heap.size, 0, none⟩ 1 1 [.int .i64 bs] rfl rfl ?c1 ?c2 ?c3 ?c4 ?c5 ?_)
   case c2 => rfl
   case c3 => unfold maxLen; omega
   case c4 => omega
   case c5 => omega
   intro v' w5 own5 hgrow _
   have hb5 := (hb.alloc (by omega) (.cells #[.int .i64 bs] 3)).grown hgrow (by simp; omega) (fun k hk => (own.lt k hk).1)
   clear hgrow
   go_wp2_with fail
   go_roundg (k.tasks.length - (j + 1))
   case measure => omega
   case rel => exact ⟨j + 1, by omega, by go_num, by rw [HT.out]; simpa using own5, hb5, zl _⟩
  ·have hge : ¬ (j : Int) < k.tasks.length := by omega
   have hjl : j = k.tasks.length := by omega
   subst hjl
   obtain ⟨l, hl⟩ : ∃ l, l = k.tasks.map (·.base) := ⟨_, rfl⟩
   rw [← hl] at own HI
   have hPL : Kn.PL k.tasks.length l := by rw [hl]; exact HG.out.base
   rw [List.take_of_length_le (by rw [hPL.1]; omega)] at own
   clear hl
   obtain ⟨g, cap, e, hgb, hgl⟩ := World.ownsRow.form own hn
   subst e
   have hLI : ListIs wr.heap[g]? 0 cap l := by
    have := hPL.1
    rw [← this] at own
    exact ListIs.own own (by omega)
   have hsum := Kn.sum_le l hPL.2
   have hpl := hPL.1
   have S0 : Hid (∃ l f, Kn.PL k.tasks.length l ∧ ListIs wr.heap[g]? 0 cap l ∧ k.priorities = k.prios f l ∧ Kn.sum l < f ∧ f ≤ 32 * k.tasks.length + 1) := ⟨l, _, hPL, hLI, HI.out, by rw [hpl] at hsum; omega, zl _⟩
   clear own hLI hPL hsum hpl HI
   go_wp2_with fail
   go_loopg [6] (32 * k.tasks.length + 2) (fun kk av wx => ∃ (l : List Int) (f : Nat) (b : Bool), av = .bool b ∧ Kn.PL k.tasks.length l ∧ ListIs wx.heap[g]? 0 cap l ∧ (b = true → k.priorities = k.prios f l ∧ Kn.sum l < f) ∧ (b = false → k.priorities = l) ∧ Below w.heap.size w wx ∧ (if b then f + 1 else 0) ≤ kk)
   case atStart =>
    obtain ⟨l, f, q1, q2, q3, q4, q5⟩ := S0.out
    exact ⟨l, f, true, rfl, q1, q2, fun _ => ⟨q3, q4⟩, (fun e => by cases e), hb, by rw [if_pos rfl]; omega⟩
   case round =>
    obtain ⟨l, f, b, rfl, hPL, hLI, hbt, hbf, hbx, hkx⟩ := hrel
    have hPl := zh hPL
    have hLi := zh hLI
    have hzx := hbx.size
    clear hPL hLI
    rcases b with _ | _
    ·have E := zh (hbf rfl)
     clear hbt hbf
     go_wp2_with fail
     go_ret
     exact ⟨g, cap, rfl, hgb, by rw [E.out]; exact hLi.out, hbx⟩
    ·obtain ⟨hp, hs⟩ := hbt rfl
     have HP := zh hp
     have HS := zh hs
     have hs0 := (Kn.sum_le l hPl.out.2).1
     have hf1 : 1 ≤ f := by omega
     clear hbt hbf hp hs hs0
     simp only [if_true] at hkx
     have h0x := (HK.out.below hbx).tasksHead hn
     go_wp2_with fail
     go_loopg [6, 33] k.tasks.length (fun k2 av iv wy => ∃ (j : Nat) (l2 : List Int) (b2 : Bool), j ≤ k.tasks.length ∧ iv = .int .i64 j ∧ av = .bool b2 ∧ Kn.PL k.tasks.length l2 ∧ ListIs wy.heap[g]? 0 cap l2 ∧ k.pass k.tasks 0 l false = k.pass (k.tasks.drop j) j l2 b2 ∧ (b2 = true → Kn.sum l2 < Kn.sum l) ∧ Kn.sum l2 ≤ Kn.sum l ∧ Below w.heap.size w wy ∧ k.tasks.length - j ≤ k2)
     case atStart => exact ⟨0, l, false, Nat.zero_le _, rfl, rfl, hPl.out, hLi.out, rfl, (fun e => by cases e), Int.le_refl _, hbx, by omega⟩
     case round =>
      obtain ⟨j, l2, b2, hj, rfl, rfl, hPL2, hLI2, hps, hb2t, hsle, hby, hk2⟩ := hrel
      have HPL := zh hPL2
      have HLI := zh hLI2
      have HPS := zh hps
      have HBT := zh hb2t
      have HSL := zh hsle
      have hzy := hby.size
      clear hPL2 hLI2 hps hb2t hsle
      by_cases hlt : j < k.tasks.length
      ·have hlt' : (j : Int) < k.tasks.length := by omega
       have h1 := (HK.out.below hby).taskPtr hlt
       have h3 : wr.cell? ⟨L.b (.t j), 3, none⟩ = some (.int .i64 (kT k j).state) := ((HK.out.below hby).task hlt).cell 3
       have HO := zh (owner_any (HK.out.below hby) HF.out hlt)
       unfold Lay.ptr at HO
       have HD : Hid (k.pass (k.tasks.drop j) j l2 b2 = if (kT k j).state = 1 ∧ 0 ≤ k.ownerOf (kT k j) ∧ l2.getD j 0 < l2.getD (k.ownerOf (kT k j)).toNat 0 then k.pass (k.tasks.drop (j + 1)) (j + 1) (l2.set (k.ownerOf (kT k j)).toNat (l2.getD j 0)) true else k.pass (k.tasks.drop (j + 1)) (j + 1) l2 b2) := by
        show _ = _
        rw [List.drop_eq_getElem_cons hlt, Kn.pass_cons, kT_getElem hlt]
       have hov := HG.out.ownerOf (kT k j)
       generalize k.ownerOf (kT k j) = o at *
       generalize (kT k j).state = st at *
       have hll := HPL.out.1
       have hcj := HLI.out.cell (j := j) (by omega)
       have hgj : Hid (l2.getD j 0 = l2[j]'(by omega)) := by show _ = _; simp [hlt, hll]
       have hgj' := hgj
       rw [Nat.zero_add] at hcj
       generalize l2[j]'(by omega) = lj at *
       have HNext : Hid (∀ b3 l3, k.pass (k.tasks.drop j) j l2 b2 = k.pass (k.tasks.drop (j + 1)) (j + 1) l3 b3 → k.pass k.tasks 0 l false = k.pass (k.tasks.drop (j + 1)) (j + 1) l3 b3) := fun b3 l3 e => HPS.out.trans e
       by_cases hc : st = 1 ∧ 0 ≤ o ∧ lj < l2.getD o.toNat 0
       ·have HE := HD.out
        rw [hgj.out, if_pos hc] at HE
        obtain ⟨hst, ho0, hlo⟩ := hc
        obtain ⟨o, rfl⟩ := Int.eq_ofNat_of_zero_le ho0
        have hol : o < k.tasks.length := by omega
        have hco := HLI.out.cell (j := o) (by omega)
        have hgo : Hid (l2.getD o 0 = l2[o]'(by omega)) := by show _ = _; simp [hol, hll]
        rw [Int.toNat_natCast, hgo.out] at hlo
        rw [Int.toNat_natCast] at HE
        have hss : Hid (Kn.sum (l2.set o lj) < Kn.sum l2) := by show _ < _; rw [Kn.sum_set _ _ _ (by omega), hgo.out]; omega
        rw [Nat.zero_add] at hco
        generalize l2[o]'(by omega) = lo at *
        have hfz := HLI.out.frozen o
        have iol : (o : Int) < k.tasks.length := by omega
        have HEE := zh HE
        clear HE HD hgj hgo
        subst hst
        go_wp2_with fail
        refine HO.out.mono ?_
        rintro e w6 ⟨rfl, b6⟩
        have hg6 : g < wr.heap.size := by obtain ⟨cur, hb, _⟩ := HLI.out; exact (Array.getElem?_eq_some_iff.1 hb).1
        have hb6 := hby.trans (b6.mono hzy)
        have c6 := (b6.cell (p := ⟨g, j, none⟩) hg6).trans hcj
        have d6 := (b6.cell (p := ⟨g, o, none⟩) hg6).trans hco
        have f6 : w6.frozen? ⟨g, o, none⟩ = false := (zx (a := ⟨g, o, none⟩) (b6.block g hg6)).trans hfz
        have t6 := (b6.cell (p := ⟨L.b (.t j), 3, none⟩) ((HK.out.below hby).lt (c := .t j) hlt)).trans h3
        have L6 : Hid (ListIs w6.heap[g]? 0 cap l2) := by show ListIs _ _ _ _; rw [b6.block g hg6]; exact HLI.out
        have h1y := ((HK.out.below hby).lt (c := .t j) hlt)
        clear hcj hco hfz h3
        go_wp2_with fail
        have hd0 : decide ((0 : Int) ≤ o) = true := zu (by omega)
        have hd1 : decide (lj < lo) = true := zu hlo
        refine zy ?_
        repeat go_big_quiet_step (fail)
        refine wpQuiet_nil ?_
        intro _ hw'
        obtain ⟨nq, hw''⟩ := hw'
        subst hw''
        go_wp2_with fail
        go_roundg (k.tasks.length - (j + 1))
        case measure => omega
        case rel => exact ⟨j + 1, l2.set o lj, true, by omega, by go_num, rfl, HPL.out.set (by rw [← hgj'.out]; exact HPL.out.get j), L6.out.set o lj, HNext.out _ _ HEE.out, fun _ => by have := hss.out; have := HSL.out; omega, by have := hss.out; have := HSL.out; omega, (hb6.drewN' _).setCell hgb _, zl _⟩
       ·have HE := HD.out
        rw [hgj.out, if_neg hc] at HE
        have HEE := zh HE
        clear HE HD hgj
        by_cases hst : st = 1
        ·subst hst
         by_cases ho0 : 0 ≤ o
         ·obtain ⟨o, rfl⟩ := Int.eq_ofNat_of_zero_le ho0
          have hol : o < k.tasks.length := by omega
          have hco := HLI.out.cell (j := o) (by omega)
          have hgo : Hid (l2.getD o 0 = l2[o]'(by omega)) := by show _ = _; simp [hol, hll]
          have hlo : ¬ lj < l2[o]'(by omega) := fun q => hc ⟨rfl, by omega, by rw [Int.toNat_natCast, hgo.out]; exact q⟩
          rw [Nat.zero_add] at hco
          clear hgo hc
          generalize l2[o]'(by omega) = lo at *
          have iol : (o : Int) < k.tasks.length := by omega
          go_wp2_with fail
          refine HO.out.mono ?_
          rintro e w6 ⟨rfl, b6⟩
          have hg6 : g < wr.heap.size := by obtain ⟨cur, hb, _⟩ := HLI.out; exact (Array.getElem?_eq_some_iff.1 hb).1
          have hb6 := hby.trans (b6.mono hzy)
          have c6 := (b6.cell (p := ⟨g, j, none⟩) hg6).trans hcj
          have t6 := (b6.cell (p := ⟨L.b (.t j), 3, none⟩) ((HK.out.below hby).lt (c := .t j) hlt)).trans h3
          have L6 : Hid (ListIs w6.heap[g]? 0 cap l2) := by show ListIs _ _ _ _; rw [b6.block g hg6]; exact HLI.out
          have d6 := (b6.cell (p := ⟨g, o, none⟩) hg6).trans hco
          clear hcj hco h3
          go_wp2_with fail
          have hd0 : decide ((0 : Int) ≤ o) = true := zu (by omega)
          have hd1 : decide (lj < lo) = false := decide_eq_false (by omega)
          refine zy ?_
          repeat go_big_quiet_step (fail)
          refine wpQuiet_nil ?_
          intro _ hw'
          obtain ⟨nq, hw''⟩ := hw'
          subst hw''
          go_wp2_with fail
          go_roundg (k.tasks.length - (j + 1))
          case measure => omega
          case rel => exact ⟨j + 1, l2, b2, by omega, by go_num, rfl, HPL.out, L6.out, HNext.out _ _ HEE.out, HBT.out, HSL.out, hb6.drewN' _, zl _⟩
         ·clear hc
          go_wp2_with fail
          refine HO.out.mono ?_
          rintro e w6 ⟨rfl, b6⟩
          have hg6 : g < wr.heap.size := by obtain ⟨cur, hb, _⟩ := HLI.out; exact (Array.getElem?_eq_some_iff.1 hb).1
          have hb6 := hby.trans (b6.mono hzy)
          have c6 := (b6.cell (p := ⟨g, j, none⟩) hg6).trans hcj
          have t6 := (b6.cell (p := ⟨L.b (.t j), 3, none⟩) ((HK.out.below hby).lt (c := .t j) hlt)).trans h3
          have L6 : Hid (ListIs w6.heap[g]? 0 cap l2) := by show ListIs _ _ _ _; rw [b6.block g hg6]; exact HLI.out
          clear hcj h3
          go_wp2_with fail
          have hd0 : decide (0 ≤ o) = false := decide_eq_false (by omega)
          refine zy ?_
          repeat go_big_quiet_step (fail)
          refine wpQuiet_nil ?_
          intro _ hw'
          obtain ⟨nq, hw''⟩ := hw'
          subst hw''
          go_wp2_with fail
          go_roundg (k.tasks.length - (j + 1))
          case measure => omega
          case rel => exact ⟨j + 1, l2, b2, by omega, by go_num, rfl, HPL.out, L6.out, HNext.out _ _ HEE.out, HBT.out, HSL.out, hb6.drewN' _, zl _⟩
        ·have hs2 : (st == 1) = false := by simp [hst]
         clear hc hst
         go_wp2_with fail
         refine HO.out.mono ?_
         rintro e w6 ⟨rfl, b6⟩
         have hg6 : g < wr.heap.size := by obtain ⟨cur, hb, _⟩ := HLI.out; exact (Array.getElem?_eq_some_iff.1 hb).1
         have hb6 := hby.trans (b6.mono hzy)
         have c6 := (b6.cell (p := ⟨g, j, none⟩) hg6).trans hcj
         have t6 := (b6.cell (p := ⟨L.b (.t j), 3, none⟩) ((HK.out.below hby).lt (c := .t j) hlt)).trans h3
         have L6 : Hid (ListIs w6.heap[g]? 0 cap l2) := by show ListIs _ _ _ _; rw [b6.block g hg6]; exact HLI.out
         clear hcj h3
         go_wp2_with fail
         refine zy ?_
         repeat go_big_quiet_step (fail)
         refine wpQuiet_nil ?_
         intro _ hw'
         obtain ⟨nq, hw''⟩ := hw'
         subst hw''
         go_wp2_with fail
         go_roundg (k.tasks.length - (j + 1))
         case measure => omega
         case rel => exact ⟨j + 1, l2, b2, by omega, by go_num, rfl, HPL.out, L6.out, HNext.out _ _ HEE.out, HBT.out, HSL.out, hb6.drewN' _, zl _⟩
      ·have hge : ¬ (j : Int) < k.tasks.length := by omega
       have hjn : j = k.tasks.length := by omega
       have HPS2 : Hid (k.pass k.tasks 0 l false = (l2, b2)) := by
        show _ = _
        rw [HPS.out, hjn, List.drop_length]
        rfl
       clear hjn HPS
       obtain ⟨f, rfl⟩ : ∃ f', f = f' + 1 := ⟨f - 1, by omega⟩
       go_wp2_with fail
       rcases b2 with _ | _
       ·have E : Hid (k.priorities = l2) := HP.out.trans (Kn.prios_false HPS2.out)
        go_roundg 0
        case measure => omega
        case rel => exact ⟨l2, f, false, rfl, HPL.out, HLI.out, (fun e => by cases e), fun _ => E.out, hby, by rw [if_neg (by decide)]; omega⟩
       ·have E : Hid (k.priorities = k.prios f l2) := HP.out.trans (Kn.prios_true HPS2.out)
        go_roundg (f + 1)
        case measure => omega
        case rel => exact ⟨l2, f, true, rfl, HPL.out, HLI.out, fun _ => ⟨E.out, by have := HBT.out rfl; have := HS.out; omega⟩, (fun e => by cases e), hby, by rw [if_pos rfl]; omega⟩
end Go.Proofs.Ytncbgnpoffolcaa
