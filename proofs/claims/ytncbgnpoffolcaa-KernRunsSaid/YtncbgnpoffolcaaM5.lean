/-
  A task waits: the walk of wait.
  The calls: the walks of yield and delay.
  A byte more behind what was written: what the memory is then.
-/
import Derived.Test.YtncbgnpoffolcaaNt
import Derived.Test.YtncbgnpoffolcaaM2
import Derived.Test.YtncbgnpoffolcaaM4
/-! A task waits: the walk of wait. -/
namespace Go.Proofs.Ytncbgnpoffolcaa
open Go.RowKit
theorem on_sam {L L1 : Lay} (h : Sam L L1) (o : Option Nat) : L1.on o = L.on o := by
 unfold Lay.on Lay.ptr
 rcases o with _ | x
 ·rfl
 ·simp only [h (.s (x - 32)) rfl, h (.m (x - 40)) rfl, h (.q (x - 56)) rfl, h (.q (x - 64)) rfl]
set_option maxRecDepth 100000 in
set_option maxHeartbeats 8000000 in
theorem wait_time {w : World} {B M : Nat} {k : Kn.K} {L : Lay} {m : Nat} (left : Int) (h : KM w B k L) (hf : Fine k M) (hM : M ≤ 1000000) (hm : m < k.tasks.length) (hB : B ≤ w.heap.size) :
 Calls Try.prog 84 #[L.ptr .ker 0, .int .i64 m, .nilIface, .int .i64 left] w fun e w' => e = .returned (.tuple #[]) ∧ ∃ L', KM w' B (k.wait m none left) L' ∧ Sam L L' ∧ Below B w w' := by
 have HLV := zh (leave_any h hf hM hm hB)
 have im : (m : Int) < k.tasks.length := by omega
 have im0 : (0 : Int) ≤ m := by omega
 have hlens := hf.len
 have hmax := hf.tasks
 have hfew := h.few
 clear h hf
 unfold Lay.ptr at HLV ⊢
 go_enter Try.func84, Try.ntmps84
 go_wp2_with fail
 refine HLV.out.mono ?_
 rintro e w1 ⟨rfl, L1, k1, s1, b1⟩
 have eT : L1.b (.t m) = L.b (.t m) := s1 (.t m) rfl
 have eK : L1.b .ker = L.b .ker := s1 .ker rfl
 have eA : L1.b .ta = L.b .ta := s1 .ta rfl
 have a0 := k1.tasksHead (show 0 < (k.leave m).tasks.length from by show 0 < k.tasks.length; omega)
 have a1 := k1.taskPtr (i := m) hm
 have wt := k1.task (i := m) hm
 rw [eK, eA] at a0
 rw [eA, eT] at a1
 rw [eT] at wt
 have a0' : w1.cell? ⟨L.b .ker, 0, none⟩ = some (.slice (some ⟨L.b .ta, 0, none⟩) k.tasks.length (L1.cap .ta)) := a0
 have t3 : w1.cell? ⟨L.b (.t m), 3, none⟩ = some (.int .i64 (kT k m).state) := wt.cell 3
 have t7 : w1.cell? ⟨L.b (.t m), 7, none⟩ = some (L1.on (kT k m).on) := wt.cell 7
 have t8 : w1.cell? ⟨L.b (.t m), 8, none⟩ = some (.int .i64 (kT k m).left) := wt.cell 8
 have f3 := wt.frozen 3
 have f7 := wt.frozen 7
 have f8 := wt.frozen 8
 have hlowT := k1.low (.t m) hm
 rw [eT] at hlowT
 have K1 := zh k1
 have S1 := zh s1
 have B1 := zh b1
 have WT := zh wt
 have hz1 := b1.size
 clear k1 s1 b1 wt a0
 go_upto_region 3 with fail
 obtain ⟨W, hW⟩ : ∃ W, W = ((w1.setCell ⟨L.b (.t m), 3, none⟩ (.int .i64 1)).setCell ⟨L.b (.t m), 7, none⟩ (.nilIface)).setCell ⟨L.b (.t m), 8, none⟩ (.int .i64 left) := ⟨_, rfl⟩
 rw [← hW]
 have hK4 : Hid (KM W B ((k.leave m).setT m fun t => { t with state := 1, on := none, left := left }) L1) := by
  show KM _ _ _ _
  refine K1.out.setTask hm rfl rfl (fun g hg _ => ?_) ?_
  ·rw [eT] at hg
   rw [hW, zk _ _ _ _ hg, zk _ _ _ _ hg, zk _ _ _ _ hg]
  ·rw [eT, hW]
   have hq4 := ((WT.out.put 3 (.int .i64 1)).put 7 (.nilIface)).put 8 (.int .i64 left)
   have e4 : taskCells ((k.leave m).setT m fun t => { t with state := 1, on := none, left := left }) L1 m = (((taskCells (k.leave m) L1 m).setIfInBounds 3 (.int .i64 1)).setIfInBounds 7 (.nilIface)).setIfInBounds 8 (.int .i64 left) := by
    unfold taskCells
    rw [kT_set (k := k.leave m) hm]
    show #[_, _, _, _, _, _, _, L1.on (none), _, _] = _
    rw [on_sam S1.out]
    rfl
   rw [e4]
   exact hq4
 have hBW : Below B w W := by rw [hW]; exact ((B1.out.setCell (p := ⟨L.b (.t m), 3, none⟩) hlowT _).setCell (p := ⟨L.b (.t m), 7, none⟩) hlowT _).setCell (p := ⟨L.b (.t m), 8, none⟩) hlowT _
 have HBW := zh hBW
 have hzW := hBW.size
 clear hBW hW t3 t7 t8 f3 f7 f8 a0' a1
 go_wp2_with fail
 go_end0
 exact ⟨rfl, L1, hK4.out, S1.out, HBW.out⟩
set_option maxRecDepth 100000 in
set_option maxHeartbeats 8000000 in
theorem wait_sem {w : World} {B M : Nat} {k : Kn.K} {L : Lay} {m : Nat} {i : Nat} (left : Int) (h : KM w B k L) (hf : Fine k M) (hM : M ≤ 1000000) (hm : m < k.tasks.length) (hB : B ≤ w.heap.size) (hi : i < k.sems.length) :
 Calls Try.prog 84 #[L.ptr .ker 0, .int .i64 m, .iface 80 (.pointer (some ⟨L.b (.s i), 0, none⟩)), .int .i64 left] w fun e w' => e = .returned (.tuple #[]) ∧ ∃ L', KM w' B (k.wait m (some (32 + i)) left) L' ∧ Sam L L' ∧ Below B w w' := by
 have HLV := zh (leave_any h hf hM hm hB)
 have im : (m : Int) < k.tasks.length := by omega
 have im0 : (0 : Int) ≤ m := by omega
 have hlens := hf.len
 have hmax := hf.tasks
 have hfew := h.few
 clear h hf
 unfold Lay.ptr at HLV ⊢
 have hi8 : i < 8 := by omega
 have hmt := method_sem ⟨L.b (.s i), 0, none⟩
 obtain ⟨q1, q2⟩ := holder_sem hi8
 go_enter Try.func84, Try.ntmps84
 go_wp2_with fail
 refine HLV.out.mono ?_
 rintro e w1 ⟨rfl, L1, k1, s1, b1⟩
 have eT : L1.b (.t m) = L.b (.t m) := s1 (.t m) rfl
 have eK : L1.b .ker = L.b .ker := s1 .ker rfl
 have eA : L1.b .ta = L.b .ta := s1 .ta rfl
 have a0 := k1.tasksHead (show 0 < (k.leave m).tasks.length from by show 0 < k.tasks.length; omega)
 have a1 := k1.taskPtr (i := m) hm
 have wt := k1.task (i := m) hm
 rw [eK, eA] at a0
 rw [eA, eT] at a1
 rw [eT] at wt
 have a0' : w1.cell? ⟨L.b .ker, 0, none⟩ = some (.slice (some ⟨L.b .ta, 0, none⟩) k.tasks.length (L1.cap .ta)) := a0
 have t3 : w1.cell? ⟨L.b (.t m), 3, none⟩ = some (.int .i64 (kT k m).state) := wt.cell 3
 have t7 : w1.cell? ⟨L.b (.t m), 7, none⟩ = some (L1.on (kT k m).on) := wt.cell 7
 have t8 : w1.cell? ⟨L.b (.t m), 8, none⟩ = some (.int .i64 (kT k m).left) := wt.cell 8
 have f3 := wt.frozen 3
 have f7 := wt.frozen 7
 have f8 := wt.frozen 8
 have hlowT := k1.low (.t m) hm
 rw [eT] at hlowT
 have K1 := zh k1
 have S1 := zh s1
 have B1 := zh b1
 have WT := zh wt
 have hz1 := b1.size
 clear k1 s1 b1 wt a0
 go_upto_region 3 with fail
 obtain ⟨W, hW⟩ : ∃ W, W = ((w1.setCell ⟨L.b (.t m), 3, none⟩ (.int .i64 1)).setCell ⟨L.b (.t m), 7, none⟩ (.iface 80 (.pointer (some ⟨L.b (.s i), 0, none⟩)))).setCell ⟨L.b (.t m), 8, none⟩ (.int .i64 left) := ⟨_, rfl⟩
 rw [← hW]
 have hK4 : Hid (KM W B ((k.leave m).setT m fun t => { t with state := 1, on := some (32 + i), left := left }) L1) := by
  show KM _ _ _ _
  refine K1.out.setTask hm rfl rfl (fun g hg _ => ?_) ?_
  ·rw [eT] at hg
   rw [hW, zk _ _ _ _ hg, zk _ _ _ _ hg, zk _ _ _ _ hg]
  ·rw [eT, hW]
   have hq4 := ((WT.out.put 3 (.int .i64 1)).put 7 (.iface 80 (.pointer (some ⟨L.b (.s i), 0, none⟩)))).put 8 (.int .i64 left)
   have e4 : taskCells ((k.leave m).setT m fun t => { t with state := 1, on := some (32 + i), left := left }) L1 m = (((taskCells (k.leave m) L1 m).setIfInBounds 3 (.int .i64 1)).setIfInBounds 7 (.iface 80 (.pointer (some ⟨L.b (.s i), 0, none⟩)))).setIfInBounds 8 (.int .i64 left) := by
    unfold taskCells
    rw [kT_set (k := k.leave m) hm]
    show #[_, _, _, _, _, _, _, L1.on (some (32 + i)), _, _] = _
    rw [on_sam S1.out, on_sem hi8]
    rfl
   rw [e4]
   exact hq4
 have hBW : Below B w W := by rw [hW]; exact ((B1.out.setCell (p := ⟨L.b (.t m), 3, none⟩) hlowT _).setCell (p := ⟨L.b (.t m), 7, none⟩) hlowT _).setCell (p := ⟨L.b (.t m), 8, none⟩) hlowT _
 have HBW := zh hBW
 have hzW := hBW.size
 clear hBW hW t3 t7 t8 f3 f7 f8 a0' a1
 have eH : L1.b (.s i) = L.b (.s i) := S1.out (.s i) rfl
 obtain ⟨hd1, hd2⟩ := hK4.out.headCell (x := 32 + i) (by omega) (by rw [q1]; exact hi)
 rw [q1, q2, eH] at hd1 hd2
 have hltH := hK4.out.lt (c := .s i) hi
 rw [eH] at hltH
 have hlowH := hK4.out.low (.s i) hi
 rw [eH] at hlowH
 obtain ⟨gl, hgl⟩ : ∃ gl, gl = (if L1.nil (.l (32 + i)) then none else some (L1.b (.l (32 + i)))) := ⟨_, rfl⟩
 have hLH := hK4.out.head (x := 32 + i) (by omega)
 rw [← hgl] at hLH
 have hlen5 : (((k.leave m).setT m fun t => { t with state := 1, on := some (32 + i), left := left }).l (32 + i)).length ≤ 1000000 := by
  show ((k.setL ((k.t m).prio).toNat (·.erase (m : Int))).l (32 + i)).length ≤ 1000000
  by_cases e : 32 + i = ((k.t m).prio).toNat
  ·rw [← e]
   by_cases h72 : k.lst.length = 72
   ·rw [setL_same h72 (by omega)]
    have := List.length_erase_le (a := (m : Int)) (l := k.l (32 + i))
    have := hlens (32 + i)
    omega
   ·exact absurd hK4.out.lens (by show ¬ (k.lst.modify _ _).length = 72; rw [List.length_modify]; exact h72)
  ·rw [setL_other e]
   have := hlens (32 + i)
   omega
 have HLA : Hid (LHead (W.alloc (.cells #[.int .i64 m] 3)) (L1.hd (.l (32 + i)) (((k.leave m).setT m fun t => { t with state := 1, on := some (32 + i), left := left }).l (32 + i)).length) (((k.leave m).setT m fun t => { t with state := 1, on := some (32 + i), left := left }).l (32 + i)) gl) := hLH.keep fun b hb => zo W _ b hb
 have hnew : (W.alloc (.cells #[.int .i64 m] 3)).cell? ⟨W.heap.size, 0, none⟩ = some (.int .i64 m) := (zm W 3 #[.int .i64 m]).cell 0
 have hgnot : ∀ b, (L1.nil (.l (32 + i)) = false → b ≠ L1.b (.l (32 + i))) → gl ≠ some b := by
  intro b hne e
  rw [hgl] at e
  cases hn : L1.nil (.l (32 + i)) with
  | true => rw [hn, if_pos rfl] at e; cases e
  | false => rw [hn] at e; exact hne hn (by simpa using e.symm)
 have hneH : gl ≠ some (L.b (.s i)) := hgnot _ fun hn e => by
  have := hK4.out.apart (.s i) (.l (32 + i)) hi ⟨by omega, hn⟩ (by rw [eH]; exact e)
  cases this
 generalize hVV : L1.hd (.l (32 + i)) (((k.leave m).setT m fun t => { t with state := 1, on := some (32 + i), left := left }).l (32 + i)).length = VV at *
 have HGL := zh hgl
 clear hLH hVV hgl
 go_wp2_with fail
 refine (line_sem _ _).mono ?_
 rintro e w2 ⟨rfl, rfl⟩
 go_wp2_with (at_builtin; refine wpList_append_list rfl _ _ rfl (by rfl) HLA.out hlen5 (m : Int) ⟨W.heap.size, 0, none⟩ 1 (by rfl) hnew ?_)
 intro v' w5 hap
 obtain ⟨g5, hv5, hg5, hs5, hgr5⟩ := hap
 obtain ⟨A5, c5, e5⟩ := hv5.slice
 subst e5
 have z2 := (zq (a := ⟨L.b (.s i), 1, none⟩) (hs5 _ (by simp; omega) hneH)).trans ((zw W _ ⟨L.b (.s i), 1, none⟩ hltH).trans hd1)
 have z3 := (zx (a := ⟨L.b (.s i), 1, none⟩) (hs5 _ (by simp; omega) hneH)).trans ((zx (a := ⟨L.b (.s i), 1, none⟩) (zo W _ _ hltH)).trans hd2)
 go_wp2_with fail
 go_end0
 have hzz : B ≤ (W.alloc (.cells #[.int .i64 m] 3)).heap.size := by simp; omega
 obtain ⟨L', k5, s5⟩ := (hK4.out.below ((zr W.heap.size W).alloc (zl _) (.cells #[.int .i64 m] 3))).putList (f := (· ++ [(m : Int)])) (x := 32 + i) (by omega) (by rw [q1]; exact hi) hv5 (fun b hb hne => hs5 b hb (hgnot b hne)) (fun b hb => own_or hb (HGL.out ▸ hg5)) hzz
 rw [q1, q2, eH] at k5
 rw [List.length_append, List.length_singleton] at k5
 refine ⟨rfl, L', k5, S1.out.trans s5, ((HBW.out.alloc (by omega) _).grown hgr5 (by simp; omega) (fun b hb => ?_)).setCell (p := ⟨L.b (.s i), 1, none⟩) hlowH _⟩
 rw [HGL.out] at hb
 split at hb
 ·cases hb
 ·obtain rfl := Option.some.inj hb
  rename_i hn
  exact hK4.out.low (.l (32 + i)) ⟨by omega, by simpa using hn⟩
set_option maxRecDepth 100000 in
set_option maxHeartbeats 8000000 in
theorem wait_mutex {w : World} {B M : Nat} {k : Kn.K} {L : Lay} {m : Nat} {i : Nat} (left : Int) (h : KM w B k L) (hf : Fine k M) (hM : M ≤ 1000000) (hm : m < k.tasks.length) (hB : B ≤ w.heap.size) (hi : i < k.owner.length) :
 Calls Try.prog 84 #[L.ptr .ker 0, .int .i64 m, .iface 83 (.pointer (some ⟨L.b (.m i), 0, none⟩)), .int .i64 left] w fun e w' => e = .returned (.tuple #[]) ∧ ∃ L', KM w' B (k.wait m (some (40 + i)) left) L' ∧ Sam L L' ∧ Below B w w' := by
 have HLV := zh (leave_any h hf hM hm hB)
 have im : (m : Int) < k.tasks.length := by omega
 have im0 : (0 : Int) ≤ m := by omega
 have hlens := hf.len
 have hmax := hf.tasks
 have hfew := h.few
 clear h hf
 unfold Lay.ptr at HLV ⊢
 have hi8 : i < 8 := by omega
 have hmt := method_mutex ⟨L.b (.m i), 0, none⟩
 obtain ⟨q1, q2⟩ := holder_mutex hi8
 go_enter Try.func84, Try.ntmps84
 go_wp2_with fail
 refine HLV.out.mono ?_
 rintro e w1 ⟨rfl, L1, k1, s1, b1⟩
 have eT : L1.b (.t m) = L.b (.t m) := s1 (.t m) rfl
 have eK : L1.b .ker = L.b .ker := s1 .ker rfl
 have eA : L1.b .ta = L.b .ta := s1 .ta rfl
 have a0 := k1.tasksHead (show 0 < (k.leave m).tasks.length from by show 0 < k.tasks.length; omega)
 have a1 := k1.taskPtr (i := m) hm
 have wt := k1.task (i := m) hm
 rw [eK, eA] at a0
 rw [eA, eT] at a1
 rw [eT] at wt
 have a0' : w1.cell? ⟨L.b .ker, 0, none⟩ = some (.slice (some ⟨L.b .ta, 0, none⟩) k.tasks.length (L1.cap .ta)) := a0
 have t3 : w1.cell? ⟨L.b (.t m), 3, none⟩ = some (.int .i64 (kT k m).state) := wt.cell 3
 have t7 : w1.cell? ⟨L.b (.t m), 7, none⟩ = some (L1.on (kT k m).on) := wt.cell 7
 have t8 : w1.cell? ⟨L.b (.t m), 8, none⟩ = some (.int .i64 (kT k m).left) := wt.cell 8
 have f3 := wt.frozen 3
 have f7 := wt.frozen 7
 have f8 := wt.frozen 8
 have hlowT := k1.low (.t m) hm
 rw [eT] at hlowT
 have K1 := zh k1
 have S1 := zh s1
 have B1 := zh b1
 have WT := zh wt
 have hz1 := b1.size
 clear k1 s1 b1 wt a0
 go_upto_region 3 with fail
 obtain ⟨W, hW⟩ : ∃ W, W = ((w1.setCell ⟨L.b (.t m), 3, none⟩ (.int .i64 1)).setCell ⟨L.b (.t m), 7, none⟩ (.iface 83 (.pointer (some ⟨L.b (.m i), 0, none⟩)))).setCell ⟨L.b (.t m), 8, none⟩ (.int .i64 left) := ⟨_, rfl⟩
 rw [← hW]
 have hK4 : Hid (KM W B ((k.leave m).setT m fun t => { t with state := 1, on := some (40 + i), left := left }) L1) := by
  show KM _ _ _ _
  refine K1.out.setTask hm rfl rfl (fun g hg _ => ?_) ?_
  ·rw [eT] at hg
   rw [hW, zk _ _ _ _ hg, zk _ _ _ _ hg, zk _ _ _ _ hg]
  ·rw [eT, hW]
   have hq4 := ((WT.out.put 3 (.int .i64 1)).put 7 (.iface 83 (.pointer (some ⟨L.b (.m i), 0, none⟩)))).put 8 (.int .i64 left)
   have e4 : taskCells ((k.leave m).setT m fun t => { t with state := 1, on := some (40 + i), left := left }) L1 m = (((taskCells (k.leave m) L1 m).setIfInBounds 3 (.int .i64 1)).setIfInBounds 7 (.iface 83 (.pointer (some ⟨L.b (.m i), 0, none⟩)))).setIfInBounds 8 (.int .i64 left) := by
    unfold taskCells
    rw [kT_set (k := k.leave m) hm]
    show #[_, _, _, _, _, _, _, L1.on (some (40 + i)), _, _] = _
    rw [on_sam S1.out, on_mutex hi8]
    rfl
   rw [e4]
   exact hq4
 have hBW : Below B w W := by rw [hW]; exact ((B1.out.setCell (p := ⟨L.b (.t m), 3, none⟩) hlowT _).setCell (p := ⟨L.b (.t m), 7, none⟩) hlowT _).setCell (p := ⟨L.b (.t m), 8, none⟩) hlowT _
 have HBW := zh hBW
 have hzW := hBW.size
 clear hBW hW t3 t7 t8 f3 f7 f8 a0' a1
 have eH : L1.b (.m i) = L.b (.m i) := S1.out (.m i) rfl
 obtain ⟨hd1, hd2⟩ := hK4.out.headCell (x := 40 + i) (by omega) (by rw [q1]; exact hi)
 rw [q1, q2, eH] at hd1 hd2
 have hltH := hK4.out.lt (c := .m i) hi
 rw [eH] at hltH
 have hlowH := hK4.out.low (.m i) hi
 rw [eH] at hlowH
 obtain ⟨gl, hgl⟩ : ∃ gl, gl = (if L1.nil (.l (40 + i)) then none else some (L1.b (.l (40 + i)))) := ⟨_, rfl⟩
 have hLH := hK4.out.head (x := 40 + i) (by omega)
 rw [← hgl] at hLH
 have hlen5 : (((k.leave m).setT m fun t => { t with state := 1, on := some (40 + i), left := left }).l (40 + i)).length ≤ 1000000 := by
  show ((k.setL ((k.t m).prio).toNat (·.erase (m : Int))).l (40 + i)).length ≤ 1000000
  by_cases e : 40 + i = ((k.t m).prio).toNat
  ·rw [← e]
   by_cases h72 : k.lst.length = 72
   ·rw [setL_same h72 (by omega)]
    have := List.length_erase_le (a := (m : Int)) (l := k.l (40 + i))
    have := hlens (40 + i)
    omega
   ·exact absurd hK4.out.lens (by show ¬ (k.lst.modify _ _).length = 72; rw [List.length_modify]; exact h72)
  ·rw [setL_other e]
   have := hlens (40 + i)
   omega
 have HLA : Hid (LHead (W.alloc (.cells #[.int .i64 m] 3)) (L1.hd (.l (40 + i)) (((k.leave m).setT m fun t => { t with state := 1, on := some (40 + i), left := left }).l (40 + i)).length) (((k.leave m).setT m fun t => { t with state := 1, on := some (40 + i), left := left }).l (40 + i)) gl) := hLH.keep fun b hb => zo W _ b hb
 have hnew : (W.alloc (.cells #[.int .i64 m] 3)).cell? ⟨W.heap.size, 0, none⟩ = some (.int .i64 m) := (zm W 3 #[.int .i64 m]).cell 0
 have hgnot : ∀ b, (L1.nil (.l (40 + i)) = false → b ≠ L1.b (.l (40 + i))) → gl ≠ some b := by
  intro b hne e
  rw [hgl] at e
  cases hn : L1.nil (.l (40 + i)) with
  | true => rw [hn, if_pos rfl] at e; cases e
  | false => rw [hn] at e; exact hne hn (by simpa using e.symm)
 have hneH : gl ≠ some (L.b (.m i)) := hgnot _ fun hn e => by
  have := hK4.out.apart (.m i) (.l (40 + i)) hi ⟨by omega, hn⟩ (by rw [eH]; exact e)
  cases this
 generalize hVV : L1.hd (.l (40 + i)) (((k.leave m).setT m fun t => { t with state := 1, on := some (40 + i), left := left }).l (40 + i)).length = VV at *
 have HGL := zh hgl
 clear hLH hVV hgl
 go_wp2_with fail
 refine (line_mutex _ _).mono ?_
 rintro e w2 ⟨rfl, rfl⟩
 go_wp2_with (at_builtin; refine wpList_append_list rfl _ _ rfl (by rfl) HLA.out hlen5 (m : Int) ⟨W.heap.size, 0, none⟩ 1 (by rfl) hnew ?_)
 intro v' w5 hap
 obtain ⟨g5, hv5, hg5, hs5, hgr5⟩ := hap
 obtain ⟨A5, c5, e5⟩ := hv5.slice
 subst e5
 have z2 := (zq (a := ⟨L.b (.m i), 1, none⟩) (hs5 _ (by simp; omega) hneH)).trans ((zw W _ ⟨L.b (.m i), 1, none⟩ hltH).trans hd1)
 have z3 := (zx (a := ⟨L.b (.m i), 1, none⟩) (hs5 _ (by simp; omega) hneH)).trans ((zx (a := ⟨L.b (.m i), 1, none⟩) (zo W _ _ hltH)).trans hd2)
 go_wp2_with fail
 go_end0
 have hzz : B ≤ (W.alloc (.cells #[.int .i64 m] 3)).heap.size := by simp; omega
 obtain ⟨L', k5, s5⟩ := (hK4.out.below ((zr W.heap.size W).alloc (zl _) (.cells #[.int .i64 m] 3))).putList (f := (· ++ [(m : Int)])) (x := 40 + i) (by omega) (by rw [q1]; exact hi) hv5 (fun b hb hne => hs5 b hb (hgnot b hne)) (fun b hb => own_or hb (HGL.out ▸ hg5)) hzz
 rw [q1, q2, eH] at k5
 rw [List.length_append, List.length_singleton] at k5
 refine ⟨rfl, L', k5, S1.out.trans s5, ((HBW.out.alloc (by omega) _).grown hgr5 (by simp; omega) (fun b hb => ?_)).setCell (p := ⟨L.b (.m i), 1, none⟩) hlowH _⟩
 rw [HGL.out] at hb
 split at hb
 ·cases hb
 ·obtain rfl := Option.some.inj hb
  rename_i hn
  exact hK4.out.low (.l (40 + i)) ⟨by omega, by simpa using hn⟩
set_option maxRecDepth 100000 in
set_option maxHeartbeats 8000000 in
theorem wait_full {w : World} {B M : Nat} {k : Kn.K} {L : Lay} {m : Nat} {i : Nat} (left : Int) (h : KM w B k L) (hf : Fine k M) (hM : M ≤ 1000000) (hm : m < k.tasks.length) (hB : B ≤ w.heap.size) (hi : i < k.size.length) :
 Calls Try.prog 84 #[L.ptr .ker 0, .int .i64 m, .iface 126 (.pointer (some ⟨L.b (.q i), 2, none⟩)), .int .i64 left] w fun e w' => e = .returned (.tuple #[]) ∧ ∃ L', KM w' B (k.wait m (some (56 + i)) left) L' ∧ Sam L L' ∧ Below B w w' := by
 have HLV := zh (leave_any h hf hM hm hB)
 have im : (m : Int) < k.tasks.length := by omega
 have im0 : (0 : Int) ≤ m := by omega
 have hlens := hf.len
 have hmax := hf.tasks
 have hfew := h.few
 clear h hf
 unfold Lay.ptr at HLV ⊢
 have hi8 : i < 8 := by omega
 have hmt := method_full ⟨L.b (.q i), 2, none⟩
 obtain ⟨q1, q2⟩ := holder_full hi8
 go_enter Try.func84, Try.ntmps84
 go_wp2_with fail
 refine HLV.out.mono ?_
 rintro e w1 ⟨rfl, L1, k1, s1, b1⟩
 have eT : L1.b (.t m) = L.b (.t m) := s1 (.t m) rfl
 have eK : L1.b .ker = L.b .ker := s1 .ker rfl
 have eA : L1.b .ta = L.b .ta := s1 .ta rfl
 have a0 := k1.tasksHead (show 0 < (k.leave m).tasks.length from by show 0 < k.tasks.length; omega)
 have a1 := k1.taskPtr (i := m) hm
 have wt := k1.task (i := m) hm
 rw [eK, eA] at a0
 rw [eA, eT] at a1
 rw [eT] at wt
 have a0' : w1.cell? ⟨L.b .ker, 0, none⟩ = some (.slice (some ⟨L.b .ta, 0, none⟩) k.tasks.length (L1.cap .ta)) := a0
 have t3 : w1.cell? ⟨L.b (.t m), 3, none⟩ = some (.int .i64 (kT k m).state) := wt.cell 3
 have t7 : w1.cell? ⟨L.b (.t m), 7, none⟩ = some (L1.on (kT k m).on) := wt.cell 7
 have t8 : w1.cell? ⟨L.b (.t m), 8, none⟩ = some (.int .i64 (kT k m).left) := wt.cell 8
 have f3 := wt.frozen 3
 have f7 := wt.frozen 7
 have f8 := wt.frozen 8
 have hlowT := k1.low (.t m) hm
 rw [eT] at hlowT
 have K1 := zh k1
 have S1 := zh s1
 have B1 := zh b1
 have WT := zh wt
 have hz1 := b1.size
 clear k1 s1 b1 wt a0
 go_upto_region 3 with fail
 obtain ⟨W, hW⟩ : ∃ W, W = ((w1.setCell ⟨L.b (.t m), 3, none⟩ (.int .i64 1)).setCell ⟨L.b (.t m), 7, none⟩ (.iface 126 (.pointer (some ⟨L.b (.q i), 2, none⟩)))).setCell ⟨L.b (.t m), 8, none⟩ (.int .i64 left) := ⟨_, rfl⟩
 rw [← hW]
 have hK4 : Hid (KM W B ((k.leave m).setT m fun t => { t with state := 1, on := some (56 + i), left := left }) L1) := by
  show KM _ _ _ _
  refine K1.out.setTask hm rfl rfl (fun g hg _ => ?_) ?_
  ·rw [eT] at hg
   rw [hW, zk _ _ _ _ hg, zk _ _ _ _ hg, zk _ _ _ _ hg]
  ·rw [eT, hW]
   have hq4 := ((WT.out.put 3 (.int .i64 1)).put 7 (.iface 126 (.pointer (some ⟨L.b (.q i), 2, none⟩)))).put 8 (.int .i64 left)
   have e4 : taskCells ((k.leave m).setT m fun t => { t with state := 1, on := some (56 + i), left := left }) L1 m = (((taskCells (k.leave m) L1 m).setIfInBounds 3 (.int .i64 1)).setIfInBounds 7 (.iface 126 (.pointer (some ⟨L.b (.q i), 2, none⟩)))).setIfInBounds 8 (.int .i64 left) := by
    unfold taskCells
    rw [kT_set (k := k.leave m) hm]
    show #[_, _, _, _, _, _, _, L1.on (some (56 + i)), _, _] = _
    rw [on_sam S1.out, on_full hi8]
    rfl
   rw [e4]
   exact hq4
 have hBW : Below B w W := by rw [hW]; exact ((B1.out.setCell (p := ⟨L.b (.t m), 3, none⟩) hlowT _).setCell (p := ⟨L.b (.t m), 7, none⟩) hlowT _).setCell (p := ⟨L.b (.t m), 8, none⟩) hlowT _
 have HBW := zh hBW
 have hzW := hBW.size
 clear hBW hW t3 t7 t8 f3 f7 f8 a0' a1
 have eH : L1.b (.q i) = L.b (.q i) := S1.out (.q i) rfl
 obtain ⟨hd1, hd2⟩ := hK4.out.headCell (x := 56 + i) (by omega) (by rw [q1]; exact hi)
 rw [q1, q2, eH] at hd1 hd2
 have hltH := hK4.out.lt (c := .q i) hi
 rw [eH] at hltH
 have hlowH := hK4.out.low (.q i) hi
 rw [eH] at hlowH
 obtain ⟨gl, hgl⟩ : ∃ gl, gl = (if L1.nil (.l (56 + i)) then none else some (L1.b (.l (56 + i)))) := ⟨_, rfl⟩
 have hLH := hK4.out.head (x := 56 + i) (by omega)
 rw [← hgl] at hLH
 have hlen5 : (((k.leave m).setT m fun t => { t with state := 1, on := some (56 + i), left := left }).l (56 + i)).length ≤ 1000000 := by
  show ((k.setL ((k.t m).prio).toNat (·.erase (m : Int))).l (56 + i)).length ≤ 1000000
  by_cases e : 56 + i = ((k.t m).prio).toNat
  ·rw [← e]
   by_cases h72 : k.lst.length = 72
   ·rw [setL_same h72 (by omega)]
    have := List.length_erase_le (a := (m : Int)) (l := k.l (56 + i))
    have := hlens (56 + i)
    omega
   ·exact absurd hK4.out.lens (by show ¬ (k.lst.modify _ _).length = 72; rw [List.length_modify]; exact h72)
  ·rw [setL_other e]
   have := hlens (56 + i)
   omega
 have HLA : Hid (LHead (W.alloc (.cells #[.int .i64 m] 3)) (L1.hd (.l (56 + i)) (((k.leave m).setT m fun t => { t with state := 1, on := some (56 + i), left := left }).l (56 + i)).length) (((k.leave m).setT m fun t => { t with state := 1, on := some (56 + i), left := left }).l (56 + i)) gl) := hLH.keep fun b hb => zo W _ b hb
 have hnew : (W.alloc (.cells #[.int .i64 m] 3)).cell? ⟨W.heap.size, 0, none⟩ = some (.int .i64 m) := (zm W 3 #[.int .i64 m]).cell 0
 have hgnot : ∀ b, (L1.nil (.l (56 + i)) = false → b ≠ L1.b (.l (56 + i))) → gl ≠ some b := by
  intro b hne e
  rw [hgl] at e
  cases hn : L1.nil (.l (56 + i)) with
  | true => rw [hn, if_pos rfl] at e; cases e
  | false => rw [hn] at e; exact hne hn (by simpa using e.symm)
 have hneH : gl ≠ some (L.b (.q i)) := hgnot _ fun hn e => by
  have := hK4.out.apart (.q i) (.l (56 + i)) hi ⟨by omega, hn⟩ (by rw [eH]; exact e)
  cases this
 generalize hVV : L1.hd (.l (56 + i)) (((k.leave m).setT m fun t => { t with state := 1, on := some (56 + i), left := left }).l (56 + i)).length = VV at *
 have HGL := zh hgl
 clear hLH hVV hgl
 go_wp2_with fail
 refine (line_full _ _).mono ?_
 rintro e w2 ⟨rfl, rfl⟩
 go_wp2_with (at_builtin; refine wpList_append_list rfl _ _ rfl (by rfl) HLA.out hlen5 (m : Int) ⟨W.heap.size, 0, none⟩ 1 (by rfl) hnew ?_)
 intro v' w5 hap
 obtain ⟨g5, hv5, hg5, hs5, hgr5⟩ := hap
 obtain ⟨A5, c5, e5⟩ := hv5.slice
 subst e5
 have z2 := (zq (a := ⟨L.b (.q i), 2, none⟩) (hs5 _ (by simp; omega) hneH)).trans ((zw W _ ⟨L.b (.q i), 2, none⟩ hltH).trans hd1)
 have z3 := (zx (a := ⟨L.b (.q i), 2, none⟩) (hs5 _ (by simp; omega) hneH)).trans ((zx (a := ⟨L.b (.q i), 2, none⟩) (zo W _ _ hltH)).trans hd2)
 go_wp2_with fail
 go_end0
 have hzz : B ≤ (W.alloc (.cells #[.int .i64 m] 3)).heap.size := by simp; omega
 obtain ⟨L', k5, s5⟩ := (hK4.out.below ((zr W.heap.size W).alloc (zl _) (.cells #[.int .i64 m] 3))).putList (f := (· ++ [(m : Int)])) (x := 56 + i) (by omega) (by rw [q1]; exact hi) hv5 (fun b hb hne => hs5 b hb (hgnot b hne)) (fun b hb => own_or hb (HGL.out ▸ hg5)) hzz
 rw [q1, q2, eH] at k5
 rw [List.length_append, List.length_singleton] at k5
 refine ⟨rfl, L', k5, S1.out.trans s5, ((HBW.out.alloc (by omega) _).grown hgr5 (by simp; omega) (fun b hb => ?_)).setCell (p := ⟨L.b (.q i), 2, none⟩) hlowH _⟩
 rw [HGL.out] at hb
 split at hb
 ·cases hb
 ·obtain rfl := Option.some.inj hb
  rename_i hn
  exact hK4.out.low (.l (56 + i)) ⟨by omega, by simpa using hn⟩
set_option maxRecDepth 100000 in
set_option maxHeartbeats 8000000 in
theorem wait_empty {w : World} {B M : Nat} {k : Kn.K} {L : Lay} {m : Nat} {i : Nat} (left : Int) (h : KM w B k L) (hf : Fine k M) (hM : M ≤ 1000000) (hm : m < k.tasks.length) (hB : B ≤ w.heap.size) (hi : i < k.size.length) :
 Calls Try.prog 84 #[L.ptr .ker 0, .int .i64 m, .iface 127 (.pointer (some ⟨L.b (.q i), 3, none⟩)), .int .i64 left] w fun e w' => e = .returned (.tuple #[]) ∧ ∃ L', KM w' B (k.wait m (some (64 + i)) left) L' ∧ Sam L L' ∧ Below B w w' := by
 have HLV := zh (leave_any h hf hM hm hB)
 have im : (m : Int) < k.tasks.length := by omega
 have im0 : (0 : Int) ≤ m := by omega
 have hlens := hf.len
 have hmax := hf.tasks
 have hfew := h.few
 clear h hf
 unfold Lay.ptr at HLV ⊢
 have hi8 : i < 8 := by omega
 have hmt := method_empty ⟨L.b (.q i), 3, none⟩
 obtain ⟨q1, q2⟩ := holder_empty hi8
 go_enter Try.func84, Try.ntmps84
 go_wp2_with fail
 refine HLV.out.mono ?_
 rintro e w1 ⟨rfl, L1, k1, s1, b1⟩
 have eT : L1.b (.t m) = L.b (.t m) := s1 (.t m) rfl
 have eK : L1.b .ker = L.b .ker := s1 .ker rfl
 have eA : L1.b .ta = L.b .ta := s1 .ta rfl
 have a0 := k1.tasksHead (show 0 < (k.leave m).tasks.length from by show 0 < k.tasks.length; omega)
 have a1 := k1.taskPtr (i := m) hm
 have wt := k1.task (i := m) hm
 rw [eK, eA] at a0
 rw [eA, eT] at a1
 rw [eT] at wt
 have a0' : w1.cell? ⟨L.b .ker, 0, none⟩ = some (.slice (some ⟨L.b .ta, 0, none⟩) k.tasks.length (L1.cap .ta)) := a0
 have t3 : w1.cell? ⟨L.b (.t m), 3, none⟩ = some (.int .i64 (kT k m).state) := wt.cell 3
 have t7 : w1.cell? ⟨L.b (.t m), 7, none⟩ = some (L1.on (kT k m).on) := wt.cell 7
 have t8 : w1.cell? ⟨L.b (.t m), 8, none⟩ = some (.int .i64 (kT k m).left) := wt.cell 8
 have f3 := wt.frozen 3
 have f7 := wt.frozen 7
 have f8 := wt.frozen 8
 have hlowT := k1.low (.t m) hm
 rw [eT] at hlowT
 have K1 := zh k1
 have S1 := zh s1
 have B1 := zh b1
 have WT := zh wt
 have hz1 := b1.size
 clear k1 s1 b1 wt a0
 go_upto_region 3 with fail
 obtain ⟨W, hW⟩ : ∃ W, W = ((w1.setCell ⟨L.b (.t m), 3, none⟩ (.int .i64 1)).setCell ⟨L.b (.t m), 7, none⟩ (.iface 127 (.pointer (some ⟨L.b (.q i), 3, none⟩)))).setCell ⟨L.b (.t m), 8, none⟩ (.int .i64 left) := ⟨_, rfl⟩
 rw [← hW]
 have hK4 : Hid (KM W B ((k.leave m).setT m fun t => { t with state := 1, on := some (64 + i), left := left }) L1) := by
  show KM _ _ _ _
  refine K1.out.setTask hm rfl rfl (fun g hg _ => ?_) ?_
  ·rw [eT] at hg
   rw [hW, zk _ _ _ _ hg, zk _ _ _ _ hg, zk _ _ _ _ hg]
  ·rw [eT, hW]
   have hq4 := ((WT.out.put 3 (.int .i64 1)).put 7 (.iface 127 (.pointer (some ⟨L.b (.q i), 3, none⟩)))).put 8 (.int .i64 left)
   have e4 : taskCells ((k.leave m).setT m fun t => { t with state := 1, on := some (64 + i), left := left }) L1 m = (((taskCells (k.leave m) L1 m).setIfInBounds 3 (.int .i64 1)).setIfInBounds 7 (.iface 127 (.pointer (some ⟨L.b (.q i), 3, none⟩)))).setIfInBounds 8 (.int .i64 left) := by
    unfold taskCells
    rw [kT_set (k := k.leave m) hm]
    show #[_, _, _, _, _, _, _, L1.on (some (64 + i)), _, _] = _
    rw [on_sam S1.out, on_empty hi8]
    rfl
   rw [e4]
   exact hq4
 have hBW : Below B w W := by rw [hW]; exact ((B1.out.setCell (p := ⟨L.b (.t m), 3, none⟩) hlowT _).setCell (p := ⟨L.b (.t m), 7, none⟩) hlowT _).setCell (p := ⟨L.b (.t m), 8, none⟩) hlowT _
 have HBW := zh hBW
 have hzW := hBW.size
 clear hBW hW t3 t7 t8 f3 f7 f8 a0' a1
 have eH : L1.b (.q i) = L.b (.q i) := S1.out (.q i) rfl
 obtain ⟨hd1, hd2⟩ := hK4.out.headCell (x := 64 + i) (by omega) (by rw [q1]; exact hi)
 rw [q1, q2, eH] at hd1 hd2
 have hltH := hK4.out.lt (c := .q i) hi
 rw [eH] at hltH
 have hlowH := hK4.out.low (.q i) hi
 rw [eH] at hlowH
 obtain ⟨gl, hgl⟩ : ∃ gl, gl = (if L1.nil (.l (64 + i)) then none else some (L1.b (.l (64 + i)))) := ⟨_, rfl⟩
 have hLH := hK4.out.head (x := 64 + i) (by omega)
 rw [← hgl] at hLH
 have hlen5 : (((k.leave m).setT m fun t => { t with state := 1, on := some (64 + i), left := left }).l (64 + i)).length ≤ 1000000 := by
  show ((k.setL ((k.t m).prio).toNat (·.erase (m : Int))).l (64 + i)).length ≤ 1000000
  by_cases e : 64 + i = ((k.t m).prio).toNat
  ·rw [← e]
   by_cases h72 : k.lst.length = 72
   ·rw [setL_same h72 (by omega)]
    have := List.length_erase_le (a := (m : Int)) (l := k.l (64 + i))
    have := hlens (64 + i)
    omega
   ·exact absurd hK4.out.lens (by show ¬ (k.lst.modify _ _).length = 72; rw [List.length_modify]; exact h72)
  ·rw [setL_other e]
   have := hlens (64 + i)
   omega
 have HLA : Hid (LHead (W.alloc (.cells #[.int .i64 m] 3)) (L1.hd (.l (64 + i)) (((k.leave m).setT m fun t => { t with state := 1, on := some (64 + i), left := left }).l (64 + i)).length) (((k.leave m).setT m fun t => { t with state := 1, on := some (64 + i), left := left }).l (64 + i)) gl) := hLH.keep fun b hb => zo W _ b hb
 have hnew : (W.alloc (.cells #[.int .i64 m] 3)).cell? ⟨W.heap.size, 0, none⟩ = some (.int .i64 m) := (zm W 3 #[.int .i64 m]).cell 0
 have hgnot : ∀ b, (L1.nil (.l (64 + i)) = false → b ≠ L1.b (.l (64 + i))) → gl ≠ some b := by
  intro b hne e
  rw [hgl] at e
  cases hn : L1.nil (.l (64 + i)) with
  | true => rw [hn, if_pos rfl] at e; cases e
  | false => rw [hn] at e; exact hne hn (by simpa using e.symm)
 have hneH : gl ≠ some (L.b (.q i)) := hgnot _ fun hn e => by
  have := hK4.out.apart (.q i) (.l (64 + i)) hi ⟨by omega, hn⟩ (by rw [eH]; exact e)
  cases this
 generalize hVV : L1.hd (.l (64 + i)) (((k.leave m).setT m fun t => { t with state := 1, on := some (64 + i), left := left }).l (64 + i)).length = VV at *
 have HGL := zh hgl
 clear hLH hVV hgl
 go_wp2_with fail
 refine (line_empty _ _).mono ?_
 rintro e w2 ⟨rfl, rfl⟩
 go_wp2_with (at_builtin; refine wpList_append_list rfl _ _ rfl (by rfl) HLA.out hlen5 (m : Int) ⟨W.heap.size, 0, none⟩ 1 (by rfl) hnew ?_)
 intro v' w5 hap
 obtain ⟨g5, hv5, hg5, hs5, hgr5⟩ := hap
 obtain ⟨A5, c5, e5⟩ := hv5.slice
 subst e5
 have z2 := (zq (a := ⟨L.b (.q i), 3, none⟩) (hs5 _ (by simp; omega) hneH)).trans ((zw W _ ⟨L.b (.q i), 3, none⟩ hltH).trans hd1)
 have z3 := (zx (a := ⟨L.b (.q i), 3, none⟩) (hs5 _ (by simp; omega) hneH)).trans ((zx (a := ⟨L.b (.q i), 3, none⟩) (zo W _ _ hltH)).trans hd2)
 go_wp2_with fail
 go_end0
 have hzz : B ≤ (W.alloc (.cells #[.int .i64 m] 3)).heap.size := by simp; omega
 obtain ⟨L', k5, s5⟩ := (hK4.out.below ((zr W.heap.size W).alloc (zl _) (.cells #[.int .i64 m] 3))).putList (f := (· ++ [(m : Int)])) (x := 64 + i) (by omega) (by rw [q1]; exact hi) hv5 (fun b hb hne => hs5 b hb (hgnot b hne)) (fun b hb => own_or hb (HGL.out ▸ hg5)) hzz
 rw [q1, q2, eH] at k5
 rw [List.length_append, List.length_singleton] at k5
 refine ⟨rfl, L', k5, S1.out.trans s5, ((HBW.out.alloc (by omega) _).grown hgr5 (by simp; omega) (fun b hb => ?_)).setCell (p := ⟨L.b (.q i), 3, none⟩) hlowH _⟩
 rw [HGL.out] at hb
 split at hb
 ·cases hb
 ·obtain rfl := Option.some.inj hb
  rename_i hn
  exact hK4.out.low (.l (64 + i)) ⟨by omega, by simpa using hn⟩
end Go.Proofs.Ytncbgnpoffolcaa
/-! The calls: the walks of yield and delay. -/
namespace Go.Proofs.Ytncbgnpoffolcaa
open Go.RowKit
/-- What a call leaves. -/
def CallPost (w : World) (B : Nat) (k' : Kn.K) (L : Lay) (e : Ending) (w' : World) : Prop := e = .returned (.tuple #[]) ∧ ∃ L', KM w' B k' L' ∧ Sam L L' ∧ Below B w w'
set_option maxRecDepth 100000 in
set_option maxHeartbeats 16000000 in
theorem yield_any {w : World} {B : Nat} {k : Kn.K} {L : Lay} {m : Nat} {o : Kn.Op} (h : KM w B k L) (hk : Kn.Ok k) (hm : m < k.tasks.length) (hB : B ≤ w.heap.size) (_hs : (kT k m).state = 0) :
 Calls Try.prog 60 #[callV L m o] w (CallPost w B (k.yield m) L) := by
 obtain ⟨p0, p1⟩ := hk.inv.prio m hm
 obtain ⟨p, hp⟩ := Int.eq_ofNat_of_zero_le p0
 have hp' : (kT k m).prio = p := hp
 have hp32 : p < 32 := by omega
 have ip : (p : Int) < 32 := by omega
 obtain ⟨W, hW⟩ : ∃ W, W = w.alloc (.cells #[.pointer (some ⟨L.b .ker, 0, none⟩), .int .i64 m, .pointer (some ⟨L.b (.t m), 0, none⟩), .int .i64 o.kind, .int .i64 o.a, .int .i64 o.b] 112) := ⟨_, rfl⟩
 have hbb : Below w.heap.size w W := by rw [hW]; exact (zr _ _).alloc (zl _) _
 have hK := h.below hbb
 have wc : Whole W w.heap.size 112 #[.pointer (some ⟨L.b .ker, 0, none⟩), .int .i64 m, .pointer (some ⟨L.b (.t m), 0, none⟩), .int .i64 o.kind, .int .i64 o.a, .int .i64 o.b] := by rw [hW]; exact zm w 112 _
 have hoW : Out W k L w.heap.size := ⟨wc.lt, fun c hc e => by have := h.lt hc; omega⟩
 have hBW : Below B w W := hbb.mono hB
 have hzW := hBW.size
 have HLV := zh (leave_near hK hk.fine (by decide) hm (by omega))
 have c0 : W.cell? ⟨w.heap.size, 0, none⟩ = some (.pointer (some ⟨L.b .ker, 0, none⟩)) := wc.cell 0
 have c1 : W.cell? ⟨w.heap.size, 1, none⟩ = some (.int .i64 m) := wc.cell 1
 have hlen5 : ((k.leave m).l p).length ≤ 1000000 := by
  have := (hk.fine.leave (n := (m : Int))).len p
  omega
 have EY : Hid (k.yield m = ((k.leave m).setL p (· ++ [(m : Int)])).say m 0) := by
  show Kn.K.say (Kn.K.setL _ ((kT k m).prio).toNat _) _ _ = _
  rw [hp']
  rfl
 have HW := zh hW
 have WC := zh wc
 have OW := zh hoW
 have BW := zh hBW
 clear h hk hW wc hoW hBW hbb hK hp p0 p1
 unfold Lay.ptr at HLV
 unfold callV
 go_enter Try.func60, Try.ntmps60
 go_upto_region 1 with fail
 rw [← HW.out]
 go_wp2_with (go_at_call 56; refine HLV.out.mono ?_; rintro e w1 ⟨rfl, L1, k1, s1, b1, n1, o1⟩)
 have eK : L1.b .ker = L.b .ker := s1 .ker rfl
 have eT : L1.b (.t m) = L.b (.t m) := s1 (.t m) rfl
 have wc1 : Whole w1 w.heap.size 112 #[.pointer (some ⟨L.b .ker, 0, none⟩), .int .i64 m, .pointer (some ⟨L.b (.t m), 0, none⟩), .int .i64 o.kind, .int .i64 o.a, .int .i64 o.b] := WC.out.same (o1 _ OW.out)
 have ow1 : Out w1 (k.leave m) L1 w.heap.size := OW.out.near n1 b1.size
 clear c0 c1
 have c0 : w1.cell? ⟨w.heap.size, 0, none⟩ = some (.pointer (some ⟨L.b .ker, 0, none⟩)) := wc1.cell 0
 have c1 : w1.cell? ⟨w.heap.size, 1, none⟩ = some (.int .i64 m) := wc1.cell 1
 have c2 : w1.cell? ⟨w.heap.size, 2, none⟩ = some (.pointer (some ⟨L.b (.t m), 0, none⟩)) := wc1.cell 2
 have c3 : w1.cell? ⟨w.heap.size, 3, none⟩ = some (.int .i64 o.kind) := wc1.cell 3
 have c4 : w1.cell? ⟨w.heap.size, 4, none⟩ = some (.int .i64 o.a) := wc1.cell 4
 have c5 : w1.cell? ⟨w.heap.size, 5, none⟩ = some (.int .i64 o.b) := wc1.cell 5
 have wt := k1.task (i := m) hm
 rw [eT] at wt
 have t2 : w1.cell? ⟨L.b (.t m), 2, none⟩ = some (.int .i64 (kT k m).prio) := wt.cell 2
 rw [hp'] at t2
 have hz1 := b1.size
 have hB1 : B ≤ w1.heap.size := by omega
 have hlive : (holder p).live (k.leave m) L1 := by rw [(holder_row hp32).1]; trivial
 have c43 := k1.row hp32
 rw [eK] at c43
 have c44 : w1.frozen? ⟨L.b .ker, 4 + p, none⟩ = false := by have := k1.ker.frozen (4 + p); rw [eK] at this; exact this
 have hltK : L.b .ker < w1.heap.size := by have := k1.lt (c := .ker) trivial; rw [eK] at this; exact this
 have hltT : L.b (.t m) < w1.heap.size := wt.lt
 have hbd : Below w1.heap.size w1 ((w1.alloc (.cells #[.int .i64 m] 3)).drew) := ((zr w1.heap.size w1).alloc (zl _) _).drew
 obtain ⟨gl, hLH, hap⟩ := k1.push (m : Int) (show p < 72 by omega) hlive hbd hB1
 have HAP := zh hap
 have HLA := zh hLH
 have hnew : ((w1.alloc (.cells #[.int .i64 m] 3)).drew).cell? ⟨w1.heap.size, 0, none⟩ = some (.int .i64 m) := (zm w1 3 #[.int .i64 m]).cell 0
 generalize hVV : L1.hd (.l p) ((k.leave m).l p).length = VV at *
 have c43a : ((w1.alloc (.cells #[.int .i64 m] 3)).drew).cell? ⟨L.b .ker, 4 + p, none⟩ = some VV := (zw w1 _ ⟨L.b .ker, 4 + p, none⟩ hltK).trans c43
 have hlowK := k1.low .ker trivial
 rw [eK] at hlowK
 have hlt5 : w.heap.size < w1.heap.size := ow1.1
 have hgK := ow1.2 .ker trivial
 rw [eK] at hgK
 have hgT := ow1.2 (.t m) hm
 rw [eT] at hgT
 have hKT : L.b .ker ≠ L.b (.t m) := fun e => by cases k1.apart .ker (.t m) trivial hm (by rw [eK, eT]; exact e)
 have hKT2 : L.b (.t m) ≠ L.b .ker := fun e => hKT e.symm
 have hgK2 : w.heap.size ≠ L.b .ker := fun e => hgK e.symm
 have S1 := zh s1
 have B1 := zh b1
 have WC1 := zh wc1
 have OW1 := zh ow1
 have WT := zh wt
 clear k1 s1 b1 n1 o1 wc1 ow1 wt hap hLH hVV
 go_upto_region 2 with fail
 refine wp_region_held_drew (S := fun w' => w'.cell? ⟨w.heap.size, 0, none⟩ = some (.pointer (some ⟨L.b .ker, 0, none⟩)) ∧ w'.cell? ⟨w.heap.size, 1, none⟩ = some (.int .i64 m) ∧ w'.cell? ⟨w.heap.size, 2, none⟩ = some (.pointer (some ⟨L.b (.t m), 0, none⟩)) ∧ w'.cell? ⟨L.b (.t m), 2, none⟩ = some (.int .i64 p)) (by kernel_rfl) ?_ (fun hHeld => ?_)
 ·(try dsimp only)
  refine ⟨?_, ?_, ?_, ?_⟩ <;> go_keep
 refine tkH 0 (v := ?_) ?_ ?_; rotate_left 2
 refine tkH 1 (v := ?_) ?_ ?_; rotate_left 2
 refine tkH 2 (v := ?_) ?_ ?_; rotate_left 2
 refine tkH 3 (v := ?_) ?_ ?_; rotate_left 2
 refine tkH 4 (v := ?_) ?_ ?_; rotate_left 2
 refine tkH 5 (v := ?_) ?_ ?_; rotate_left 2
 refine tkH 6 (v := ?_) ?_ ?_; rotate_left 2
 refine tkH 7 (v := ?_) ?_ ?_; rotate_left 2
 refine tkH 8 (v := ?_) ?_ ?_; rotate_left 2
 refine tkH 9 (v := ?_) ?_ ?_; rotate_left 2
 refine tkH 10 (v := ?_) ?_ ?_; rotate_left 2
 refine tkH 11 (v := ?_) ?_ ?_; rotate_left 2
 refine tkH 12 (v := ?_) ?_ ?_; rotate_left 2
 refine tkH 13 (v := ?_) ?_ ?_; rotate_left 2
 refine tkH 14 (v := ?_) ?_ ?_; rotate_left 2
 refine tkH 15 (v := ?_) ?_ ?_; rotate_left 2
 refine tkH 16 (v := ?_) ?_ ?_; rotate_left 2
 refine tkH 18 (v := ?_) ?_ ?_; rotate_left 2
 refine tkH 19 (v := ?_) ?_ ?_; rotate_left 2
 refine tkH 22 (v := ?_) ?_ ?_; rotate_left 2
 refine tkH 23 (v := ?_) ?_ ?_; rotate_left 2
 rotate_left
 iterate 21 (rotate_left; focus (intro w hSw; (try dsimp only at hSw); obtain ⟨hS0, hS1, hS2, hS3⟩ := hSw; go_simp; with_reducible rfl))
 try simp only [Act.put, p1, p2, p3, p4, p5, p6]
 refine wpAnyH_ready (rs := [17, 20]) (by kernel_rfl) (by simp) ?_
 refine AllReadyH.cons rfl (fun K hK => ?_) ?_
 ·go_simp
  refine hK.out _ _ ?_ (fun hHeld => ?_)
  ·(try dsimp only)
   refine ⟨?_, ?_, ?_, ?_⟩ <;> go_keep
  clear hK K
  try simp only [Act.put, p4, p5, p6]
  refine wpAnyH_ready (rs := [20]) (by kernel_rfl) (by simp) ?_
  refine AllReadyH.cons rfl (fun K hK => ?_) ?_
  ·go_simp
   refine hK.out _ _ ?_ (fun hHeld => ?_)
   ·(try dsimp only)
    refine ⟨?_, ?_, ?_, ?_⟩ <;> go_keep
   clear hK K
   try simp only [Act.put, p4, p5, p6]
   refine wpAnyH_ready (rs := [21]) (by kernel_rfl) (by simp) ?_
   refine AllReadyH.cons rfl (fun K hK => ?_) ?_
   ·(refine step_append_list rfl _ _ rfl (by rfl) HLA.out hlen5 (m : Int) ⟨w1.heap.size, 0, none⟩ 1 (by rfl) (by exact hnew) ?_; intro v' w5 hpost; obtain ⟨⟨A5, c5', e5⟩, hk5, hb5, hkm5, ho5⟩ := HAP.out v' w5 hpost; subst e5; have z2 : w5.cell? ⟨L.b .ker, 4 + p, none⟩ = some VV := (zq (a := ⟨L.b .ker, 4 + p, none⟩) (by rw [← eK]; exact hk5 .ker (by simp) trivial)).trans c43; have z3 : w5.frozen? ⟨L.b .ker, 4 + p, none⟩ = false := (zx (a := ⟨L.b .ker, 4 + p, none⟩) (by rw [← eK]; exact hk5 .ker (by simp) trivial)).trans c44; have z4 : w5.cell? ⟨L.b (.t m), 2, none⟩ = some (.int .i64 p) := (zq (a := ⟨L.b (.t m), 2, none⟩) (by rw [← eT]; exact hk5 (.t m) (by simp) hm)).trans t2; have wc5 := WC1.out.same (ho5 _ OW1.out); have y0 : w5.cell? ⟨w.heap.size, 0, none⟩ = some (.pointer (some ⟨L.b .ker, 0, none⟩)) := wc5.cell 0; have y1 : w5.cell? ⟨w.heap.size, 1, none⟩ = some (.int .i64 m) := wc5.cell 1; have y2 : w5.cell? ⟨w.heap.size, 2, none⟩ = some (.pointer (some ⟨L.b (.t m), 0, none⟩)) := wc5.cell 2)
    refine hK.out _ _ ?_ (fun hHeld => ?_)
    ·(try dsimp only)
     refine ⟨?_, ?_, ?_, ?_⟩ <;> go_keep
    clear hK K
    try simp only [Act.put, p4]
    refine tkH 24 (v := ?_) ?_ ?_; rotate_left 2
    rotate_left
    iterate 1 (rotate_left; focus (intro w hSw; (try dsimp only at hSw); obtain ⟨hS0, hS1, hS2, hS3⟩ := hSw; go_simp; with_reducible rfl))
    try simp only [Act.put, p1, p2, p3, p4, p5, p6]
    refine wpAnyH_ready (rs := [25]) (by kernel_rfl) (by simp) ?_
    refine AllReadyH.cons rfl (fun K hK => ?_) ?_
    ·go_simp
     refine hK.out _ _ ?_ (fun hHeld => ?_)
     ·(try dsimp only)
      refine ⟨?_, ?_, ?_, ?_⟩ <;> go_keep
     clear hK K
     try simp only [Act.put, p4, p5, p6]
     refine wpAnyH_done (by kernel_rfl) ?_ _
     obtain ⟨L', k6, s6, n6⟩ := hkm5
     rw [(holder_row hp32).1, (holder_row hp32).2, eK] at k6
     have hz5 := hb5.size
     obtain ⟨W6, hW6⟩ : ∃ W6, W6 = w5.setCell ⟨L.b .ker, 4 + p, none⟩ (.slice A5 (((k.leave m).l p).length + 1) c5') := ⟨_, rfl⟩
     have wc6 : Whole W6 w.heap.size 112 #[.pointer (some ⟨L.b .ker, 0, none⟩), .int .i64 m, .pointer (some ⟨L.b (.t m), 0, none⟩), .int .i64 o.kind, .int .i64 o.a, .int .i64 o.b] := by rw [hW6]; exact wc5.far hgK2 _
     rw [← hW6] at k6 ⊢
     have hz6 : W6.heap.size = w5.heap.size := by rw [hW6, World.size_setCell]
     have HS := zh (say_any (o := o) (m := m) 0 k6 hm (by omega))
     have eK6 : L'.b .ker = L.b .ker := (s6 .ker rfl).trans eK
     have eT6 : L'.b (.t m) = L.b (.t m) := (s6 (.t m) rfl).trans eT
     unfold callV at HS
     rw [eK6, eT6] at HS
     clear y0 y1 y2 z2 z3 z4 c0 c1 c2 c3 c4 c5
     have d0 : W6.cell? ⟨w.heap.size, 0, none⟩ = some (.pointer (some ⟨L.b .ker, 0, none⟩)) := wc6.cell 0
     have d1 : W6.cell? ⟨w.heap.size, 1, none⟩ = some (.int .i64 m) := wc6.cell 1
     have d2 : W6.cell? ⟨w.heap.size, 2, none⟩ = some (.pointer (some ⟨L.b (.t m), 0, none⟩)) := wc6.cell 2
     have d3 : W6.cell? ⟨w.heap.size, 3, none⟩ = some (.int .i64 o.kind) := wc6.cell 3
     have d4 : W6.cell? ⟨w.heap.size, 4, none⟩ = some (.int .i64 o.a) := wc6.cell 4
     have d5 : W6.cell? ⟨w.heap.size, 5, none⟩ = some (.int .i64 o.b) := wc6.cell 5
     have B6 : Hid (Below B w1 W6) := by show Below _ _ _; rw [hW6]; exact hb5.setCell (p := ⟨L.b .ker, 4 + p, none⟩) hlowK _
     have S6 := zh s6
     clear k6 s6 n6 ho5 hb5 hk5 wc5 wc6 hW6
     go_wp2_with (go_at_call 83; refine HS.out.mono ?_; rintro e w7 ⟨rfl, k7, b7⟩)
     go_wp2_with fail
     go_end0
     rw [EY.out]
     exact ⟨rfl, L', k7, S1.out.trans S6.out, ((BW.out.trans B1.out).trans B6.out).trans b7⟩
    exact AllReadyH.nil
   exact AllReadyH.nil
  exact AllReadyH.nil
 refine AllReadyH.cons rfl (fun K hK => ?_) ?_
 ·go_simp
  refine hK.out _ _ ?_ (fun hHeld => ?_)
  ·(try dsimp only)
   refine ⟨?_, ?_, ?_, ?_⟩ <;> go_keep
  clear hK K
  try simp only [Act.put, p4, p5, p6]
  refine wpAnyH_ready (rs := [17]) (by kernel_rfl) (by simp) ?_
  refine AllReadyH.cons rfl (fun K hK => ?_) ?_
  ·go_simp
   refine hK.out _ _ ?_ (fun hHeld => ?_)
   ·(try dsimp only)
    refine ⟨?_, ?_, ?_, ?_⟩ <;> go_keep
   clear hK K
   try simp only [Act.put, p4, p5, p6]
   refine wpAnyH_ready (rs := [21]) (by kernel_rfl) (by simp) ?_
   refine AllReadyH.cons rfl (fun K hK => ?_) ?_
   ·(refine step_append_list rfl _ _ rfl (by rfl) HLA.out hlen5 (m : Int) ⟨w1.heap.size, 0, none⟩ 1 (by rfl) (by exact hnew) ?_; intro v' w5 hpost; obtain ⟨⟨A5, c5', e5⟩, hk5, hb5, hkm5, ho5⟩ := HAP.out v' w5 hpost; subst e5; have z2 : w5.cell? ⟨L.b .ker, 4 + p, none⟩ = some VV := (zq (a := ⟨L.b .ker, 4 + p, none⟩) (by rw [← eK]; exact hk5 .ker (by simp) trivial)).trans c43; have z3 : w5.frozen? ⟨L.b .ker, 4 + p, none⟩ = false := (zx (a := ⟨L.b .ker, 4 + p, none⟩) (by rw [← eK]; exact hk5 .ker (by simp) trivial)).trans c44; have z4 : w5.cell? ⟨L.b (.t m), 2, none⟩ = some (.int .i64 p) := (zq (a := ⟨L.b (.t m), 2, none⟩) (by rw [← eT]; exact hk5 (.t m) (by simp) hm)).trans t2; have wc5 := WC1.out.same (ho5 _ OW1.out); have y0 : w5.cell? ⟨w.heap.size, 0, none⟩ = some (.pointer (some ⟨L.b .ker, 0, none⟩)) := wc5.cell 0; have y1 : w5.cell? ⟨w.heap.size, 1, none⟩ = some (.int .i64 m) := wc5.cell 1; have y2 : w5.cell? ⟨w.heap.size, 2, none⟩ = some (.pointer (some ⟨L.b (.t m), 0, none⟩)) := wc5.cell 2)
    refine hK.out _ _ ?_ (fun hHeld => ?_)
    ·(try dsimp only)
     refine ⟨?_, ?_, ?_, ?_⟩ <;> go_keep
    clear hK K
    try simp only [Act.put, p4]
    refine tkH 24 (v := ?_) ?_ ?_; rotate_left 2
    rotate_left
    iterate 1 (rotate_left; focus (intro w hSw; (try dsimp only at hSw); obtain ⟨hS0, hS1, hS2, hS3⟩ := hSw; go_simp; with_reducible rfl))
    try simp only [Act.put, p1, p2, p3, p4, p5, p6]
    refine wpAnyH_ready (rs := [25]) (by kernel_rfl) (by simp) ?_
    refine AllReadyH.cons rfl (fun K hK => ?_) ?_
    ·go_simp
     refine hK.out _ _ ?_ (fun hHeld => ?_)
     ·(try dsimp only)
      refine ⟨?_, ?_, ?_, ?_⟩ <;> go_keep
     clear hK K
     try simp only [Act.put, p4, p5, p6]
     refine wpAnyH_done (by kernel_rfl) ?_ _
     obtain ⟨L', k6, s6, n6⟩ := hkm5
     rw [(holder_row hp32).1, (holder_row hp32).2, eK] at k6
     have hz5 := hb5.size
     obtain ⟨W6, hW6⟩ : ∃ W6, W6 = w5.setCell ⟨L.b .ker, 4 + p, none⟩ (.slice A5 (((k.leave m).l p).length + 1) c5') := ⟨_, rfl⟩
     have wc6 : Whole W6 w.heap.size 112 #[.pointer (some ⟨L.b .ker, 0, none⟩), .int .i64 m, .pointer (some ⟨L.b (.t m), 0, none⟩), .int .i64 o.kind, .int .i64 o.a, .int .i64 o.b] := by rw [hW6]; exact wc5.far hgK2 _
     rw [← hW6] at k6 ⊢
     have hz6 : W6.heap.size = w5.heap.size := by rw [hW6, World.size_setCell]
     have HS := zh (say_any (o := o) (m := m) 0 k6 hm (by omega))
     have eK6 : L'.b .ker = L.b .ker := (s6 .ker rfl).trans eK
     have eT6 : L'.b (.t m) = L.b (.t m) := (s6 (.t m) rfl).trans eT
     unfold callV at HS
     rw [eK6, eT6] at HS
     clear y0 y1 y2 z2 z3 z4 c0 c1 c2 c3 c4 c5
     have d0 : W6.cell? ⟨w.heap.size, 0, none⟩ = some (.pointer (some ⟨L.b .ker, 0, none⟩)) := wc6.cell 0
     have d1 : W6.cell? ⟨w.heap.size, 1, none⟩ = some (.int .i64 m) := wc6.cell 1
     have d2 : W6.cell? ⟨w.heap.size, 2, none⟩ = some (.pointer (some ⟨L.b (.t m), 0, none⟩)) := wc6.cell 2
     have d3 : W6.cell? ⟨w.heap.size, 3, none⟩ = some (.int .i64 o.kind) := wc6.cell 3
     have d4 : W6.cell? ⟨w.heap.size, 4, none⟩ = some (.int .i64 o.a) := wc6.cell 4
     have d5 : W6.cell? ⟨w.heap.size, 5, none⟩ = some (.int .i64 o.b) := wc6.cell 5
     have B6 : Hid (Below B w1 W6) := by show Below _ _ _; rw [hW6]; exact hb5.setCell (p := ⟨L.b .ker, 4 + p, none⟩) hlowK _
     have S6 := zh s6
     clear k6 s6 n6 ho5 hb5 hk5 wc5 wc6 hW6
     go_wp2_with (go_at_call 83; refine HS.out.mono ?_; rintro e w7 ⟨rfl, k7, b7⟩)
     go_wp2_with fail
     go_end0
     rw [EY.out]
     exact ⟨rfl, L', k7, S1.out.trans S6.out, ((BW.out.trans B1.out).trans B6.out).trans b7⟩
    exact AllReadyH.nil
   exact AllReadyH.nil
  exact AllReadyH.nil
 exact AllReadyH.nil
end Go.Proofs.Ytncbgnpoffolcaa
/-! A byte more behind what was written: what the memory is then. -/
namespace Go.Proofs.Ytncbgnpoffolcaa
open Go.RowKit
def outV (l : List UInt8) : List Value := l.map fun b => .int .u8 b.toNat
def Lay.seto (L : Lay) (g cap : Nat) : Lay :=
 { L with b := fun c => if c = .out then g else L.b c, off := fun c => if c = .out then 0 else L.off c, cap := fun c => if c = .out then cap else L.cap c, nil := fun c => if c = .out then false else L.nil c }
section
variable {w : World} {B : Nat} {k : Kn.K} {L : Lay} {g cap : Nat} {l : List UInt8}
theorem seto_b {c : Part} (h : c ≠ .out) : (L.seto g cap).b c = L.b c := by simp [Lay.seto, h]
theorem seto_hd {c : Part} (h : c ≠ .out) (n : Nat) : (L.seto g cap).hd c n = L.hd c n := by simp [Lay.seto, Lay.hd, h]
theorem seto_ptr {c : Part} (h : c ≠ .out) (n : Nat) : (L.seto g cap).ptr c n = L.ptr c n := by simp [Lay.seto, Lay.ptr, h]
theorem seto_on (o : Option Nat) : (L.seto g cap).on o = L.on o := by
 unfold Lay.on
 rcases o with _ | y
 ·rfl
 ·simp only [seto_ptr (show Part.s (y - 32) ≠ .out by simp), seto_ptr (show Part.m (y - 40) ≠ .out by simp), seto_ptr (show Part.q (y - 56) ≠ .out by simp), seto_ptr (show Part.q (y - 64) ≠ .out by simp)]
theorem seto_ker : kerCells { k with out := l } (L.seto g cap) = (kerCells k L).setIfInBounds 36 ((L.seto g cap).hd .out l.length) := by
 unfold kerCells
 have e : (List.range 32).map (fun p => (L.seto g cap).hd (.l p) (({ k with out := l } : Kn.K).l p).length) = (List.range 32).map (fun p => L.hd (.l p) (k.l p).length) := by
  apply List.map_congr_left
  intro p _
  rw [seto_hd (by simp)]
  rfl
 rw [e]
 simp only [seto_hd (show Part.ta ≠ .out by simp), seto_hd (show Part.sa ≠ .out by simp), seto_hd (show Part.ma ≠ .out by simp), seto_hd (show Part.qa ≠ .out by simp)]
 rw [List.setIfInBounds_toArray, List.set_append_right _ _ (by simp)]
 simp
theorem seto_live {c : Part} (h : c ≠ .out) : c.live { k with out := l } (L.seto g cap) ↔ c.live k L := by
 cases c with
 | out => exact absurd rfl h
 | l y => simp [Part.live, Lay.seto]
 | ta => simp [Part.live, Lay.seto]
 | sa => simp [Part.live, Lay.seto]
 | ma => simp [Part.live, Lay.seto]
 | qa => simp [Part.live, Lay.seto]
 | _ => exact Iff.rfl
theorem seto_cont {c : Part} {ob : Option Obj} (h : c ≠ .out) (hk : c ≠ .ker) (hc : c.cont k L ob) : c.cont { k with out := l } (L.seto g cap) ob := by
 have ec : ∀ d : Part, d ≠ .out → (L.seto g cap).cap d = L.cap d := fun d hd => by simp [Lay.seto, hd]
 have eo : ∀ d : Part, d ≠ .out → (L.seto g cap).off d = L.off d := fun d hd => by simp [Lay.seto, hd]
 cases c with
 | out => exact absurd rfl h
 | ker => exact absurd rfl hk
 | l y =>
   show ListIs ob _ _ _
   rw [ec _ (by simp), eo _ (by simp)]
   exact hc
 | t i =>
   show ob = _
   have e : taskCells { k with out := l } (L.seto g cap) i = taskCells k L i := by
    unfold taskCells
    rw [seto_on, seto_b (show Part.lp i ≠ .out by simp), ec _ (by simp)]
    rfl
   rw [e]
   exact hc
 | s i =>
   show ob = _
   rw [seto_hd (by simp)]
   exact hc
 | m i =>
   show ob = _
   rw [seto_hd (by simp)]
   exact hc
 | q i =>
   show ob = _
   rw [seto_hd (by simp), seto_hd (by simp), seto_hd (by simp)]
   exact hc
 | o i =>
   obtain ⟨q1, q2⟩ := hc
   refine ⟨?_, q2⟩
   rw [seto_b (by simp)]
   exact q1
 | lp i => exact hc
 | ta =>
   obtain ⟨q1, q2⟩ := hc
   refine ⟨by rw [eo _ (by simp)]; exact q1, ?_⟩
   rw [ec _ (by simp)]
   exact q2
 | sa =>
   obtain ⟨q1, q2⟩ := hc
   refine ⟨by rw [eo _ (by simp)]; exact q1, ?_⟩
   rw [ec _ (by simp)]
   exact q2
 | ma =>
   obtain ⟨q1, q2⟩ := hc
   refine ⟨by rw [eo _ (by simp)]; exact q1, ?_⟩
   rw [ec _ (by simp)]
   exact q2
 | qa =>
   obtain ⟨q1, q2⟩ := hc
   refine ⟨by rw [eo _ (by simp)]; exact q1, ?_⟩
   rw [ec _ (by simp)]
   exact q2
theorem KM.outRow (h : KM w B k L) : w.ownsRow B 5 1 (L.hd .out k.out.length) k.out.length (outV k.out) := by
 refine ⟨by simp [outV], ?_⟩
 cases hn : L.nil .out with
 | true =>
   left
   exact ⟨by simp [Lay.hd, hn], h.nil.2.2.2.2.1 hn⟩
 | false =>
   right
   obtain ⟨q1, cur, q2, q3, q4, q5, q6⟩ := h.cont .out hn
   exact ⟨L.b .out, L.cap .out, cur, by simp [Lay.hd, hn, q1], h.low .out hn, q2, q3, q4, by omega, by rw [Nat.mul_one]; exact q6⟩
/-- A byte more. -/
theorem KM.pushOut {W1 w5 : World} (b : UInt8) (h : KM w B k L) (hb1 : Below w.heap.size w W1) (hB : B ≤ w.heap.size) {g cap : Nat} (hown : w5.ownsRow B 5 1 (.slice (some ⟨g, 0, none⟩) (k.out.length + 1) cap) (k.out.length + 1) (outV k.out ++ [.int .u8 b.toNat]))
 (hgr : W1.grownBy w5 (L.hd .out k.out.length).ownBlock) (hat : (L.hd .out k.out.length).ownBlock = some g ∨ w.heap.size ≤ g) :
 (∀ c : Part, c ≠ .out → c.live k L → w5.heap[L.b c]? = w.heap[L.b c]?) ∧ Below B w w5 ∧ (∀ g, Out w k L g → w5.heap[g]? = w.heap[g]?) ∧
 ∃ L', KM (w5.setCell ⟨L.b .ker, 36, none⟩ (.slice (some ⟨g, 0, none⟩) (k.out.length + 1) cap)) B { k with out := k.out ++ [b] } L' ∧ Sam L L' ∧ Near w.heap.size k L { k with out := k.out ++ [b] } L' := by
 have hz1 := hb1.size
 have hob : ∀ x, (L.hd .out k.out.length).ownBlock = some x → L.nil .out = false ∧ x = L.b .out := fun x hx => by
  cases hn : L.nil .out with
  | true => simp [Lay.hd, hn, Value.ownBlock] at hx
  | false =>
    have q1 := (h.cont .out hn).1
    simp [Lay.hd, hn, q1, Value.ownBlock] at hx
    exact ⟨rfl, hx.symm⟩
 have hkeep : ∀ x, x < w.heap.size → (L.nil .out = false → x ≠ L.b .out) → w5.heap[x]? = w.heap[x]? := fun x hx hne =>
  (hgr.block x (by omega) (fun e => by obtain ⟨e1, e2⟩ := hob x e.symm; exact hne e1 e2)).trans (hb1.block x hx)
 have hfar : ∀ c : Part, c ≠ .out → c.live k L → w5.heap[L.b c]? = w.heap[L.b c]? := fun c hc hcl => hkeep _ (h.lt hcl) (fun hn e => hc (h.apart c .out hcl hn e))
 have hgc : ∀ c : Part, c ≠ .out → c.live k L → g ≠ L.b c := fun c hc hcl e => by
  rcases hat with q | q
  ·obtain ⟨e1, e2⟩ := hob g q
   exact hc (h.apart c .out hcl e1 (by rw [← e, e2]))
  ·have := h.lt hcl
   omega
 refine ⟨hfar, ((zr B w).trans (hb1.mono hB)).grown hgr (by omega) (fun x hx => by obtain ⟨e1, e2⟩ := hob x hx; rw [e2]; exact h.low .out e1), fun x hx => hkeep x hx.1 (fun hn e => hx.2 .out hn e.symm), L.seto g cap, ?_, fun c hc => seto_b (by rintro rfl; cases hc), ?_⟩
 ·have hker := h.ker
  have hbo : (L.seto g cap).b .out = g := by simp [Lay.seto]
  have hhd : (L.seto g cap).hd .out (k.out ++ [b]).length = .slice (some ⟨g, 0, none⟩) (k.out.length + 1) cap := by simp [Lay.seto, Lay.hd]
  have hrow : ∃ cur, w5.heap[g]? = some (.cells cur 5 (0, 0)) ∧ k.out.length + 1 ≤ cap ∧ cap ≤ maxLen ∧ cur.size = cap ∧ cur.toList.take (k.out.length + 1) = outV k.out ++ [.int .u8 b.toNat] := by
   rcases hown.2 with ⟨q, _⟩ | ⟨g', cap', cur, e, _, q1, q2, q3, q4, q5⟩
   ·cases q
   ·injection e with e1 _ e3
    injection e1 with e1
    injection e1 with e1
    subst e1
    subst e3
    exact ⟨cur, q1, q2, q3, by omega, by rw [Nat.mul_one] at q5; exact q5⟩
  refine ⟨fun c hc => ?_, fun c c' h1 h2 e => ?_, fun c hc => ?_, ?_, h.lens, h.few⟩
  ·by_cases eo : c = .out
   ·subst eo
    rw [hbo, zk _ _ _ _ (hgc .ker (by simp) trivial)]
    obtain ⟨cur, q1, q2, q3, q4, q5⟩ := hrow
    refine ⟨by simp [Lay.seto], cur, q1, ?_, ?_, ?_, ?_⟩
    ·simpa [Lay.seto] using q2
    ·simpa [Lay.seto] using q3
    ·simpa [Lay.seto] using q4
    ·show cur.toList.take (k.out ++ [b]).length = _
     rw [List.length_append, List.length_singleton, q5]
     simp [outV]
   ·have hcl := (seto_live eo).1 hc
    rw [seto_b eo]
    by_cases ek : c = .ker
    ·subst ek
     show _ = _
     rw [seto_ker, hhd]
     exact Whole.put (w := w5) (h.ker.same (hfar .ker (by simp) trivial)) 36 _
    ·rw [zk _ _ _ _ (fun e => ek (h.apart c .ker hcl trivial e)), hfar c eo hcl]
     exact seto_cont eo ek (h.cont c hcl)
  ·by_cases e1 : c = .out
   ·by_cases e2 : c' = .out
    ·rw [e1, e2]
    ·subst e1
     rw [hbo, seto_b e2] at e
     exact absurd e (hgc c' e2 ((seto_live e2).1 h2))
   ·by_cases e2 : c' = .out
    ·subst e2
     rw [hbo, seto_b e1] at e
     exact absurd e.symm (hgc c e1 ((seto_live e1).1 h1))
    ·rw [seto_b e1, seto_b e2] at e
     exact h.apart c c' ((seto_live e1).1 h1) ((seto_live e2).1 h2) e
  ·by_cases eo : c = .out
   ·subst eo
    rw [hbo]
    rcases hat with q | q
    ·obtain ⟨e1, e2⟩ := hob g q
     rw [e2]
     exact h.low .out e1
    ·omega
   ·rw [seto_b eo]
    exact h.low c ((seto_live eo).1 hc)
  ·obtain ⟨n1, n2, n3, n4, n5, n6⟩ := h.nil
   exact ⟨fun q => n1 (by simpa [Lay.seto] using q), fun q => n2 (by simpa [Lay.seto] using q), fun q => n3 (by simpa [Lay.seto] using q), fun q => n4 (by simpa [Lay.seto] using q), fun q => by simp [Lay.seto] at q, fun x q => n6 x (by simpa [Lay.seto] using q)⟩
 ·intro c hc
  by_cases eo : c = .out
  ·subst eo
   have hbo : (L.seto g cap).b .out = g := by simp [Lay.seto]
   rw [hbo]
   rcases hat with q | q
   ·obtain ⟨e1, e2⟩ := hob g q
    exact .inl ⟨.out, e1, e2.symm⟩
   ·exact .inr q
  ·exact .inl ⟨c, (seto_live eo).1 hc, by rw [seto_b eo]⟩
end
theorem info5 : (Try.prog.info? 5).map (fun i => (i.zero, i.size, i.bytes)) = some (some (.int .u8 0), 1, 1) := by kernel_rfl
end Go.Proofs.Ytncbgnpoffolcaa
