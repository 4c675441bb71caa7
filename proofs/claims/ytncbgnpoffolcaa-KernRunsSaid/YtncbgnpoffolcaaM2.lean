/-
  A task woken: the walk of wake.
-/
import Derived.Test.YtncbgnpoffolcaaNt
import Derived.Test.YtncbgnpoffolcaaM1
import Derived.Deep.RegionHeld3
import Derived.Deep.DeepCutAuto
/-! A task woken: the walk of wake. -/
namespace Go.Proofs.Ytncbgnpoffolcaa
open Go.RowKit
theorem line_sem (g : Nat) (w : World) : Calls Try.prog 101 #[.pointer (some ⟨g, 0, none⟩)] w fun e w' => e = .returned (.pointer (some ⟨g, 1, none⟩)) ∧ w = w' := by
 go_enter Try.func101, Try.ntmps101
 go_wp2_with fail
 go_ret
 exact ⟨rfl, rfl⟩
theorem line_mutex (g : Nat) (w : World) : Calls Try.prog 102 #[.pointer (some ⟨g, 0, none⟩)] w fun e w' => e = .returned (.pointer (some ⟨g, 1, none⟩)) ∧ w = w' := by
 go_enter Try.func102, Try.ntmps102
 go_wp2_with fail
 go_ret
 exact ⟨rfl, rfl⟩
theorem line_full (g : Nat) (w : World) : Calls Try.prog 103 #[.pointer (some ⟨g, 2, none⟩)] w fun e w' => e = .returned (.pointer (some ⟨g, 2, none⟩)) ∧ w = w' := by
 go_enter Try.func103, Try.ntmps103
 go_wp2_with fail
 go_ret
 exact ⟨rfl, rfl⟩
theorem line_empty (g : Nat) (w : World) : Calls Try.prog 104 #[.pointer (some ⟨g, 3, none⟩)] w fun e w' => e = .returned (.pointer (some ⟨g, 3, none⟩)) ∧ w = w' := by
 go_enter Try.func104, Try.ntmps104
 go_wp2_with fail
 go_ret
 exact ⟨rfl, rfl⟩
section
variable {L : Lay} {i : Nat}
theorem on_sem (h : i < 8) : L.on (some (32 + i)) = .iface 80 (.pointer (some ⟨L.b (.s i), 0, none⟩)) := by
 unfold Lay.on
 simp only []
 rw [if_pos (by omega), Nat.add_sub_cancel_left]
 rfl
theorem on_mutex (h : i < 8) : L.on (some (40 + i)) = .iface 83 (.pointer (some ⟨L.b (.m i), 0, none⟩)) := by
 unfold Lay.on
 simp only []
 rw [if_neg (by omega), if_pos (by omega), Nat.add_sub_cancel_left]
 rfl
theorem on_full (h : i < 8) : L.on (some (56 + i)) = .iface 126 (.pointer (some ⟨L.b (.q i), 2, none⟩)) := by
 unfold Lay.on
 simp only []
 rw [if_neg (by omega), if_neg (by omega), if_pos (by omega), Nat.add_sub_cancel_left]
 rfl
theorem on_empty (h : i < 8) : L.on (some (64 + i)) = .iface 127 (.pointer (some ⟨L.b (.q i), 3, none⟩)) := by
 unfold Lay.on
 simp only []
 rw [if_neg (by omega), if_neg (by omega), if_neg (by omega), Nat.add_sub_cancel_left]
 rfl
end
theorem method_sem (a : Addr) (w : World) : (method 245 80 (.pointer (some a)) "trunnion/kern.line").run Try.prog w = .ok (101, .pointer (some a)) w := by kernel_rfl
theorem method_mutex (a : Addr) (w : World) : (method 245 83 (.pointer (some a)) "trunnion/kern.line").run Try.prog w = .ok (102, .pointer (some a)) w := by kernel_rfl
theorem method_full (a : Addr) (w : World) : (method 245 126 (.pointer (some a)) "trunnion/kern.line").run Try.prog w = .ok (103, .pointer (some a)) w := by kernel_rfl
theorem method_empty (a : Addr) (w : World) : (method 245 127 (.pointer (some a)) "trunnion/kern.line").run Try.prog w = .ok (104, .pointer (some a)) w := by kernel_rfl
theorem holder_sem {i : Nat} (h : i < 8) : holder (32 + i) = .s i ∧ holdAt (32 + i) = 1 := ⟨by unfold holder; rw [if_neg (by omega), if_pos (by omega)]; congr 1; omega, by unfold holdAt; rw [if_neg (by omega), if_pos (by omega)]⟩
theorem holder_mutex {i : Nat} (h : i < 8) : holder (40 + i) = .m i ∧ holdAt (40 + i) = 1 := ⟨by unfold holder; rw [if_neg (by omega), if_neg (by omega), if_pos (by omega)]; congr 1; omega, by unfold holdAt; rw [if_neg (by omega), if_pos (by omega)]⟩
theorem holder_full {i : Nat} (h : i < 8) : holder (56 + i) = .q i ∧ holdAt (56 + i) = 2 := ⟨by unfold holder; rw [if_neg (by omega), if_neg (by omega), if_neg (by omega), if_neg (by omega), if_pos (by omega)]; congr 1; omega, by unfold holdAt; rw [if_neg (by omega), if_neg (by omega), if_pos (by omega)]⟩
theorem holder_empty {i : Nat} (h : i < 8) : holder (64 + i) = .q i ∧ holdAt (64 + i) = 3 := ⟨by unfold holder; rw [if_neg (by omega), if_neg (by omega), if_neg (by omega), if_neg (by omega), if_neg (by omega)]; congr 1; omega, by unfold holdAt; rw [if_neg (by omega), if_neg (by omega), if_neg (by omega)]⟩
theorem own_or {L : Lay} {c : Part} {g' : Option Nat} {n b : Nat} (hb : g' = some b) (hg : (g' = if L.nil c then none else some (L.b c)) ∨ ∃ x, g' = some x ∧ n ≤ x) : (L.nil c = false ∧ b = L.b c) ∨ n ≤ b := by
 rcases hg with h | ⟨x, h, hx⟩
 ·rw [hb] at h
  cases hn : L.nil c with
  | true => rw [hn, if_pos rfl] at h; cases h
  | false => rw [hn] at h; exact .inl ⟨rfl, by simpa using h⟩
 ·rw [hb] at h
  obtain rfl := Option.some.inj h
  exact .inr hx
theorem LHead.keep {w w' : World} {v : Value} {xs : List Int} {g : Option Nat} (h : LHead w v xs g) (hs : ∀ b, b < w.heap.size → w'.heap[b]? = w.heap[b]?) : LHead w' v xs g := by
 rcases h with ⟨h1, h2, h3⟩ | ⟨b, off, cap, h1, h2, h3⟩
 ·exact .inl ⟨h1, h2, h3⟩
 ·refine .inr ⟨b, off, cap, h1, h2, ?_⟩
  obtain ⟨cur, hb, rest⟩ := h3
  exact ⟨cur, (hs b (Array.getElem?_eq_some_iff.1 hb).1).trans hb, rest⟩
theorem wakeBelow {w W4 w5 : World} {B gk p : Nat} {o : Obj} {gl : Option Nat} {v : Value} (h : Below B w W4) (hB : B ≤ W4.heap.size) (hg : ((W4.alloc o).drew).grownBy w5 gl) (hl : ∀ b, gl = some b → B ≤ b) (hk : B ≤ gk) : Below B w (w5.setCell ⟨gk, 4 + p, none⟩ v) :=
 (((h.alloc hB o).drew).grown hg (by simp; omega) hl).setCell (p := ⟨gk, 4 + p, none⟩) hk _
section
variable {w : World} {B M : Nat} {k : Kn.K} {L : Lay} {x : Nat}
/-- What a task waits for, as the code meets it. -/
theorem on_line (h : KM w B k L) (hx : OnOk k x) : x < 72 ∧ 32 ≤ x ∧ (holder x).live k L ∧ (holder x).fixed = true ∧ ∃ T fn a, (fn = 101 ∨ fn = 102 ∨ fn = 103 ∨ fn = 104) ∧ L.on (some x) = .iface T (.pointer (some a)) ∧ (∀ W, (method 245 T (.pointer (some a)) "trunnion/kern.line").run Try.prog W = .ok (fn, .pointer (some a)) W) ∧
 ∀ W, Calls Try.prog fn #[.pointer (some a)] W fun e w' => e = .returned (.pointer (some ⟨L.b (holder x), holdAt x, none⟩)) ∧ W = w' := by
 have hfew := h.few
 rcases hx with ⟨i, rfl, hi⟩ | ⟨i, rfl, hi⟩ | ⟨i, rfl, hi⟩ | ⟨i, rfl, hi⟩
 ·have hi8 : i < 8 := by omega
  rw [(holder_sem hi8).1, (holder_sem hi8).2]
  exact ⟨by omega, by omega, hi, rfl, _, _, _, .inl rfl, on_sem hi8, fun W => method_sem _ W, fun W => line_sem _ W⟩
 ·have hi8 : i < 8 := by omega
  rw [(holder_mutex hi8).1, (holder_mutex hi8).2]
  exact ⟨by omega, by omega, hi, rfl, _, _, _, .inr (.inl rfl), on_mutex hi8, fun W => method_mutex _ W, fun W => line_mutex _ W⟩
 ·have hi8 : i < 8 := by omega
  rw [(holder_full hi8).1, (holder_full hi8).2]
  exact ⟨by omega, by omega, hi, rfl, _, _, _, .inr (.inr (.inl rfl)), on_full hi8, fun W => method_full _ W, fun W => line_full _ W⟩
 ·have hi8 : i < 8 := by omega
  rw [(holder_empty hi8).1, (holder_empty hi8).2]
  exact ⟨by omega, by omega, hi, rfl, _, _, _, .inr (.inr (.inr rfl)), on_empty hi8, fun W => method_empty _ W, fun W => line_empty _ W⟩
end
/-- Behind the line that was left. -/
structure Left (w : World) (B : Nat) (k : Kn.K) (L : Lay) (m p : Nat) (a : Int) (wx : World) (k1 : Kn.K) (L1 : Lay) : Prop where
 mem : KM wx B k1 L1
 eq : k.wake m a = (k1.setT m fun t => { t with state := 0, answer := a, on := none, left := 0 }).setL p (· ++ [(m : Int)])
 len : k1.tasks.length = k.tasks.length
 task : kT k1 m = kT k m
 row : k1.l p = k.l p
 sam : Sam L L1
 bel : Below B w wx
 near : Near w.heap.size k L k1 L1
 out : ∀ g, Out w k L g → wx.heap[g]? = w.heap[g]?
set_option maxRecDepth 100000 in
set_option maxHeartbeats 8000000 in
theorem wake_near {w : World} {B M : Nat} {k : Kn.K} {L : Lay} {m : Nat} (answer : Int) (h : KM w B k L) (hf : Fine k M) (hM : M ≤ 1000000) (hm : m < k.tasks.length) (hB : B ≤ w.heap.size) (hon : ∀ x, (kT k m).on = some x → OnOk k x) :
 Calls Try.prog 55 #[L.ptr .ker 0, .int .i64 m, .int .i64 answer] w fun e w' => e = .returned (.tuple #[]) ∧ ∃ L', KM w' B (k.wake m answer) L' ∧ Sam L L' ∧ Below B w w' ∧ Near w.heap.size k L (k.wake m answer) L' ∧ ∀ g, Out w k L g → w'.heap[g]? = w.heap[g]? := by
 obtain ⟨p0, p1⟩ := hf.prio m hm
 obtain ⟨p, hp⟩ := Int.eq_ofNat_of_zero_le p0
 have hp32 : p < 32 := by omega
 have h0 := h.tasksHead (by omega)
 have h1 := h.taskPtr hm
 have h2 : w.cell? ⟨L.b (.t m), 7, none⟩ = some (L.on (kT k m).on) := (h.task hm).cell 7
 have im : (m : Int) < k.tasks.length := by omega
 have im0 : (0 : Int) ≤ m := by omega
 have ip : (p : Int) < 32 := by omega
 have hmax := hf.tasks
 have hlen1 := hf.len p
 have HK := zh h
 have HF := zh hf
 have HP := zh hp
 have HON := zh hon
 have g1 : ∀ W, (eqGuard .neq 72 (.tmp 18) (.const .nilIface) (L.on (kT k m).on) .nilIface).run Try.prog W = .ok () W := by
  intro W
  rcases hq : (kT k m).on with _ | x
  ·rw [show L.on none = .nilIface from rfl]
   go_simp
  ·obtain ⟨-, -, -, -, T, fn, a, -, e, -⟩ := on_line (L := L) h (hon x hq)
   rw [e]
   go_simp
 have g2 : ∀ W, (binOp .neq 72 (L.on (kT k m).on) .nilIface).run Try.prog W = .ok (.bool (kT k m).on.isSome) W := by
  intro W
  rcases hq : (kT k m).on with _ | x
  ·rw [show L.on none = .nilIface from rfl]
   go_simp
  ·obtain ⟨-, -, -, -, T, fn, a, -, e, -⟩ := on_line (L := L) h (hon x hq)
   rw [e]
   go_simp
 unfold Lay.ptr
 clear h hf hp p0 p1 hon
 go_enter Try.func55, Try.ntmps55
 go_upto_if 19 with fail
 go_cut [] (fun wx => ∃ k1 L1, Left w B k L m p answer wx k1 L1)
 case first =>
  rcases hq : (kT k m).on with _ | x
  ·have EW : k.wake m answer = (k.setT m fun t => { t with state := 0, answer := answer, on := none, left := 0 }).setL p (· ++ [(m : Int)]) := by
    unfold Kn.K.wake
    rw [show (k.t m).on = none from hq]
    simp only []
    show Kn.K.setL _ ((kT _ m).prio).toNat _ = _
    rw [kT_set hm]
    show Kn.K.setL _ ((kT k m).prio).toNat _ = _
    rw [HP.out]
    rfl
   have HE := zh EW
   clear EW hq
   go_wp2_with fail
   go_meet
   exact ⟨k, L, HK.out, HE.out, rfl, rfl, rfl, Sam.refl L, zr B w, Near.same fun _ => Iff.rfl, fun g hg => rfl⟩
  ·obtain ⟨hx72, hx32, hlive, hfix, T, fn, a, hfn, eon, hmt, hcl⟩ := on_line (L := L) HK.out (HON.out x hq)
   have EW : k.wake m answer = ((k.setL x (·.erase (m : Int))).setT m fun t => { t with state := 0, answer := answer, on := none, left := 0 }).setL p (· ++ [(m : Int)]) := by
    unfold Kn.K.wake
    rw [show (k.t m).on = some x from hq]
    simp only []
    show Kn.K.setL _ ((kT _ m).prio).toNat _ = _
    rw [kT_set (k := k.setL x (·.erase (m : Int))) hm]
    show Kn.K.setL _ ((kT k m).prio).toNat _ = _
    rw [HP.out]
    rfl
   have HE := zh EW
   rw [hq, eon] at h2
   obtain ⟨hd1, hd2⟩ := HK.out.headCell (x := x) hx72 hlive
   have HW := zh (without_any (w := w) (m : Int) (HK.out.head (x := x) hx72) (by have := HF.out.len x; omega))
   have hlt := HK.out.lt (c := holder x) hlive
   have HLOW := zh (HK.out.low (holder x) hlive)
   have HCL := zh hcl
   generalize hVx : L.hd (.l x) (k.l x).length = Vx at *
   clear hq EW eon hcl
   rcases hfn with rfl | rfl | rfl | rfl
   all_goals
    go_upto_region 2 with fail
    go_wp2_with fail
    refine (HCL.out _).mono ?_
    rintro e w1 ⟨rfl, rfl⟩
    go_wp2_with fail
    refine HW.out.mono ?_
    rintro e w1 ⟨v', g', rfl, hv', hg', hb'⟩
    obtain ⟨A', c', e'⟩ := hv'.slice
    subst e'
    have y1 := (hb'.cell (p := ⟨L.b (holder x), holdAt x, none⟩) hlt).trans hd1
    have y2 := (zx (a := ⟨L.b (holder x), holdAt x, none⟩) (hb'.block _ hlt)).trans hd2
    have HV' := zh hv'
    have HG' := zh hg'
    have HB' := zh hb'
    clear hv' hg' hb' hVx
    go_wp2_with fail
    go_meet
    obtain ⟨L1, hk1, hs1, hn1⟩ := HK.out.putListN (f := (·.erase (m : Int))) (x := x) hx72 hlive HV'.out (fun b hb _ => HB'.out.block b hb) (fun b hb => own_or hb HG'.out) hB
    exact ⟨_, L1, hk1, HE.out, rfl, rfl, setL_other (by omega), hs1, ((zr B w).trans (HB'.out.mono hB)).setCell HLOW.out _, hn1, fun g hg => (zk _ _ _ _ (fun e => hg.2 (holder x) hlive e.symm)).trans (HB'.out.block g hg.1)⟩
 case rest =>
  obtain ⟨k1, L1, hcut⟩ := hcut
  have HC := zh hcut
  have hm1 : m < k1.tasks.length := by rw [hcut.len]; exact hm
  have ebt : L1.b (.t m) = L.b (.t m) := hcut.sam (.t m) rfl
  have ebk : L1.b .ker = L.b .ker := hcut.sam .ker rfl
  have wt := hcut.mem.task hm1
  rw [ebt] at wt
  have HKT : Hid (kT k1 m = kT k m) := hcut.task
  have f3 := wt.frozen 3
  have f5 := wt.frozen 5
  have f7 := wt.frozen 7
  have f8 := wt.frozen 8
  have t3 : wc.cell? ⟨L.b (.t m), 3, none⟩ = some (.int .i64 (kT k1 m).state) := wt.cell 3
  have t5 : wc.cell? ⟨L.b (.t m), 5, none⟩ = some (.int .i64 (kT k1 m).answer) := wt.cell 5
  have t7 : wc.cell? ⟨L.b (.t m), 7, none⟩ = some (L1.on (kT k1 m).on) := wt.cell 7
  have t8 : wc.cell? ⟨L.b (.t m), 8, none⟩ = some (.int .i64 (kT k1 m).left) := wt.cell 8
  have HROW : Hid (k1.l p = k.l p) := hcut.row
  have hle : (k1.l p).length ≤ 1000000 := by rw [hcut.row]; omega
  have EBT := zh ebt
  have EBK := zh ebk
  have WT := zh wt
  clear wt hcut h0 h1 h2 g1 g2 ebt ebk
  go_upto_region 5 with fail
  obtain ⟨W4, hW4⟩ : ∃ W4, W4 = (((wc.setCell ⟨L.b (.t m), 3, none⟩ (.int .i64 0)).setCell ⟨L.b (.t m), 5, none⟩ (.int .i64 answer)).setCell ⟨L.b (.t m), 7, none⟩ .nilIface).setCell ⟨L.b (.t m), 8, none⟩ (.int .i64 0) := ⟨_, rfl⟩
  rw [← hW4]
  have ebt := EBT.out
  have ebk := EBK.out
  have hz4 : Hid (W4.heap.size = wc.heap.size) := by show _ = _; rw [hW4]; simp only [World.size_setCell]
  have hK4 : Hid (KM W4 B (k1.setT m fun t => { t with state := 0, answer := answer, on := none, left := 0 }) L1) := by
   show KM _ _ _ _
   refine HC.out.mem.setTask hm1 rfl rfl (fun g hg _ => ?_) ?_
   ·rw [ebt] at hg
    rw [hW4, zk _ _ _ _ hg, zk _ _ _ _ hg, zk _ _ _ _ hg, zk _ _ _ _ hg]
   ·rw [ebt, hW4]
    have hq4 := (((WT.out.put 3 (.int .i64 0)).put 5 (.int .i64 answer)).put 7 .nilIface).put 8 (.int .i64 0)
    have e4 : taskCells (k1.setT m fun t => { t with state := 0, answer := answer, on := none, left := 0 }) L1 m = ((((taskCells k1 L1 m).setIfInBounds 3 (.int .i64 0)).setIfInBounds 5 (.int .i64 answer)).setIfInBounds 7 .nilIface).setIfInBounds 8 (.int .i64 0) := by
     unfold taskCells
     rw [kT_set hm1]
     rfl
    rw [e4]
    exact hq4
  have hlowT := HK.out.low (.t m) hm
  have hB4 : Below B w W4 := by rw [hW4]; exact (((HC.out.bel.setCell (p := ⟨L.b (.t m), 3, none⟩) hlowT _).setCell (p := ⟨L.b (.t m), 5, none⟩) hlowT _).setCell (p := ⟨L.b (.t m), 7, none⟩) hlowT _).setCell (p := ⟨L.b (.t m), 8, none⟩) hlowT _
  have hBW4 : B ≤ W4.heap.size := by have := HC.out.bel.size; have := hz4.out; omega
  have c42 : W4.cell? ⟨L.b (.t m), 2, none⟩ = some (.int .i64 p) := by
   have q := (hK4.out.task (i := m) (by rw [setT_len]; exact hm1)).cell 2
   rw [ebt] at q
   rw [q]
   show some (Value.int .i64 (kT (k1.setT m _) m).prio) = _
   rw [kT_set hm1]
   show some (Value.int .i64 (kT k1 m).prio) = _
   rw [HKT.out, HP.out]
  have c43 := hK4.out.row hp32
  rw [ebk] at c43
  have c44 : W4.frozen? ⟨L.b .ker, 4 + p, none⟩ = false := by have := hK4.out.ker.frozen (4 + p); rw [ebk] at this; exact this
  have hltT : L.b (.t m) < W4.heap.size := by have := hK4.out.lt (c := .t m) (by simp [Part.live, setT_len]; exact hm1); rw [ebt] at this; exact this
  have hltK : L.b .ker < W4.heap.size := by have := hK4.out.lt (c := .ker) trivial; rw [ebk] at this; exact this
  obtain ⟨gl, hgl⟩ : ∃ gl, gl = (if L1.nil (.l p) then none else some (L1.b (.l p))) := ⟨_, rfl⟩
  have hLH := hK4.out.head (x := p) (by omega)
  rw [← hgl] at hLH
  have hgis : ∀ b (g5 : Option Nat), g5 = some b → (g5 = gl ∨ ∃ x, g5 = some x ∧ (((W4.alloc (.cells #[.int .i64 m] 3)).drew)).heap.size ≤ x) → (L1.nil (.l p) = false ∧ b = L1.b (.l p)) ∨ (((W4.alloc (.cells #[.int .i64 m] 3)).drew)).heap.size ≤ b := fun b g5 hb hg => own_or hb (by rw [hgl] at hg; exact hg)
  have hgnot : ∀ b, (L1.nil (.l p) = false → b ≠ L1.b (.l p)) → gl ≠ some b := by
   intro b hne e
   rw [hgl] at e
   cases hn : L1.nil (.l p) with
   | true => rw [hn, if_pos rfl] at e; cases e
   | false => rw [hn] at e; exact hne hn (by simpa using e.symm)
  have hneT : gl ≠ some (L.b (.t m)) := hgnot _ fun hn e => by
   have := hK4.out.apart (.t m) (.l p) (by simp [Part.live, setT_len]; exact hm1) ⟨by omega, hn⟩ (by rw [ebt]; exact e)
   cases this
  have hneK : gl ≠ some (L.b .ker) := hgnot _ fun hn e => by
   have := hK4.out.apart .ker (.l p) trivial ⟨by omega, hn⟩ (by rw [ebk]; exact e)
   cases this
  have HLA : Hid (LHead (((W4.alloc (.cells #[.int .i64 m] 3)).drew)) (L1.hd (.l p) ((k1.setT m fun t => { t with state := 0, answer := answer, on := none, left := 0 }).l p).length) ((k1.setT m fun t => { t with state := 0, answer := answer, on := none, left := 0 }).l p) gl) := hLH.keep fun b hb => zo W4 _ b hb
  have hlen5 : ((k1.setT m fun t => { t with state := 0, answer := answer, on := none, left := 0 }).l p).length ≤ 1000000 := hle
  have hnew : (((W4.alloc (.cells #[.int .i64 m] 3)).drew)).cell? ⟨W4.heap.size, 0, none⟩ = some (.int .i64 m) := (zm W4 3 #[.int .i64 m]).cell 0
  generalize hVV : L1.hd (.l p) ((k1.setT m fun t => { t with state := 0, answer := answer, on := none, left := 0 }).l p).length = VV at *
  have c42a : (((W4.alloc (.cells #[.int .i64 m] 3)).drew)).cell? ⟨L.b (.t m), 2, none⟩ = some (.int .i64 p) := (zw W4 _ ⟨L.b (.t m), 2, none⟩ hltT).trans c42
  have c43a : (((W4.alloc (.cells #[.int .i64 m] 3)).drew)).cell? ⟨L.b .ker, 4 + p, none⟩ = some VV := (zw W4 _ ⟨L.b .ker, 4 + p, none⟩ hltK).trans c43
  have c44a : (((W4.alloc (.cells #[.int .i64 m] 3)).drew)).frozen? ⟨L.b .ker, 4 + p, none⟩ = false := (zx (a := ⟨L.b .ker, 4 + p, none⟩) (zo W4 _ _ hltK)).trans c44
  have hkt : L.b .ker ≠ L.b (.t m) := fun e => by cases HK.out.apart .ker (.t m) trivial hm e
  have hkt' : L.b (.t m) ≠ L.b .ker := fun e => hkt e.symm
  have HO4 : Hid (∀ g, Out w k L g → Out W4 (k1.setT m fun t => { t with state := 0, answer := answer, on := none, left := 0 }) L1 g ∧ W4.heap[g]? = w.heap[g]?) := fun g hg => by
   have hne : g ≠ L.b (.t m) := fun e => hg.2 (.t m) hm e.symm
   refine ⟨Out.near (w' := W4) hg (HC.out.near.trans (setT_near (N := w.heap.size) hm1 rfl) (zl _)) (by rw [hz4.out]; exact HC.out.bel.size), ?_⟩
   rw [hW4, zk _ _ _ _ hne, zk _ _ _ _ hne, zk _ _ _ _ hne, zk _ _ _ _ hne]
   exact HC.out.out g hg
  have HN4 : Hid (Near w.heap.size k L (k1.setT m fun t => { t with state := 0, answer := answer, on := none, left := 0 }) L1) := HC.out.near.trans (setT_near (N := w.heap.size) hm1 rfl) (zl _)
  have HZ4 : Hid (w.heap.size ≤ W4.heap.size) := by show _ ≤ _; rw [hz4.out]; exact HC.out.bel.size
  have HB4 := zh hB4
  have HGL := zh hgl
  clear hB4 hLH hVV hW4 hgl t3 t5 t7 t8 f3 f5 f7 f8 ebt ebk
  have hl0 : Addr.block ⟨L.b (.t m), 2, none⟩ < W4.heap.size := hltT
  have hl1 : Addr.block ⟨L.b .ker, 4 + p, none⟩ < W4.heap.size := hltK
  refine wp_region_need (S := fun w' => w'.cell? ⟨L.b (.t m), 2, none⟩ = some (.int .i64 p) ∧ w'.cell? ⟨L.b .ker, 4 + p, none⟩ = some VV) (need := fun i => i != 20) 21 (bs 21 0) (by kernel_rfl) (by kernel_rfl) (by kernel_rfl) ?_ (fun hHeld => ?_)
  ·(try dsimp only)
   exact ⟨c42, c43⟩
  refine tk 0 (bs 21 1) (v := ?_) ?_ ?_; rotate_left 2
  refine tk 1 (bs 21 3) (v := ?_) ?_ ?_; rotate_left 2
  refine tk 2 (bs 21 7) (v := ?_) ?_ ?_; rotate_left 2
  refine tk 3 (bs 21 15) (v := ?_) ?_ ?_; rotate_left 2
  refine tk 4 (bs 21 31) (v := ?_) ?_ ?_; rotate_left 2
  refine tk 5 (bs 21 63) (v := ?_) ?_ ?_; rotate_left 2
  refine tk 6 (bs 21 127) (v := ?_) ?_ ?_; rotate_left 2
  refine tk 7 (bs 21 255) (v := ?_) ?_ ?_; rotate_left 2
  refine tk 8 (bs 21 511) (v := ?_) ?_ ?_; rotate_left 2
  refine tk 9 (bs 21 1023) (v := ?_) ?_ ?_; rotate_left 2
  refine tk 10 (bs 21 2047) (v := ?_) ?_ ?_; rotate_left 2
  refine tk 11 (bs 21 4095) (v := ?_) ?_ ?_; rotate_left 2
  refine tk 12 (bs 21 8191) (v := ?_) ?_ ?_; rotate_left 2
  refine tk 13 (bs 21 16383) (v := ?_) ?_ ?_; rotate_left 2
  refine tk 14 (bs 21 32767) (v := ?_) ?_ ?_; rotate_left 2
  refine tk 17 (bs 21 163839) (v := ?_) ?_ ?_; rotate_left 2
  refine tk 18 (bs 21 425983) (v := ?_) ?_ ?_; rotate_left 2
  rotate_left
  iterate 17 (rotate_left; focus (intro w hSw; (try dsimp only at hSw); obtain ⟨hS0', hS1'⟩ := hSw; go_simp; with_reducible rfl))
  try simp only [Act.put, p1, p2, p3, p4, p5, p6]
  refine wpAnyN_step (i := 15) (listed' := (bs 21 458751)) (by kernel_rfl) rfl (by kernel_rfl) (fun K hK => ?_)
  go_simp
  refine hK.out _ _ ?_ (fun hHeld => ?_)
  ·(try dsimp only)
   exact fun _ => ⟨c42a, c43a⟩
  clear hK K
  replace hHeld := hHeld rfl
  try simp only [Act.put, p1, p2, p3, p4, p5, p6]
  refine wpAnyN_step (i := 16) (listed' := (bs 21 524287)) (by kernel_rfl) rfl (by kernel_rfl) (fun K hK => ?_)
  (refine step_append_list rfl _ _ rfl (by rfl) HLA.out hlen5 (m : Int) ⟨W4.heap.size, 0, none⟩ 1 (by rfl) (by exact hnew) ?_; intro v' w5 hap; obtain ⟨g5, hv5, hg5, hs5, hgr5⟩ := hap; obtain ⟨A5, c5, e5⟩ := hv5.slice; subst e5; have z1 : w5.cell? ⟨L.b (.t m), 2, none⟩ = some (.int .i64 p) := (zq (a := ⟨L.b (.t m), 2, none⟩) (hs5 _ (by simp; omega) hneT)).trans c42a; have z2 := (zq (a := ⟨L.b .ker, 4 + p, none⟩) (hs5 _ (by simp; omega) hneK)).trans c43a; have z3 := (zx (a := ⟨L.b .ker, 4 + p, none⟩) (hs5 _ (by simp; omega) hneK)).trans c44a)
  refine hK.out _ _ ?_ (fun hHeld => ?_)
  ·(try dsimp only)
   exact fun _ => ⟨z1, z2⟩
  clear hK K
  replace hHeld := hHeld rfl
  try simp only [Act.put, p1, p2, p3, p4, p5, p6]
  refine tk 19 (bs 21 1048575) (v := ?_) ?_ ?_; rotate_left 2
  rotate_left
  iterate 1 (rotate_left; focus (intro w hSw; (try dsimp only at hSw); obtain ⟨hS0', hS1'⟩ := hSw; go_simp; with_reducible rfl))
  try simp only [Act.put, p1, p2, p3, p4, p5, p6]
  refine wpAnyN_step (i := 20) (listed' := (bs 21 2097151)) (by kernel_rfl) rfl (by kernel_rfl) (fun K hK => ?_)
  go_simp
  refine hK.out _ _ ?_ (fun hHeld => ?_)
  ·exact fun h => absurd h (by decide)
  clear hK K
  try simp only [Act.put, p1, p2, p3, p4, p5, p6]
  refine wpAnyN_done (by kernel_rfl) ?_ _
  clear hHeld
  go_wp2_with fail
  go_end0
  obtain ⟨L', k5, s5, n5⟩ := (hK4.out.below (((zr W4.heap.size W4).alloc (zl _) (.cells #[.int .i64 m] 3)).drew)).putListN (f := (· ++ [(m : Int)])) (show p < 72 by omega) (by rw [(holder_row hp32).1]; trivial) hv5 (fun b hb hne => hs5 b hb (hgnot b hne)) (fun b hb => hgis b _ hb hg5) (by simp; omega)
  rw [(holder_row hp32).1, (holder_row hp32).2, EBK.out] at k5
  rw [List.length_append, List.length_singleton] at k5
  rw [HC.out.eq]
  exact ⟨rfl, L', k5, HC.out.sam.trans s5, wakeBelow HB4.out hBW4 hgr5 (fun b hb => by rw [HGL.out] at hb; split at hb; cases hb; obtain rfl := Option.some.inj hb; rename_i hn; exact HC.out.mem.low (.l p) ⟨by omega, by simpa using hn⟩) (HK.out.low .ker trivial), HN4.out.trans n5 (by have := HZ4.out; simp; omega), fun g hg => by
   obtain ⟨og, fg⟩ := HO4.out g hg
   exact (zk _ _ _ _ (fun e => hg.2 .ker trivial e.symm)).trans ((hs5 g (by have := og.1; simp; omega) (hgnot g (fun hn e => og.2 (.l p) ⟨by omega, hn⟩ e.symm))).trans ((zo W4 _ g og.1).trans fg))⟩
theorem wake_any {w : World} {B M : Nat} {k : Kn.K} {L : Lay} {m : Nat} (answer : Int) (h : KM w B k L) (hf : Fine k M) (hM : M ≤ 1000000) (hm : m < k.tasks.length) (hB : B ≤ w.heap.size) (hon : ∀ x, (kT k m).on = some x → OnOk k x) :
 Calls Try.prog 55 #[L.ptr .ker 0, .int .i64 m, .int .i64 answer] w fun e w' => e = .returned (.tuple #[]) ∧ ∃ L', KM w' B (k.wake m answer) L' ∧ Sam L L' ∧ Below B w w' :=
 (wake_near answer h hf hM hm hB hon).mono fun _ _ ⟨a, L', b, c, d, _⟩ => ⟨a, L', b, c, d⟩
end Go.Proofs.Ytncbgnpoffolcaa
