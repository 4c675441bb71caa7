/-
  Two runs' answers, to be read later; the walk of Same.
-/
import Derived.Test.YtncbgnpoffolcaaRtT
import Derived.Test.YtncbgnpoffolcaaHas
import Derived.Test.YtncbgnpoffolcaaRtS
namespace Go.Proofs.Ytncbgnpoffolcaa
open Go.RowKit
/-- What a run answers, plainly. -/
structure Aw where
 out : List UInt8
 xs : List Int
 ys : List Int
 tk : Int
 op : Int
 x : Int
def awK (k : Kn.K) : Aw := ⟨k.out, k.tasks.map (·.state), k.tasks.map (·.answer), k.ticks, k.ops, 0⟩
def aw (t : Kn.Table) (ticks ops : Int) : Aw :=
 if t.fits = false then ⟨[], [], [], 0, 0, 20⟩
 else if ticks < 0 ∨ 100000 < ticks ∨ ops < 0 ∨ 100000 < ops then ⟨[], [], [], 0, 0, 1⟩
 else awK (Kn.runT t ticks.toNat ops.toNat)
/-- It lies there. -/
structure AwRd (w' : World) (a : Aw) (P Q R : Option Addr) (pc : Nat) : Prop where
 conv : ∀ W, Below w'.heap.size w' W → (convert 34 9 (.slice P a.out.length pc)).run Try.prog W = .ok (.string ⟨a.out.toArray⟩) W
 r2 : ∀ W, Below w'.heap.size w' W → Reads W w'.heap.size 1 Q a.xs.length (intV a.xs)
 r3 : ∀ W, Below w'.heap.size w' W → Reads W w'.heap.size 1 R a.ys.length (intV a.ys)
def resV (a : Aw) (P Q R : Option Addr) (pc qc rc : Nat) : Value := .agg #[.slice P a.out.length pc, .slice Q a.xs.length qc, .slice R a.ys.length rc, .int .i64 a.tk, .int .i64 a.op]
def AwAns (w : World) (a : Aw) (e : Ending) (w' : World) : Prop :=
 ∃ P Q R pc qc rc, e = .returned (.tuple #[resV a P Q R pc qc rc, .int .i64 a.x]) ∧ Hid (AwRd w' a P Q R pc) ∧ Below w.heap.size w w'
theorem AwRd.zero {w' : World} {x : Int} : AwRd w' ⟨[], [], [], 0, 0, x⟩ none none none 0 :=
 ⟨fun W _ => Lib.run_convert_nil_bytes W 34 9 5 0 Try.underlying34 Try.underlying5 Try.underlying9, fun _ _ => Reads.nil _, fun _ _ => Reads.nil _⟩
theorem RunErr.aw {w w' : World} {x : Int} {e : Ending} (h : RunErr w x e w') : AwAns w ⟨[], [], [], 0, 0, x⟩ e w' := ⟨none, none, none, 0, 0, 0, h.1, zh AwRd.zero, h.2⟩
theorem RunAns.aw {w w' : World} {k : Kn.K} {e : Ending} (h : RunAns w k e w') : AwAns w (awK k) e w' := by
 obtain ⟨L, V1, V2, V3, g1, g2, hK, e1, hL1, hL2, he, hb⟩ := h
 obtain ⟨Q, qn, qc, rfl⟩ := hL1.shape
 obtain ⟨R, rn, rc, rfl⟩ := hL2.shape
 have hsh : ∃ P pc, V1 = .slice P k.out.length pc := by
  rw [e1]
  unfold Lay.hd
  split
  ·rename_i q
   have h0 := hK.nil.2.2.2.2.1 q
   exact ⟨none, 0, by rw [h0]⟩
  ·exact ⟨_, _, rfl⟩
 obtain ⟨P, pc, e2⟩ := hsh
 subst e2
 have h1 := hL1.reads
 have h2 := hL2.reads
 refine ⟨P, Q, R, pc, qc, rc, ?_, zh ⟨fun W hW => ?_, fun W hW => h1.2 W hW, fun W hW => h2.2 W hW⟩, hb⟩
 ·rw [he, h1.1, h2.1]
  rfl
 ·show (convert 34 9 (.slice P k.out.length pc)).run Try.prog W = _
  rw [e1]
  exact (hK.below hW).outConv
set_option maxRecDepth 100000 in
theorem row_conv {w : World} {B n c : Nat} {P : Option Addr} {o : List UInt8} (h : w.ownsRow B 5 1 (.slice P n c) n (Rk.byteV o)) (hn : n = o.length) : (convert 34 9 (.slice P o.length c)).run Try.prog w = .ok (.string ⟨o.toArray⟩) w := by
 subst hn
 rcases h.2 with ⟨e, h0⟩ | ⟨g, cap, cur, e, hb, hg, hnc, hcm, hcs, ht⟩
 ·injection e with e1 _ e3
  subst e1 e3
  have e2 : o = [] := List.length_eq_zero_iff.1 h0
  subst e2
  exact Lib.run_convert_nil_bytes w 34 9 5 0 Try.underlying34 Try.underlying5 Try.underlying9
 ·injection e with e1 _ e3
  subst e1 e3
  refine run_convert_bytes_back w 34 9 5 ⟨g, 0, none⟩ c o Try.underlying34 Try.underlying5 Try.underlying9 fun j hj => ?_
  have e2 : (⟨g, 0, none⟩ : Addr).add j = ⟨g, j, none⟩ := by unfold Addr.add; simp; try (intro q; exact q.symm)
  rw [e2, h.cellAt j (by omega)]
  simp [Rk.byteV, hj]
theorem RAns.aw {w w' : World} {k : Kn.K} {r : Rk.K} {τ : Nat → Nat} {e : Ending} (h : RAns w r e w') (hr : Rk.Rel τ k r) : AwAns w (awK k) e w' := by
 obtain ⟨P1, p1, P2, p2, P3, p3, he, h1, h2, h3, hb⟩ := h
 have es : r.tasks.map (·.state) = k.tasks.map (·.state) := by
  apply List.ext_getElem
  ·simp [hr.len]
  ·intro i a b
   have ha : i < r.tasks.length := by simpa using a
   have hb : i < k.tasks.length := by simpa using b
   have q := (hr.task i hb).state
   rw [Rk.ti_get' ha, Kn.ti_get hb] at q
   simp [q]
 have el : r.tasks.map (·.last) = k.tasks.map (·.answer) := by
  apply List.ext_getElem
  ·simp [hr.len]
  ·intro i a b
   have ha : i < r.tasks.length := by simpa using a
   have hb : i < k.tasks.length := by simpa using b
   have q := (hr.task i hb).last
   rw [Rk.ti_get' ha, Kn.ti_get hb] at q
   simp [q]
 have l1 : (k.tasks.map (·.state)).length = r.tasks.length := by rw [List.length_map, hr.len]
 have l2 : (k.tasks.map (·.answer)).length = r.tasks.length := by rw [List.length_map, hr.len]
 rw [es] at h2
 rw [el] at h3
 rw [hr.out] at h1 he
 refine ⟨P1, P2, P3, p1, p2, p3, ?_, zh ⟨fun W hW => row_conv (row_below h1 hW (zl _)) rfl, fun W hW => ?_, fun W hW => ?_⟩, hb⟩
 ·rw [he, hr.ticks, hr.ops]
  unfold resV awK
  simp only [l1, l2]
 ·show Reads W _ 1 P2 (k.tasks.map (·.state)).length _
  have q := Reads.of_own (by rw [l1] at h2; exact h2 : w'.ownsRow w.heap.size 3 1 (.slice P2 r.tasks.length p2) r.tasks.length (intV (k.tasks.map (·.state))))
  rw [l1]
  exact q.below hW (zl _)
 ·show Reads W _ 1 P3 (k.tasks.map (·.answer)).length _
  have q := Reads.of_own (by rw [l2] at h3; exact h3 : w'.ownsRow w.heap.size 3 1 (.slice P3 r.tasks.length p3) r.tasks.length (intV (k.tasks.map (·.answer))))
  rw [l2]
  exact q.below hW (zl _)
/-- The two runs answer alike. -/
theorem run_aw {w : World} {A1 A2 A3 : Option Addr} {c1 c2 c3 : Nat} {t : Kn.Table} (ticks ops : Int) (hr : TabRd w w.heap.size A1 A2 A3 t) : Calls Try.prog 22 #[tabV A1 A2 A3 c1 c2 c3 t, .int .i64 ticks, .int .i64 ops] w (AwAns w (aw t ticks ops)) := by
 unfold aw
 by_cases hf : t.fits = false
 ·rw [if_pos hf]
  exact (run_err hr (.inl ⟨hf, rfl⟩)).mono fun e w' h => h.aw
 ·rw [if_neg hf]
  have hf' : t.fits = true := by simpa using hf
  by_cases hb : ticks < 0 ∨ 100000 < ticks ∨ ops < 0 ∨ 100000 < ops
  ·rw [if_pos hb]
   exact (run_err hr (.inr ⟨hf', rfl, hb⟩)).mono fun e w' h => h.aw
  ·rw [if_neg hb]
   have e1 : ((ticks.toNat : Nat) : Int) = ticks := by omega
   have e2 : ((ops.toNat : Nat) : Int) = ops := by omega
   have q := run_good (c1 := c1) (c2 := c2) (c3 := c3) (ticks := ticks.toNat) (ops := ops.toNat) hr hf' (by omega) (by omega)
   rw [e1, e2] at q
   exact q.mono fun e w' h => h.aw
theorem rrun_aw {w : World} {A1 A2 A3 : Option Addr} {c1 c2 c3 : Nat} {t : Kn.Table} (ticks ops : Int) (hr : TabRd w w.heap.size A1 A2 A3 t) : Calls Try.prog 26 #[tabV A1 A2 A3 c1 c2 c3 t, .int .i64 ticks, .int .i64 ops] w (AwAns w (aw t ticks ops)) := by
 unfold aw
 by_cases hf : t.fits = false
 ·rw [if_pos hf]
  exact (rrun_err hr (.inl ⟨hf, rfl⟩)).mono fun e w' h => h.aw
 ·rw [if_neg hf]
  have hf' : t.fits = true := by simpa using hf
  by_cases hb : ticks < 0 ∨ 100000 < ticks ∨ ops < 0 ∨ 100000 < ops
  ·rw [if_pos hb]
   exact (rrun_err hr (.inr ⟨hf', rfl, hb⟩)).mono fun e w' h => h.aw
  ·rw [if_neg hb]
   have e1 : ((ticks.toNat : Nat) : Int) = ticks := by omega
   have e2 : ((ops.toNat : Nat) : Int) = ops := by omega
   have q := rrun_good (c1 := c1) (c2 := c2) (c3 := c3) (ticks := ticks.toNat) (ops := ops.toNat) hr hf' (by omega) (by omega)
   rw [e1, e2] at q
   obtain ⟨τ, hrel⟩ := Rk.runT_rel hf' ticks.toNat ops.toNat
   exact q.mono fun e w' h => h.aw hrel
/-- How long the answers are. -/
theorem aw_len (t : Kn.Table) (ticks ops : Int) : (aw t ticks ops).xs.length ≤ maxLen ∧ (aw t ticks ops).ys.length ≤ maxLen := by
 unfold aw maxLen
 by_cases hf : t.fits = false
 ·rw [if_pos hf]; simp
 ·rw [if_neg hf]
  have hf' : t.fits = true := by simpa using hf
  split
  ·simp
  ·have h1 := (Kn.runT_ok hf' ticks.toNat ops.toNat).2
   have h2 := (Kn.Table.fits_parts hf').1.2.1
   simp only [awK, List.length_map, h1]
   omega
set_option maxRecDepth 100000 in
set_option maxHeartbeats 4000000 in
theorem same_any {w : World} {a : Aw} {P1 Q1 R1 P2 Q2 R2 : Option Addr} {pc1 qc1 rc1 pc2 qc2 rc2 : Nat} {B1 B2 : Nat} (ha : a.xs.length ≤ maxLen ∧ a.ys.length ≤ maxLen)
 (hc1 : ∀ W, Below w.heap.size w W → (convert 34 9 (.slice P1 a.out.length pc1)).run Try.prog W = .ok (.string ⟨a.out.toArray⟩) W) (hc2 : ∀ W, Below w.heap.size w W → (convert 34 9 (.slice P2 a.out.length pc2)).run Try.prog W = .ok (.string ⟨a.out.toArray⟩) W)
 (hx1 : ∀ W, Below w.heap.size w W → Reads W B1 1 Q1 a.xs.length (intV a.xs)) (hx2 : ∀ W, Below w.heap.size w W → Reads W B2 1 Q2 a.xs.length (intV a.xs)) (hy1 : ∀ W, Below w.heap.size w W → Reads W B1 1 R1 a.ys.length (intV a.ys)) (hy2 : ∀ W, Below w.heap.size w W → Reads W B2 1 R2 a.ys.length (intV a.ys)) :
 Calls Try.prog 27 #[resV a P1 Q1 R1 pc1 qc1 rc1, resV a P2 Q2 R2 pc2 qc2 rc2] w fun e w' => e = .returned (.bool true) ∧ Below w.heap.size w w' := by
 unfold resV
 obtain ⟨o, xs, ys, tk, op, x⟩ := a
 simp only [] at *
 obtain ⟨W1, hW1⟩ : ∃ W1, W1 = (w.alloc (.cells #[.slice P1 o.length pc1, .slice Q1 xs.length qc1, .slice R1 ys.length rc1, .int .i64 tk, .int .i64 op] 36)).alloc (.cells #[.slice P2 o.length pc2, .slice Q2 xs.length qc2, .slice R2 ys.length rc2, .int .i64 tk, .int .i64 op] 36) := ⟨_, rfl⟩
 have hb1 : Below w.heap.size w W1 := by rw [hW1]; exact ((zr _ _).alloc (zl _) _).alloc (by simp) _
 have wa1 : Whole W1 w.heap.size 36 #[.slice P1 o.length pc1, .slice Q1 xs.length qc1, .slice R1 ys.length rc1, .int .i64 tk, .int .i64 op] := by rw [hW1]; exact (zm w 36 _).alloc _
 have wa2 : Whole W1 (w.heap.size + 1) 36 #[.slice P2 o.length pc2, .slice Q2 xs.length qc2, .slice R2 ys.length rc2, .int .i64 tk, .int .i64 op] := by
  rw [hW1]
  have := zm (w.alloc (.cells #[.slice P1 o.length pc1, .slice Q1 xs.length qc1, .slice R1 ys.length rc1, .int .i64 tk, .int .i64 op] 36)) 36 #[.slice P2 o.length pc2, .slice Q2 xs.length qc2, .slice R2 ys.length rc2, .int .i64 tk, .int .i64 op]
  simpa using this
 have HW1 := zh hW1
 have HB1 := zh hb1
 have WA1 := zh wa1
 have WA2 := zh wa2
 have HX := zh (fun W (hb : Below w.heap.size w W) => sameInts_any (c1 := qc1) (c2 := qc2) (hx1 W hb) (hx2 W hb) ha.1)
 have HY := zh (fun W (hb : Below w.heap.size w W) => sameInts_any (c1 := rc1) (c2 := rc2) (hy1 W hb) (hy2 W hb) ha.2)
 have HC1 := hc1 W1 hb1
 have HC2 := hc2 W1 hb1
 have a0 := wa1.cell 0
 have a1 := wa1.cell 1
 have b0 := wa2.cell 0
 have b1 := wa2.cell 1
 simp only [za, zb, zc] at a0 a1 b0 b1
 have hlt1 := wa1.lt
 have hlt2 := wa2.lt
 clear hW1 hb1 wa1 wa2 hc1 hc2 hx1 hx2 hy1 hy2 ha
 go_enter Try.func27, Try.ntmps27
 go_upto_region 1 with fail
 rw [← HW1.out]
 go_wp2_with fail
 refine (HX.out W1 HB1.out).mono ?_
 rintro e W2 ⟨rfl, hb2⟩
 have HB2 := zh (HB1.out.trans (hb2.mono HB1.out.size))
 have wa1 := WA1.out.same (hb2.block _ hlt1)
 have wa2 := WA2.out.same (hb2.block _ hlt2)
 have p2 := wa1.cell 2
 have p3 := wa1.cell 3
 have p4 := wa1.cell 4
 have q2 := wa2.cell 2
 have q3 := wa2.cell 3
 have q4 := wa2.cell 4
 simp only [za, zb, zc] at p2 p3 p4 q2 q3 q4
 have HA1 := zh wa1
 have HA2 := zh wa2
 clear wa1 wa2 hb2 HC1 HC2 a0 a1 b0 b1
 go_wp2_with fail
 refine (HY.out W2 HB2.out).mono ?_
 rintro e W3 ⟨rfl, hb3⟩
 have HB3 := zh (HB2.out.trans (hb3.mono HB2.out.size))
 have wa1 := HA1.out.same (hb3.block _ HA1.out.lt)
 have wa2 := HA2.out.same (hb3.block _ HA2.out.lt)
 have p3 := wa1.cell 3
 have p4 := wa1.cell 4
 have q3 := wa2.cell 3
 have q4 := wa2.cell 4
 simp only [za, zb, zc] at p3 p4 q3 q4
 clear wa1 wa2 hb3
 go_wp2_with fail
 go_ret
 exact ⟨rfl, HB3.out⟩
end Go.Proofs.Ytncbgnpoffolcaa
