/-
  Lent: a table copied into memory of the call's own: the walk.
-/
import Derived.Test.YtncbgnpoffolcaaRkP
import Derived.Test.YtncbgnpoffolcaaM17
import Derived.Deep.DeepCutAuto
import Derived.Deep.LoopGhost
import Derived.Maps.AppendAt
import Derived.Orders
import Derived.Still
import Derived.StillTail
namespace Go.Proofs.Ytncbgnpoffolcaa
open Go.RowKit
theorem info29L : (Try.prog.info? 29).map (fun i => (i.zero, i.size, i.bytes)) = some (some (.agg #[.int .i64 0, .slice none 0 0]), 2, 32) := by kernel_rfl
def taskC (x : Kn.Task × Value) : List Value := [.int .i64 x.1.prio, x.2]
theorem taskC_len (l : List (Kn.Task × Value)) : (l.flatMap taskC).length = l.length * 2 := flat_len (f := taskC) (n := 2) (fun _ => rfl) l
theorem taskC_at (l : List (Kn.Task × Value)) (k j : Nat) (hk : k < l.length) (hj : j < 2) : (l.flatMap taskC)[k * 2 + j]? = (taskC l[k])[j]? := flat_at (f := taskC) (n := 2) (fun _ => rfl) l k j hk hj
/-- Two tasks' rows of operations lie apart. -/
def Apart (a b : Kn.Task × Value) : Prop := ∀ k, a.2.ownBlock = some k → b.2.ownBlock ≠ some k
/-- Tasks in memory of one's own. -/
structure Tasks (w : World) (B : Nat) (V : Value) (l : List (Kn.Task × Value)) : Prop where
 row : w.ownsRow B 29 2 V l.length (l.flatMap taskC)
 ops : ∀ x ∈ l, w.ownsRow B 32 3 x.2 x.1.ops.length (opsC x.1.ops)
 apart : l.Pairwise Apart
/-- A table in memory of one's own, from block B on. -/
structure Tab (w : World) (B : Nat) (V1 V2 V3 : Value) (t : Kn.Table) : Prop where
 tasks : ∃ l : List (Kn.Task × Value), l.map Prod.fst = t.tasks ∧ Tasks w B V1 l
 sems : w.ownsRow B 3 1 V2 t.sems.length (intV t.sems)
 queues : w.ownsRow B 3 1 V3 t.queues.length (intV t.queues)
theorem row_kind {w : World} {base1 base2 : Nat} {e1 e2 : TypeId} {s1 s2 n1 n2 : Nat} {v1 v2 : Value} {x1 x2 : List Value} (h1 : w.ownsRow base1 e1 s1 v1 n1 x1) (h2 : w.ownsRow base2 e2 s2 v2 n2 x2) (hne : e1 ≠ e2) :
 ∀ k, v1.ownBlock = some k → v2.ownBlock ≠ some k := by
 intro k hk1 hk2
 rcases h1.2 with ⟨rfl, _⟩ | ⟨g1, _, _, rfl, _, hg1, _⟩
 ·simp [Value.ownBlock] at hk1
 rcases h2.2 with ⟨rfl, _⟩ | ⟨g2, _, _, rfl, _, hg2, _⟩
 ·simp [Value.ownBlock] at hk2
 simp [Value.ownBlock] at hk1 hk2
 rw [hk1] at hg1
 rw [hk2, hg1] at hg2
 injection hg2 with hg2
 injection hg2 with _ hg2
 exact hne hg2
section
variable {w w' : World} {B : Nat} {V V1 V2 V3 : Value} {t : Kn.Table} {l : List (Kn.Task × Value)}
theorem Tasks.same (h : Tasks w B V l) (hs : ∀ k, B ≤ k → k < w.heap.size → w'.heap[k]? = w.heap[k]?) : Tasks w' B V l :=
 ⟨row_same h.row fun k hk => hs k (h.row.lt k hk).1 (h.row.lt k hk).2, fun x hx => row_same (h.ops x hx) fun k hk => hs k ((h.ops x hx).lt k hk).1 ((h.ops x hx).lt k hk).2, h.apart⟩
theorem Tab.same (h : Tab w B V1 V2 V3 t) (hs : ∀ k, B ≤ k → k < w.heap.size → w'.heap[k]? = w.heap[k]?) : Tab w' B V1 V2 V3 t := by
 obtain ⟨l, e, hl⟩ := h.tasks
 exact ⟨⟨l, e, hl.same hs⟩, row_same h.sems fun k hk => hs k (h.sems.lt k hk).1 (h.sems.lt k hk).2, row_same h.queues fun k hk => hs k (h.queues.lt k hk).1 (h.queues.lt k hk).2⟩
theorem Tab.below (h : Tab w B V1 V2 V3 t) {B' : Nat} (hb : Below B' w w') (hB : w.heap.size ≤ B') : Tab w' B V1 V2 V3 t := h.same fun k _ hk => hb.block k (by omega)
theorem Tab.far (h : Tab w B V1 V2 V3 t) {p : Addr} (hp : p.block < B) (u : Value) : Tab (w.setCell p u) B V1 V2 V3 t := h.same fun k hk _ => zk _ _ _ _ (by omega)
theorem Tab.len (h : Tab w B V1 V2 V3 t) : ∃ A c, V1 = .slice A t.tasks.length c ∧ t.tasks.length ≤ c ∧ c ≤ maxLen := by
 obtain ⟨l, e, hl⟩ := h.tasks
 obtain ⟨A, c, h1, h2, h3⟩ := row_slice hl.row
 have el : l.length = t.tasks.length := by rw [← e, List.length_map]
 rw [el] at h1 h2
 exact ⟨A, c, h1, h2, h3⟩
/-- A table of one's own can be read. -/
theorem Tab.reads {A1 A2 A3 : Option Addr} {n1 n2 n3 c1 c2 c3 : Nat} (h : Tab w B (.slice A1 n1 c1) (.slice A2 n2 c2) (.slice A3 n3 c3) t) : TabRd w w.heap.size A1 A2 A3 t ∧ n1 = t.tasks.length ∧ n2 = t.sems.length ∧ n3 = t.queues.length := by
 obtain ⟨l, e, hl⟩ := h.tasks
 have el : l.length = t.tasks.length := by rw [← e, List.length_map]
 obtain ⟨a1, d1, q1, p1, m1⟩ := row_slice hl.row
 obtain ⟨a2, d2, q2, p2, m2⟩ := row_slice h.sems
 obtain ⟨a3, d3, q3, p3, m3⟩ := row_slice h.queues
 injection q1 with q1 q1' q1''
 injection q2 with q2 q2' q2''
 injection q3 with q3 q3' q3''
 subst q1 q1' q1'' q2 q2' q2'' q3 q3' q3''
 refine ⟨⟨fun i hi => ?_, Reads.of_own h.sems, Reads.of_own h.queues, by omega, by omega, by omega⟩, el, rfl, rfl⟩
 have hi' : i < l.length := by omega
 have R := Reads.of_own hl.row
 obtain ⟨ad, eA, had, hc⟩ := R.2 (by omega)
 have hx : l[i] ∈ l := List.getElem_mem _
 have ho := hl.ops _ hx
 have et : t.tasks[i] = l[i].1 := by
  have : (l.map Prod.fst)[i]'(by simpa using hi') = t.tasks[i] := by congr 1
  rw [← this, List.getElem_map]
 obtain ⟨A, c, q, p, m⟩ := row_slice ho
 have c0 := hc (i * 2) _ (taskC_at l i 0 hi' (by omega))
 have c1 := hc (i * 2 + 1) _ (taskC_at l i 1 hi' (by omega))
 refine ⟨ad, A, c, eA, had, ?_, ?_, ?_, ?_⟩
 ·rw [et]; exact c0
 ·rw [et]; rw [c1, q]
 ·rw [et]
  rw [q] at ho
  exact Reads.of_own ho
 ·rw [et]; omega
end
theorem row_grown {w w1 w' : World} {base : Nat} {e : TypeId} {size n : Nat} {v : Value} {xs : List Value} {row : Option Nat} (h : w.ownsRow base e size v n xs) (hg : w1.grownBy w' row) (hs : ∀ k, k < w.heap.size → w1.heap[k]? = w.heap[k]?) (hz : w.heap.size ≤ w1.heap.size)
 (hne : ∀ k, v.ownBlock = some k → row ≠ some k) : w'.ownsRow base e size v n xs :=
 row_same h fun k hk => by
  have hlt := (h.lt k hk).2
  rw [hg.block k (by omega) (fun e => hne k hk e.symm), hs k hlt]
theorem tab_row_far {V : Value} {e size n : Nat} {xs : List Value} {w : World} {B : Nat} (h : w.ownsRow B e size V n xs) {p : Addr} (hp : p.block < B) (u : Value) : (w.setCell p u).ownsRow B e size V n xs :=
 row_same h fun k hk => zk _ _ _ _ (fun e => by have := (h.lt k hk).1; omega)
theorem row_base {w : World} {B B2 : Nat} {e : TypeId} {size n : Nat} {v : Value} {xs : List Value} (h : w.ownsRow B2 e size v n xs) (hB : B ≤ B2) : w.ownsRow B e size v n xs := by
 refine ⟨h.1, ?_⟩
 rcases h.2 with h0 | ⟨g, cap, cur, hv, hb, rest⟩
 ·exact .inl h0
 ·exact .inr ⟨g, cap, cur, hv, zt hB hb, rest⟩
/-- Tasks of one's own, one more with its operations. -/
theorem Tasks.pushFull {w w1 w' : World} {B B2 : Nat} {V V' hv : Value} {l : List (Kn.Task × Value)} {x : Kn.Task} (h : Tasks w B V l) (hB : B ≤ B2) (hB2 : w.heap.size ≤ B2) (ho : w1.ownsRow B2 32 3 hv x.ops.length (opsC x.ops)) (hs : ∀ k, k < w.heap.size → w1.heap[k]? = w.heap[k]?) (hz : w.heap.size ≤ w1.heap.size)
 (hr : w'.ownsRow B 29 2 V' (l.length + 1) (l.flatMap taskC ++ [.int .i64 x.prio, hv])) (hg : w1.grownBy w' V.ownBlock) : Tasks w' B V' (l ++ [(x, hv)]) := by
 refine ⟨?_, ?_, ?_⟩
 ·rw [List.length_append, List.flatMap_append]
  exact hr
 ·intro y hy
  rcases List.mem_append.1 hy with hy | hy
  ·exact row_grown (h.ops y hy) hg hs hz fun k hk e => row_kind (h.ops y hy) h.row (by decide) k hk e
  ·rw [List.mem_singleton] at hy
   subst hy
   refine row_same (row_base ho hB) fun k hk => hg.block k (ho.lt k hk).2 fun e => ?_
   have h1 := (ho.lt k hk).1
   have h2 := (h.row.lt k e.symm).2
   omega
 ·rw [List.pairwise_append]
  refine ⟨h.apart, List.pairwise_singleton _ _, fun a ha b hb => ?_⟩
  rw [List.mem_singleton] at hb
  subst hb
  intro k hk e
  have h1 := (ho.lt k e).1
  have h2 := ((h.ops a ha).lt k hk).2
  omega
theorem hid_false {l : Bool} {p : Prop} (h : l = false) : Hid (l = true → p) := fun hh => by rw [h] at hh; cases hh
theorem hid_vac {l : Bool} {p : Prop} : Hid (l = true → true = false → p) := fun _ hh => by cases hh
theorem intV_one (l : List Int) : ∀ u ∈ intV l, u.oneCell' = true := by
 intro u hu
 obtain ⟨o, _, ho⟩ := List.mem_map.1 hu
 subst ho
 rfl
theorem tab_base {w : World} {B B2 : Nat} {V1 V2 V3 : Value} {t : Kn.Table} (h : Tab w B2 V1 V2 V3 t) (hB : B ≤ B2) : Tab w B V1 V2 V3 t := by
 obtain ⟨l, e, hl⟩ := h.tasks
 exact ⟨⟨l, e, row_base hl.row hB, fun x hx => row_base (hl.ops x hx) hB, hl.apart⟩, row_base h.sems hB, row_base h.queues hB⟩
theorem opsC_one (ops : List Kn.Op) : ∀ u ∈ opsC ops, u.oneCell' = true := by
 intro u hu
 obtain ⟨o, _, ho⟩ := List.mem_flatMap.1 hu
 simp [opC] at ho
 rcases ho with rfl | rfl | rfl <;> rfl
/-- What the drawn region leaves. -/
def LentMid (wr : World) (pr : Int) (ops : List Kn.Op) (W : World) : Prop := ∃ g cap, W.ownsRow (wr.heap.size + 1) 32 3 (.slice (some ⟨g, 0, none⟩) ops.length cap) ops.length (opsC ops) ∧ Whole W wr.heap.size 29 #[.int .i64 pr, .slice (some ⟨g, 0, none⟩) ops.length cap] ∧ Below wr.heap.size wr W
set_option maxRecDepth 100000 in
set_option maxHeartbeats 8000000 in
theorem lent_any {w : World} {A1 A2 A3 : Option Addr} {c1 c2 c3 : Nat} {t : Kn.Table} (hr : TabRd w w.heap.size A1 A2 A3 t) (ht1 : t.tasks.length ≤ 60) (ht2 : t.sems.length ≤ 40) (ht3 : t.queues.length ≤ 40) (ht4 : ∀ x ∈ t.tasks, x.ops.length ≤ 4000) :
 Calls Try.prog 25 #[.agg #[.slice A1 t.tasks.length c1, .slice A2 t.sems.length c2, .int .i64 t.mutexes, .slice A3 t.queues.length c3]] w
  fun e w' => ∃ V1 V2 V3, e = .returned (.agg #[V1, V2, .int .i64 t.mutexes, V3]) ∧ Tab w' w.heap.size V1 V2 V3 t ∧ Below w.heap.size w w' := by
 obtain ⟨i3, hi3, hi30, hi31, hi32⟩ := info_parts info3
 obtain ⟨i0, hi, hz0, hz1, hz2⟩ := info_parts info32
 obtain ⟨i2, hi2, hi20, hi21, hi22⟩ := info_parts info29L
 have HR := zh hr
 have HT4 := zh ht4
 clear hr ht4
 obtain ⟨wb, hwb⟩ : ∃ wb, wb = (w.alloc (.cells #[.slice A1 t.tasks.length c1, .slice A2 t.sems.length c2, .int .i64 t.mutexes, .slice A3 t.queues.length c3] 26)).alloc (.cells #[.slice none 0 0, .slice none 0 0, .int .i64 0, .slice none 0 0] 26) := ⟨_, rfl⟩
 have hzb : wb.heap.size = w.heap.size + 2 := by rw [hwb]; simp
 have hbb : Below w.heap.size w wb := by rw [hwb]; exact ((zr _ _).alloc (zl _) _).alloc (by simp) _
 have hw1 : Whole wb w.heap.size 26 #[.slice A1 t.tasks.length c1, .slice A2 t.sems.length c2, .int .i64 t.mutexes, .slice A3 t.queues.length c3] := by rw [hwb]; exact (zm _ _ _).alloc _
 have hw2 : Whole wb (w.heap.size + 1) 26 #[.slice none 0 0, .slice none 0 0, .int .i64 0, .slice none 0 0] := by
  rw [hwb]
  have h := zm (w.alloc (.cells #[.slice A1 t.tasks.length c1, .slice A2 t.sems.length c2, .int .i64 t.mutexes, .slice A3 t.queues.length c3] 26)) 26 #[.slice none 0 0, .slice none 0 0, .int .i64 0, .slice none 0 0]
  rw [show (w.alloc (.cells #[.slice A1 t.tasks.length c1, .slice A2 t.sems.length c2, .int .i64 t.mutexes, .slice A3 t.queues.length c3] 26)).heap.size = w.heap.size + 1 by simp] at h
  exact h
 have HWB := zh hwb
 clear hwb
 go_enter Try.func25, Try.ntmps25
 go_wp2_with fail
 rw [← HWB.out]
 go_loopg [4, 3] t.tasks.length (fun kk i s wr => ∃ (j : Nat) (l : List (Kn.Task × Value)), j ≤ t.tasks.length ∧ i = .int .i64 j ∧ l.map Prod.fst = t.tasks.take j ∧ Tasks wr (w.heap.size + 2) s l ∧ Below (w.heap.size + 2) wb wr ∧ t.tasks.length - j ≤ kk)
 case atStart => exact ⟨0, [], Nat.zero_le _, rfl, by simp, ⟨World.ownsRow_nil _ _ _ _, fun x hx => by simp at hx, List.Pairwise.nil⟩, zr _ _, by omega⟩
 case round =>
  obtain ⟨j, l, hj, rfl, hl, hTs, hbr, hkk⟩ := hrel
  obtain ⟨wo, rfl⟩ : ∃ wo : World, wo = wr := ⟨_, rfl⟩
  have hzr := hbr.size
  have k0 : wo.cell? ⟨w.heap.size, 0, none⟩ = some (.slice A1 t.tasks.length c1) := (hbr.cell (p := ⟨w.heap.size, 0, none⟩) (Nat.lt_add_of_pos_right (by decide))).trans (by have := hw1.cell 0; simpa using this)
  have HTS := zh hTs
  have HL := zh hl
  clear hTs hl
  by_cases hlt : j < t.tasks.length
  ·have hlt' : (j : Int) < t.tasks.length := by omega
   have HB := zh (hbb.trans (hbr.mono (by omega)))
   obtain ⟨ad, A, c, eA, had, hc0', hc1', hro, hln⟩ := HR.out.task j hlt
   subst eA
   have hc0 := (HB.out.cell (p := ad.add (j * 2)) (by rw [block_of_add]; exact had)).trans hc0'
   have hc1 := (HB.out.cell (p := ad.add (j * 2 + 1)) (by rw [block_of_add]; exact had)).trans hc1'
   clear hc0' hc1'
   have hol := HT4.out _ (List.getElem_mem hlt)
   have HT : Hid (t.tasks.take (j + 1) = t.tasks.take j ++ [t.tasks[j]]) := List.take_succ_eq_append_getElem hlt
   generalize t.tasks[j] = x at *
   obtain ⟨pr, ops⟩ := x
   have hc1' : wo.cell? ⟨(ad.add (j * 2)).block, (ad.add (j * 2)).off + 1, none⟩ = some (.slice A ops.length c) := by rw [← add_pos _ 1 (by decide), add_of_add]; exact hc1
   have hbl : (ad.add (j * 2)).block < wo.heap.size := by rw [block_of_add]; omega
   have HRO := zh (hro.below HB.out (zl _))
   clear hro hln
   go_wp2_with fail
   go_cut [] (fun wx => LentMid wo pr ops wx)
   case first =>
    obtain ⟨X, hX⟩ : ∃ X, X = wo.alloc (.cells #[.int .i64 pr, .slice A ops.length c] 29) := ⟨_, rfl⟩
    rw [← hX]
    have xb1 : X.heap.size = wo.heap.size + 1 := by rw [hX]; simp
    have wX : Whole X wo.heap.size 29 #[.int .i64 pr, .slice A ops.length c] := by rw [hX]; exact zm _ _ _
    have bX : Below wo.heap.size wo X := by rw [hX]; exact (zr _ _).alloc (zl _) _
    have HROX := zh ((HRO.out.more (show w.heap.size ≤ wo.heap.size by omega)).below bX (zl _))
    have HWX := zh wX
    have HBX := zh bX
    have HHX := zh hX
    clear hX wX bX
    refine wp_region_any (by kernel_rfl) ?_
    refine wpAny_inv_at (fun _ listed a W => (∃ l0 l1 l2 l3 l4 l5 l6 l7 l8 l9 l10 : Bool, ∃ v0 v1 v2 v3 v4 v5 v6 v7 v8 v9 v10 : Value, listed = #[l0, l1, l2, l3, l4, l5, l6, l7, l8, l9, l10, false] ∧ a = ⟨#[.agg #[.slice (some ad) t.tasks.length c1, .slice A2 t.sems.length c2, .int .i64 t.mutexes, .slice A3 t.queues.length c3], .pointer (some ⟨w.heap.size, 0, none⟩), .pointer (some ⟨w.heap.size + 1, 0, none⟩), u3, .int .i64 j, .pointer (some ⟨wo.heap.size, 0, none⟩), .int .i64 j, .pointer (some ⟨w.heap.size, 0, none⟩), .slice (some ad) t.tasks.length c1, .int .i64 t.tasks.length, .bool true, u11, u12, .pointer (some ⟨w.heap.size, 0, none⟩), .slice (some ad) t.tasks.length c1, .int .i64 j, .pointer (some (ad.add (j * 2))), .agg #[.int .i64 pr, .slice A ops.length c], v0, v1, v2, v3, v4, v5, v6, v7, v8, v9, v10, u29, u30, u31, u32, undef, undef, undef, undef, undef, undef, undef, undef, undef, undef, undef], []⟩ ∧ Hid (l0 = true → v0 = .pointer (some ⟨wo.heap.size, 1, none⟩)) ∧ Hid (l1 = true → v1 = .slice A ops.length c) ∧ Hid (l2 = true → l5 = false → W.ownsRow X.heap.size 32 3 v2 ops.length (opsC ops)) ∧ Hid (l3 = true → v3 = .agg #[.int .i64 (-71), .int .i64 0, .int .i64 0]) ∧ Hid (l4 = true → l5 = false → ∃ g4, v4 = .slice (some ⟨g4, 0, none⟩) 1 1 ∧ Whole W g4 32 #[.int .i64 (-71), .int .i64 0, .int .i64 0] ∧ (l2 = true → v2.ownBlock ≠ some g4)) ∧ Hid (l5 = true → ∃ g cap, v5 = .slice (some ⟨g, 0, none⟩) (ops.length + 1) cap ∧ W.ownsRow X.heap.size 32 3 (.slice (some ⟨g, 0, none⟩) (ops.length + 1) cap) (ops.length + 1) (opsC ops ++ [.int .i64 (-71), .int .i64 0, .int .i64 0])) ∧ Hid (l6 = true → v6 = .pointer (some ⟨wo.heap.size, 1, none⟩)) ∧ Hid (l7 = true → v7 = .slice A ops.length c) ∧ Hid (l8 = true → v8 = .int .i64 ops.length) ∧ Hid (l9 = true → ∃ g cap, v9 = .slice (some ⟨g, 0, none⟩) ops.length cap ∧ W.ownsRow X.heap.size 32 3 (.slice (some ⟨g, 0, none⟩) ops.length cap) ops.length (opsC ops)) ∧ Hid (l10 = true → v10 = .pointer (some ⟨wo.heap.size, 1, none⟩)) ∧ Hid (l1 = true → l0 = true) ∧ Hid (l2 = true → l1 = true) ∧ Hid (l4 = true → l3 = true) ∧ Hid (l5 = true → l2 = true ∧ l4 = true) ∧ Hid (l7 = true → l6 = true) ∧ Hid (l8 = true → l7 = true) ∧ Hid (l9 = true → l5 = true ∧ l8 = true) ∧ Hid (l10 = true → l0 = true ∧ l1 = true ∧ l2 = true ∧ l3 = true ∧ l4 = true ∧ l5 = true ∧ l6 = true ∧ l7 = true ∧ l8 = true ∧ l9 = true) ∧ Below X.heap.size X W) ∨ (∃ v0 v1 v2 v3 v4 v5 v6 v7 v8 v9 v10 : Value, listed = #[true, true, true, true, true, true, true, true, true, true, true, true] ∧ a = ⟨#[.agg #[.slice (some ad) t.tasks.length c1, .slice A2 t.sems.length c2, .int .i64 t.mutexes, .slice A3 t.queues.length c3], .pointer (some ⟨w.heap.size, 0, none⟩), .pointer (some ⟨w.heap.size + 1, 0, none⟩), u3, .int .i64 j, .pointer (some ⟨wo.heap.size, 0, none⟩), .int .i64 j, .pointer (some ⟨w.heap.size, 0, none⟩), .slice (some ad) t.tasks.length c1, .int .i64 t.tasks.length, .bool true, u11, u12, .pointer (some ⟨w.heap.size, 0, none⟩), .slice (some ad) t.tasks.length c1, .int .i64 j, .pointer (some (ad.add (j * 2))), .agg #[.int .i64 pr, .slice A ops.length c], v0, v1, v2, v3, v4, v5, v6, v7, v8, v9, v10, u29, u30, u31, u32, undef, undef, undef, undef, undef, undef, undef, undef, undef, undef, undef], []⟩ ∧ LentMid wo pr ops W)) (by decide) ?_ ?_ ?_
    ·intro listed a W hI i hi
     rcases hI with ⟨l0, l1, l2, l3, l4, l5, l6, l7, l8, l9, l10, v0, v1, v2, v3, v4, v5, v6, v7, v8, v9, v10, rfl, rfl, h0, h1, h2, h3, h4, h5, h6, h7, h8, h9, h10, k1, k2, k4, k5, k7, k8, k9, k10, hk⟩ | ⟨v0, v1, v2, v3, v4, v5, v6, v7, v8, v9, v10, rfl, rfl, hk⟩
     ·obtain ⟨hlt, hdep⟩ := ready_spec hi
      have hun := (mem_ready.1 hi).1
      clear hi
      have hlt : i < 12 := hlt
      have hcase : i = 0 ∨ i = 1 ∨ i = 2 ∨ i = 3 ∨ i = 4 ∨ i = 5 ∨ i = 6 ∨ i = 7 ∨ i = 8 ∨ i = 9 ∨ i = 10 ∨ i = 11 := by omega
      clear hlt
      have hkz := hk.size
      rcases hcase with rfl | rfl | rfl | rfl | rfl | rfl | rfl | rfl | rfl | rfl | rfl | rfl
      ·have hlk : l0 = false := hun
       clear hun
       clear hdep
       refine wpOp_step rfl (fun K' hK => ?_)
       go_simp
       refine hK _ _ ?_
       clear hK K'
       exact Or.inl ⟨true, l1, l2, l3, l4, l5, l6, l7, l8, l9, l10, _, _, _, _, _, _, _, _, _, _, _, rfl, rfl, zh fun _ => rfl, h1, h2, h3, h4, h5, h6, h7, h8, h9, h10, zh fun _ => rfl, k2, k4, k5, k7, k8, k9, zh fun hh => ⟨rfl, (k10.out hh).2.1, (k10.out hh).2.2.1, (k10.out hh).2.2.2.1, (k10.out hh).2.2.2.2.1, (k10.out hh).2.2.2.2.2.1, (k10.out hh).2.2.2.2.2.2.1, (k10.out hh).2.2.2.2.2.2.2.1, (k10.out hh).2.2.2.2.2.2.2.2.1, (k10.out hh).2.2.2.2.2.2.2.2.2⟩, hk⟩
      ·have hlk : l1 = false := hun
       clear hun
       have d0 : l0 = true := hdep _ rfl ⟨0, .data⟩ (by simp) rfl
       clear hdep
       have e0 := h0.out d0
       subst e0
       have hcell : W.cell? ⟨wo.heap.size, 1, none⟩ = some (.slice A ops.length c) := (hk.cell (p := ⟨wo.heap.size, 1, none⟩) HWX.out.lt).trans (by have := HWX.out.cell 1; simpa using this)
       refine wpOp_step rfl (fun K' hK => ?_)
       go_simp
       refine hK _ _ ?_
       clear hK K'
       exact Or.inl ⟨l0, true, l2, l3, l4, l5, l6, l7, l8, l9, l10, _, _, _, _, _, _, _, _, _, _, _, rfl, rfl, zh fun _ => rfl, zh fun _ => rfl, h2, h3, h4, h5, h6, h7, h8, h9, h10, zh fun _ => d0, zh fun _ => rfl, k4, k5, k7, k8, k9, zh fun hh => ⟨(k10.out hh).1, rfl, (k10.out hh).2.2.1, (k10.out hh).2.2.2.1, (k10.out hh).2.2.2.2.1, (k10.out hh).2.2.2.2.2.1, (k10.out hh).2.2.2.2.2.2.1, (k10.out hh).2.2.2.2.2.2.2.1, (k10.out hh).2.2.2.2.2.2.2.2.1, (k10.out hh).2.2.2.2.2.2.2.2.2⟩, hk⟩
      ·have hlk : l2 = false := hun
       clear hun
       have d1 : l1 = true := hdep _ rfl ⟨1, .data⟩ (by simp) rfl
       clear hdep
       have f5 : l5 = false := by cases hh : l5 with | false => rfl | true => (have := (k5.out hh).1; rw [hlk] at this; cases this)
       have f9 : l9 = false := by cases hh : l9 with | false => rfl | true => (have := (k9.out hh).1; rw [f5] at this; cases this)
       have e1 := h1.out d1
       subst e1
       refine wpOp_step rfl (fun K' hK => ?_)
       rw [if_pos (by rfl)]
       refine wp_append_reads _ _ _ rfl X.heap.size 32 i0 _ 3 24 Try.underlying27 hi hz0 hz1 hz2 rfl (by decide) rfl rfl (HROX.out.below hk (by omega)) (opsC_one ops) ?_ ?_ hkz ?_
       ·unfold maxLen; omega
       ·omega
       intro v' w' hown hgrow hlie
       refine hK _ _ ?_
       clear hK K'
       exact Or.inl ⟨l0, l1, true, l3, l4, l5, l6, l7, l8, l9, l10, _, _, _, _, _, _, _, _, _, _, _, rfl, rfl, h0, zh fun _ => rfl, zh fun _ _ => hown, h3, zh fun hh _ => (h4.out hh f5).imp fun g4 q => ⟨q.1, Whole.grown q.2.1 hgrow (by simp), fun _ e => by rcases hlie with h9 | h9 <;> rw [h9] at e <;> simp at e; have := q.2.1.lt; omega⟩, hid_false f5, h6, h7, h8, hid_false f9, h10, k1, zh fun _ => d1, k4, zh fun hh => ⟨rfl, (k5.out hh).2⟩, k7, k8, k9, zh fun hh => ⟨(k10.out hh).1, (k10.out hh).2.1, rfl, (k10.out hh).2.2.2.1, (k10.out hh).2.2.2.2.1, (k10.out hh).2.2.2.2.2.1, (k10.out hh).2.2.2.2.2.2.1, (k10.out hh).2.2.2.2.2.2.2.1, (k10.out hh).2.2.2.2.2.2.2.2.1, (k10.out hh).2.2.2.2.2.2.2.2.2⟩, hk.grown hgrow hkz (fun k hk => by cases hk)⟩
      ·have hlk : l3 = false := hun
       clear hun
       clear hdep
       refine wpOp_step rfl (fun K' hK => ?_)
       go_simp
       refine hK _ _ ?_
       clear hK K'
       exact Or.inl ⟨l0, l1, l2, true, l4, l5, l6, l7, l8, l9, l10, _, _, _, _, _, _, _, _, _, _, _, rfl, rfl, h0, h1, h2, zh fun _ => rfl, h4, h5, h6, h7, h8, h9, h10, k1, k2, zh fun _ => rfl, k5, k7, k8, k9, zh fun hh => ⟨(k10.out hh).1, (k10.out hh).2.1, (k10.out hh).2.2.1, rfl, (k10.out hh).2.2.2.2.1, (k10.out hh).2.2.2.2.2.1, (k10.out hh).2.2.2.2.2.2.1, (k10.out hh).2.2.2.2.2.2.2.1, (k10.out hh).2.2.2.2.2.2.2.2.1, (k10.out hh).2.2.2.2.2.2.2.2.2⟩, hk⟩
      ·have hlk : l4 = false := hun
       clear hun
       have d3 : l3 = true := hdep _ rfl ⟨3, .data⟩ (by simp) rfl
       clear hdep
       have f5 : l5 = false := by cases hh : l5 with | false => rfl | true => (have := (k5.out hh).2; rw [hlk] at this; cases this)
       have f9 : l9 = false := by cases hh : l9 with | false => rfl | true => (have := (k9.out hh).1; rw [f5] at this; cases this)
       have e3 := h3.out d3
       subst e3
       refine wpOp_step rfl (fun K' hK => ?_)
       go_simp
       refine hK _ _ ?_
       clear hK K'
       exact Or.inl ⟨l0, l1, l2, l3, true, l5, l6, l7, l8, l9, l10, _, _, _, _, _, _, _, _, _, _, _, rfl, rfl, h0, h1, zh fun hh _ => (h2.out hh f5).alloc _, zh fun _ => rfl, zh fun _ _ => ⟨_, rfl, zm _ _ _, fun hh e => by have := ((h2.out hh f5).lt _ e).2; omega⟩, hid_false f5, h6, h7, h8, hid_false f9, h10, k1, k2, zh fun _ => d3, zh fun hh => ⟨(k5.out hh).1, rfl⟩, k7, k8, k9, zh fun hh => ⟨(k10.out hh).1, (k10.out hh).2.1, (k10.out hh).2.2.1, (k10.out hh).2.2.2.1, rfl, (k10.out hh).2.2.2.2.2.1, (k10.out hh).2.2.2.2.2.2.1, (k10.out hh).2.2.2.2.2.2.2.1, (k10.out hh).2.2.2.2.2.2.2.2.1, (k10.out hh).2.2.2.2.2.2.2.2.2⟩, hk.alloc hkz _⟩
      ·have hlk : l5 = false := hun
       clear hun
       have d2 : l2 = true := hdep _ rfl ⟨2, .data⟩ (by simp) rfl
       have d4 : l4 = true := hdep _ rfl ⟨4, .data⟩ (by simp) rfl
       clear hdep
       have f9 : l9 = false := by cases hh : l9 with | false => rfl | true => (have := (k9.out hh).1; rw [hlk] at this; cases this)
       have o2 := h2.out d2 hlk
       obtain ⟨g4, rfl, hg4, hne4⟩ := h4.out d4 hlk
       refine wpOp_step rfl (fun K' hK => ?_)
       refine step_append_lies W rfl _ _ _ rfl X.heap.size 32 i0 _ 3 24 Try.underlying27 hi hz0 hz1 hz2 rfl (by decide) v2 ops.length (opsC ops) rfl o2 ⟨g4, 0, none⟩ 1 1 [.int .i64 (-71), .int .i64 0, .int .i64 0] rfl rfl (World.news_of_block (cs := #[.int .i64 (-71), .int .i64 0, .int .i64 0]) (t := 32) (fr := (0, 0)) hg4) (by simp [Value.oneCell']) (by decide) ?_ ?_ hkz _ rfl ?_
       ·unfold maxLen; omega
       ·omega
       intro g cap w' hown hgrow hlie hglt
       refine hK _ _ ?_
       clear hK K'
       exact Or.inl ⟨l0, l1, l2, l3, l4, true, l6, l7, l8, l9, l10, _, _, _, _, _, _, _, _, _, _, _, rfl, rfl, h0, h1, hid_vac, h3, hid_vac, zh fun _ => ⟨g, cap, rfl, hown⟩, h6, h7, h8, hid_false f9, h10, k1, k2, k4, zh fun _ => ⟨d2, d4⟩, k7, k8, zh fun hh => ⟨rfl, (k9.out hh).2⟩, zh fun hh => ⟨(k10.out hh).1, (k10.out hh).2.1, (k10.out hh).2.2.1, (k10.out hh).2.2.2.1, (k10.out hh).2.2.2.2.1, rfl, (k10.out hh).2.2.2.2.2.2.1, (k10.out hh).2.2.2.2.2.2.2.1, (k10.out hh).2.2.2.2.2.2.2.2.1, (k10.out hh).2.2.2.2.2.2.2.2.2⟩, hk.grown hgrow hkz (fun k hk => (o2.lt k hk).1)⟩
      ·have hlk : l6 = false := hun
       clear hun
       clear hdep
       refine wpOp_step rfl (fun K' hK => ?_)
       go_simp
       refine hK _ _ ?_
       clear hK K'
       exact Or.inl ⟨l0, l1, l2, l3, l4, l5, true, l7, l8, l9, l10, _, _, _, _, _, _, _, _, _, _, _, rfl, rfl, h0, h1, h2, h3, h4, h5, zh fun _ => rfl, h7, h8, h9, h10, k1, k2, k4, k5, zh fun _ => rfl, k8, k9, zh fun hh => ⟨(k10.out hh).1, (k10.out hh).2.1, (k10.out hh).2.2.1, (k10.out hh).2.2.2.1, (k10.out hh).2.2.2.2.1, (k10.out hh).2.2.2.2.2.1, rfl, (k10.out hh).2.2.2.2.2.2.2.1, (k10.out hh).2.2.2.2.2.2.2.2.1, (k10.out hh).2.2.2.2.2.2.2.2.2⟩, hk⟩
      ·have hlk : l7 = false := hun
       clear hun
       have d6 : l6 = true := hdep _ rfl ⟨6, .data⟩ (by simp) rfl
       clear hdep
       have e6 := h6.out d6
       subst e6
       have hcell : W.cell? ⟨wo.heap.size, 1, none⟩ = some (.slice A ops.length c) := (hk.cell (p := ⟨wo.heap.size, 1, none⟩) HWX.out.lt).trans (by have := HWX.out.cell 1; simpa using this)
       refine wpOp_step rfl (fun K' hK => ?_)
       go_simp
       refine hK _ _ ?_
       clear hK K'
       exact Or.inl ⟨l0, l1, l2, l3, l4, l5, l6, true, l8, l9, l10, _, _, _, _, _, _, _, _, _, _, _, rfl, rfl, h0, h1, h2, h3, h4, h5, zh fun _ => rfl, zh fun _ => rfl, h8, h9, h10, k1, k2, k4, k5, zh fun _ => d6, zh fun _ => rfl, k9, zh fun hh => ⟨(k10.out hh).1, (k10.out hh).2.1, (k10.out hh).2.2.1, (k10.out hh).2.2.2.1, (k10.out hh).2.2.2.2.1, (k10.out hh).2.2.2.2.2.1, (k10.out hh).2.2.2.2.2.2.1, rfl, (k10.out hh).2.2.2.2.2.2.2.2.1, (k10.out hh).2.2.2.2.2.2.2.2.2⟩, hk⟩
      ·have hlk : l8 = false := hun
       clear hun
       have d7 : l7 = true := hdep _ rfl ⟨7, .data⟩ (by simp) rfl
       clear hdep
       have e7 := h7.out d7
       subst e7
       refine wpOp_step rfl (fun K' hK => ?_)
       go_simp
       refine hK _ _ ?_
       clear hK K'
       exact Or.inl ⟨l0, l1, l2, l3, l4, l5, l6, l7, true, l9, l10, _, _, _, _, _, _, _, _, _, _, _, rfl, rfl, h0, h1, h2, h3, h4, h5, h6, zh fun _ => rfl, zh fun _ => rfl, h9, h10, k1, k2, k4, k5, k7, zh fun _ => d7, zh fun hh => ⟨(k9.out hh).1, rfl⟩, zh fun hh => ⟨(k10.out hh).1, (k10.out hh).2.1, (k10.out hh).2.2.1, (k10.out hh).2.2.2.1, (k10.out hh).2.2.2.2.1, (k10.out hh).2.2.2.2.2.1, (k10.out hh).2.2.2.2.2.2.1, (k10.out hh).2.2.2.2.2.2.2.1, rfl, (k10.out hh).2.2.2.2.2.2.2.2.2⟩, hk⟩
      ·have hlk : l9 = false := hun
       clear hun
       have d5 : l5 = true := hdep _ rfl ⟨5, .data⟩ (by simp) rfl
       have d8 : l8 = true := hdep _ rfl ⟨8, .data⟩ (by simp) rfl
       clear hdep
       have e8 := h8.out d8
       subst e8
       obtain ⟨g, cap, rfl, ho5⟩ := h5.out d5
       obtain ⟨_, _, q1, q2, _⟩ := row_slice ho5
       injection q1 with q1 q1' q1''
       have hnc : (ops.length : Int) ≤ cap := by omega
       have hnc2 : ops.length ≤ cap := by omega
       have hcut9 := row_cut ho5 (flat_len (f := opC) (n := 3) (fun _ => rfl) ops)
       have HC9 := zh hcut9
       have H5 := zh ho5
       clear hcut9 ho5 q1 q1' q1'' q2
       refine wpOp_step rfl (fun K' hK => ?_)
       go_simp
       refine hK _ _ ?_
       clear hK K'
       exact Or.inl ⟨l0, l1, l2, l3, l4, l5, l6, l7, l8, true, l10, _, _, _, _, _, _, _, _, _, _, _, rfl, rfl, h0, h1, h2, h3, h4, zh fun _ => ⟨g, cap, rfl, H5.out⟩, h6, h7, zh fun _ => rfl, zh fun _ => ⟨g, cap, rfl, HC9.out⟩, h10, k1, k2, k4, k5, k7, k8, zh fun _ => ⟨d5, d8⟩, zh fun hh => ⟨(k10.out hh).1, (k10.out hh).2.1, (k10.out hh).2.2.1, (k10.out hh).2.2.2.1, (k10.out hh).2.2.2.2.1, (k10.out hh).2.2.2.2.2.1, (k10.out hh).2.2.2.2.2.2.1, (k10.out hh).2.2.2.2.2.2.2.1, (k10.out hh).2.2.2.2.2.2.2.2.1, rfl⟩, hk⟩
      ·have hlk : l10 = false := hun
       clear hun
       have d0 : l0 = true := hdep _ rfl ⟨0, .phase⟩ (by simp) rfl
       have d1 : l1 = true := hdep _ rfl ⟨1, .phase⟩ (by simp) rfl
       have d2 : l2 = true := hdep _ rfl ⟨2, .phase⟩ (by simp) rfl
       have d3 : l3 = true := hdep _ rfl ⟨3, .phase⟩ (by simp) rfl
       have d4 : l4 = true := hdep _ rfl ⟨4, .phase⟩ (by simp) rfl
       have d5 : l5 = true := hdep _ rfl ⟨5, .phase⟩ (by simp) rfl
       have d6 : l6 = true := hdep _ rfl ⟨6, .phase⟩ (by simp) rfl
       have d7 : l7 = true := hdep _ rfl ⟨7, .phase⟩ (by simp) rfl
       have d8 : l8 = true := hdep _ rfl ⟨8, .phase⟩ (by simp) rfl
       have d9 : l9 = true := hdep _ rfl ⟨9, .phase⟩ (by simp) rfl
       clear hdep
       refine wpOp_step rfl (fun K' hK => ?_)
       go_simp
       refine hK _ _ ?_
       clear hK K'
       exact Or.inl ⟨l0, l1, l2, l3, l4, l5, l6, l7, l8, l9, true, _, _, _, _, _, _, _, _, _, _, _, rfl, rfl, h0, h1, h2, h3, h4, h5, h6, h7, h8, h9, zh fun _ => rfl, k1, k2, k4, k5, k7, k8, k9, zh fun _ => ⟨d0, d1, d2, d3, d4, d5, d6, d7, d8, d9⟩, hk⟩
      ·clear hun
       have d0 : l0 = true := hdep _ rfl ⟨0, .phase⟩ (by simp) rfl
       have d1 : l1 = true := hdep _ rfl ⟨1, .phase⟩ (by simp) rfl
       have d2 : l2 = true := hdep _ rfl ⟨2, .phase⟩ (by simp) rfl
       have d3 : l3 = true := hdep _ rfl ⟨3, .phase⟩ (by simp) rfl
       have d4 : l4 = true := hdep _ rfl ⟨4, .phase⟩ (by simp) rfl
       have d5 : l5 = true := hdep _ rfl ⟨5, .phase⟩ (by simp) rfl
       have d6 : l6 = true := hdep _ rfl ⟨6, .phase⟩ (by simp) rfl
       have d7 : l7 = true := hdep _ rfl ⟨7, .phase⟩ (by simp) rfl
       have d8 : l8 = true := hdep _ rfl ⟨8, .phase⟩ (by simp) rfl
       have d9 : l9 = true := hdep _ rfl ⟨9, .phase⟩ (by simp) rfl
       have d10 : l10 = true := hdep _ rfl ⟨10, .data⟩ (by simp) rfl
       clear hdep
       have e10 := h10.out d10
       subst e10
       obtain ⟨g, cap, rfl, ho9⟩ := h9.out d9
       have H9 := zh ho9
       clear ho9
       have hcell : W.cell? ⟨wo.heap.size, 1, none⟩ = some (.slice A ops.length c) := (hk.cell (p := ⟨wo.heap.size, 1, none⟩) HWX.out.lt).trans (by have := HWX.out.cell 1; simpa using this)
       have hwW : Whole W wo.heap.size 29 #[.int .i64 pr, .slice A ops.length c] := HWX.out.same (hk.block _ HWX.out.lt)
       have hfro := hwW.frozen 1
       refine wpOp_step rfl (fun K' hK => ?_)
       go_simp
       refine hK _ _ ?_
       clear hK K'
       subst d0 d1 d2 d3 d4 d5 d6 d7 d8 d9 d10
       refine Or.inr ⟨_, _, _, _, _, _, _, _, _, _, _, rfl, rfl, g, cap, ?_, ?_, ?_⟩
       ·exact tab_row_far (B := wo.heap.size + 1) (by rw [← xb1]; exact H9.out) (Nat.lt_succ_self _) _
       ·exact hwW.put 1 _
       ·exact (HBX.out.trans (hk.mono (by omega))).setCell (p := ⟨wo.heap.size, 1, none⟩) (zl _) _
     ·rw [ready_nil_of_count (by decide)] at hi
      cases hi
    ·intro listed a W hI hr
     rcases hI with ⟨l0, l1, l2, l3, l4, l5, l6, l7, l8, l9, l10, v0, v1, v2, v3, v4, v5, v6, v7, v8, v9, v10, rfl, rfl, h0, h1, h2, h3, h4, h5, h6, h7, h8, h9, h10, k1, k2, k4, k5, k7, k8, k9, k10, hk⟩ | ⟨v0, v1, v2, v3, v4, v5, v6, v7, v8, v9, v10, rfl, rfl, hk⟩
     ·refine absurd (listed_all ?_ ?_ hr 11 ?_) ?_
      ·rfl
      ·kernel_rfl
      ·show 11 < 12
       decide
      ·simp
     ·go_wp2_with fail
      go_meet
      exact hk
    ·exact Or.inl ⟨false, false, false, false, false, false, false, false, false, false, false, u18, u19, u20, u21, u22, u23, u24, u25, u26, u27, u28, rfl, rfl, zh (by simp), zh (by simp), zh (by simp), zh (by simp), zh (by simp), zh (by simp), zh (by simp), zh (by simp), zh (by simp), zh (by simp), zh (by simp), zh (by simp), zh (by simp), zh (by simp), zh (by simp), zh (by simp), zh (by simp), zh (by simp), zh (by simp), (zr _ _).drew⟩
   case rest =>
    obtain ⟨g, cap, hown, hwh, hbx⟩ := hcut
    have e0 := hwh.cell 0
    have e1 := hwh.cell 1
    simp at e0 e1
    have hbase : w.heap.size + 2 ≤ wc.heap.size := by have := hbx.size; omega
    have hrow := zh ((HTS.out.same (fun k _ hk => hbx.block k hk)).row)
    have HOWN := zh hown
    have hll : Hid (l.length = j) := by show _ = _; rw [← List.length_map (f := Prod.fst), HL.out, List.length_take]; omega
    clear hown
    go_wp2_with (at_builtin; refine wpList_append_lies _ rfl _ _ _ rfl (w.heap.size + 2) 29 i2 _ 2 32 Try.underlying23 hi2 hi20 hi21 hi22 rfl (by decide) _ l.length (l.flatMap taskC) rfl (hrow.out.alloc _) ⟨wc.heap.size, 0, none⟩ 1 1 [.int .i64 pr, .slice (some ⟨g, 0, none⟩) ops.length cap] rfl rfl (World.news_of_block (cs := #[.int .i64 pr, .slice (some ⟨g, 0, none⟩) ops.length cap]) (t := 29) (fr := (0, 0)) (heap_alloc_new _ _)) (by simp [Value.oneCell']) (by decide) ?c1 ?c2 ?c3 _ rfl ?_)
    case c1 => have := hll.out; unfold maxLen; omega
    case c2 => have := hll.out; omega
    all_goals try (simp; omega)
    intro gg cap2 w5 hown2 hgrow _ _
    have hs5 : ∀ k, k < wo.heap.size → (wc.alloc (.cells #[.int .i64 pr, .slice (some ⟨g, 0, none⟩) ops.length cap] 29)).heap[k]? = wo.heap[k]? := fun k hk => (zo wc _ k (by have := hbx.size; omega)).trans (hbx.block k hk)
    have hT' := Tasks.pushFull (x := ⟨pr, ops⟩) HTS.out (B2 := wo.heap.size + 1) (by omega) (by omega) (HOWN.out.alloc _) hs5 (by have := hbx.size; simp; omega) hown2 hgrow
    have hbW : Below (w.heap.size + 2) wb w5 := ((hbr.trans (hbx.mono (by omega))).alloc (by omega) _).grown hgrow (by simp; omega) (fun k hk => by have := (HTS.out.row.lt k hk).1; omega)
    have HT' := zh hT'
    clear hT' hown2
    go_wp2_with fail
    go_roundg (t.tasks.length - (j + 1))
    case measure => omega
    case rel => exact ⟨j + 1, l ++ [(⟨pr, ops⟩, .slice (some ⟨g, 0, none⟩) ops.length cap)], by omega, by go_num, by rw [List.map_append, HL.out, HT.out]; rfl, HT'.out, hbW, zl _⟩
  ·have hge : ¬ (j : Int) < t.tasks.length := by omega
   obtain rfl : j = t.tasks.length := by omega
   clear HT4
   have HB := zh (hbb.trans (hbr.mono (by omega)))
   have hwo1 := hw1.same (hbr.block _ (by omega))
   have hwo2 := hw2.same (hbr.block _ (by omega))
   have HTB := zh (show Tab wo (w.heap.size + 2) u3 (.slice none 0 0) (.slice none 0 0) ⟨t.tasks, [], 0, []⟩ from ⟨⟨l, by rw [HL.out, List.take_length], HTS.out⟩, World.ownsRow_nil _ _ _ _, World.ownsRow_nil _ _ _ _⟩)
   obtain ⟨Ar, cr, eR, _, _⟩ := row_slice HTS.out.row
   subst eR
   clear HTS HL k0
   have k0 := hwo1.cell 0
   have k1 := hwo1.cell 1
   have f0 := hwo1.frozen 0
   simp at k0 k1
   obtain ⟨wp, hwp⟩ : ∃ wp, wp = wo.setCell ⟨w.heap.size, 0, none⟩ (.slice Ar l.length cr) := ⟨_, rfl⟩
   have hp1 : Whole wp w.heap.size 26 #[.slice Ar l.length cr, .slice A2 t.sems.length c2, .int .i64 t.mutexes, .slice A3 t.queues.length c3] := by rw [hwp]; exact hwo1.put 0 _
   have hp2 : Whole wp (w.heap.size + 1) 26 #[.slice none 0 0, .slice none 0 0, .int .i64 0, .slice none 0 0] := by rw [hwp]; exact hwo2.far (by simp) _
   have hpT : Tab wp (w.heap.size + 2) (.slice Ar l.length cr) (.slice none 0 0) (.slice none 0 0) ⟨t.tasks, [], 0, []⟩ := by rw [hwp]; exact HTB.out.far (by show w.heap.size < _; omega) _
   have hpB : Below w.heap.size w wp := by rw [hwp]; exact HB.out.setCell (p := ⟨w.heap.size, 0, none⟩) (zl _) _
   have hpz : wp.heap.size = wo.heap.size := by rw [hwp]; exact World.size_setCell _ _ _
   have HWP := zh hwp
   clear hwp hwo1 hwo2 HTB
   have g1 := hp1.cell 1
   have gf1 := hp1.frozen 1
   simp at g1
   have HP1 := zh hp1
   have HP2 := zh hp2
   have HPT := zh hpT
   have HPB := zh hpB
   clear hp1 hp2 hpT hpB
   have q1 : t.sems.length ≤ maxLen := by unfold maxLen; omega
   have q2 : t.sems.length * 8 ≤ 140737488355328 := by omega
   have q3 : w.heap.size + 2 ≤ wp.heap.size := by omega
   go_wp2_with (rw [← HWP.out]; at_builtin; refine wpList_append_reads rfl _ _ _ rfl (w.heap.size + 2) 3 i3 _ 1 8 Try.underlying24 hi3 hi30 hi31 hi32 rfl (by decide) rfl rfl (HR.out.sems.below HPB.out (zl _)) (intV_one _) q1 q2 q3 ?_)
   intro v2 w5 hown2 hgrow2 _
   clear q1 q2 q3 g1 gf1
   obtain ⟨A2', c2', e2', _, _⟩ := row_slice hown2
   subst e2'
   have hz5 := hgrow2.size
   have h51 : Whole w5 w.heap.size 26 #[.slice Ar l.length cr, .slice A2 t.sems.length c2, .int .i64 t.mutexes, .slice A3 t.queues.length c3] := Whole.grown HP1.out hgrow2 (by simp)
   have h52 := Whole.grown HP2.out hgrow2 (by simp)
   have h5T : Tab w5 (w.heap.size + 2) (.slice Ar l.length cr) (.slice none 0 0) (.slice none 0 0) ⟨t.tasks, [], 0, []⟩ := HPT.out.same fun k _ hk => hgrow2.block k hk (by simp)
   have h5B : Below w.heap.size w w5 := HPB.out.grown hgrow2 (by omega) (fun k hk => by cases hk)
   have g1 := h51.cell 1
   have gf1 := h51.frozen 1
   have g3 := h51.cell 3
   simp at g1 g3
   obtain ⟨wq, hwq⟩ : ∃ wq, wq = w5.setCell ⟨w.heap.size, 1, none⟩ (.slice A2' t.sems.length c2') := ⟨_, rfl⟩
   have hq1 : Whole wq w.heap.size 26 #[.slice Ar l.length cr, .slice A2' t.sems.length c2', .int .i64 t.mutexes, .slice A3 t.queues.length c3] := by rw [hwq]; exact h51.put 1 _
   have hq2 : Whole wq (w.heap.size + 1) 26 #[.slice none 0 0, .slice none 0 0, .int .i64 0, .slice none 0 0] := by rw [hwq]; exact h52.far (by simp) _
   have hqT : Tab wq (w.heap.size + 2) (.slice Ar l.length cr) (.slice A2' t.sems.length c2') (.slice none 0 0) ⟨t.tasks, t.sems, 0, []⟩ := by
    rw [hwq]
    exact ⟨(h5T.far (p := ⟨w.heap.size, 1, none⟩) (by show w.heap.size < _; omega) _).tasks, tab_row_far hown2 (by show w.heap.size < _; omega) _, World.ownsRow_nil _ _ _ _⟩
   have hqB : Below w.heap.size w wq := by rw [hwq]; exact h5B.setCell (p := ⟨w.heap.size, 1, none⟩) (zl _) _
   have hqz : wq.heap.size = w5.heap.size := by rw [hwq]; exact World.size_setCell _ _ _
   have HWQ := zh hwq
   have HQ1 := zh hq1
   have HQ2 := zh hq2
   have HQT := zh hqT
   have HQB := zh hqB
   have k3 := hq1.cell 3
   simp at k3
   clear hwq hq1 hq2 hqT hqB h51 h52 h5T h5B hown2 hgrow2 HP1 HP2 HPT
   have q1 : t.queues.length ≤ maxLen := by unfold maxLen; omega
   have q2 : t.queues.length * 8 ≤ 140737488355328 := by omega
   have q3 : w.heap.size + 2 ≤ wq.heap.size := by omega
   go_wp2_with (rw [← HWQ.out]; at_builtin; refine wpList_append_reads rfl _ _ _ rfl (w.heap.size + 2) 3 i3 _ 1 8 Try.underlying24 hi3 hi30 hi31 hi32 rfl (by decide) rfl rfl (HR.out.queues.below HQB.out (zl _)) (intV_one _) q1 q2 q3 ?_)
   intro v3 w6 hown3 hgrow3 _
   clear q1 q2 q3 g1 gf1 k3 g3
   obtain ⟨A3', c3', e3', _, _⟩ := row_slice hown3
   subst e3'
   have hz6 := hgrow3.size
   have h61 : Whole w6 w.heap.size 26 #[.slice Ar l.length cr, .slice A2' t.sems.length c2', .int .i64 t.mutexes, .slice A3 t.queues.length c3] := Whole.grown HQ1.out hgrow3 (by simp)
   have h62 := Whole.grown HQ2.out hgrow3 (by simp)
   have h6T : Tab w6 (w.heap.size + 2) (.slice Ar l.length cr) (.slice A2' t.sems.length c2') (.slice none 0 0) ⟨t.tasks, t.sems, 0, []⟩ := HQT.out.same fun k _ hk => hgrow3.block k hk (by simp)
   have h6B : Below w.heap.size w w6 := HQB.out.grown hgrow3 (by omega) (fun k hk => by cases hk)
   have g1 := h61.cell 3
   have gf1 := h61.frozen 3
   simp at g1
   obtain ⟨wv, hwv⟩ : ∃ wv, wv = w6.setCell ⟨w.heap.size, 3, none⟩ (.slice A3' t.queues.length c3') := ⟨_, rfl⟩
   have hv1 : Whole wv w.heap.size 26 #[.slice Ar l.length cr, .slice A2' t.sems.length c2', .int .i64 t.mutexes, .slice A3' t.queues.length c3'] := by rw [hwv]; exact h61.put 3 _
   have hv2 : Whole wv (w.heap.size + 1) 26 #[.slice none 0 0, .slice none 0 0, .int .i64 0, .slice none 0 0] := by rw [hwv]; exact h62.far (by simp) _
   have hvT : Tab wv (w.heap.size + 2) (.slice Ar l.length cr) (.slice A2' t.sems.length c2') (.slice A3' t.queues.length c3') t := by
    rw [hwv]
    have h := h6T.far (p := ⟨w.heap.size, 3, none⟩) (by show w.heap.size < _; omega) (.slice A3' t.queues.length c3')
    exact ⟨h.tasks, h.sems, tab_row_far hown3 (by show w.heap.size < _; omega) _⟩
   have hvB : Below w.heap.size w wv := by rw [hwv]; exact h6B.setCell (p := ⟨w.heap.size, 3, none⟩) (zl _) _
   have HWV := zh hwv
   have HV2 := zh hv2
   have HVT := zh hvT
   have HVB := zh hvB
   have a0 := h61.cell 0
   have a1 := h61.cell 1
   have a2 := h61.cell 2
   have b0 := h62.cell 0
   have b1 := h62.cell 1
   have b2 := h62.cell 2
   have b3 := h62.cell 3
   have s0 := h62.frozen 0
   have s1 := h62.frozen 1
   have s2 := h62.frozen 2
   have s3 := h62.frozen 3
   simp at a0 a1 a2 b0 b1 b2 b3
   clear hwv hvT hvB hv1 hv2 h61 h62 h6T h6B hown3 hgrow3 HQ1 HQ2 HQT
   go_wp2_with fail
   rw [← HWV.out]
   have hlt1 : (⟨w.heap.size + 1, 0, none⟩ : Addr).block < w.heap.size + 2 := Nat.lt_succ_self _
   refine bodyPost_ret (v := .agg #[.slice Ar l.length cr, .slice A2' t.sems.length c2', .int .i64 t.mutexes, .slice A3' t.queues.length c3']) (results_cell_row rfl _ _ (w.heap.size + 1) 26 _ (0, 0) _ rfl ((((HV2.out.put 0 _).put 1 _).put 2 _).put 3 _) Try.underlying26 rfl (by kernel_rfl)) rfl ⟨_, _, _, rfl, ?_, ?_⟩
   ·exact tab_base ((((HVT.out.far hlt1 _).far (p := ⟨w.heap.size + 1, 1, none⟩) hlt1 _).far (p := ⟨w.heap.size + 1, 2, none⟩) hlt1 _).far (p := ⟨w.heap.size + 1, 3, none⟩) hlt1 _) (by omega)
   ·exact (((HVB.out.setCell (p := ⟨w.heap.size + 1, 0, none⟩) (Nat.le_succ _) _).setCell (p := ⟨w.heap.size + 1, 1, none⟩) (Nat.le_succ _) _).setCell (p := ⟨w.heap.size + 1, 2, none⟩) (Nat.le_succ _) _).setCell (p := ⟨w.heap.size + 1, 3, none⟩) (Nat.le_succ _) _
end Go.Proofs.Ytncbgnpoffolcaa
