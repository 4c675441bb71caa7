/-
  A table whose rows lie in memory can be read. The laws' small functions: num, O, T: the walks. What is written, as a text. Blocks that a world holds whole; a table that lies in them.
-/
import Derived.Test.YtncbgnpoffolcaaM15
import Derived.Test.YtncbgnpoffolcaaM17
import Derived.Test.YtncbgnpoffolcaaM3
import Derived.Test.YtncbgnpoffolcaaM1
import Derived.Laws.IdiomStrings
import Derived.Lib.BufferRead
namespace Go.Proofs.Ytncbgnpoffolcaa
open Go.RowKit
/-- The tasks' cells: each with its operations' slice. -/
def tkC (l : List (Kn.Task × Option Addr × Nat)) : List Value := l.flatMap fun x => [.int .i64 x.1.prio, .slice x.2.1 x.1.ops.length x.2.2]
theorem tkC_len (l : List (Kn.Task × Option Addr × Nat)) : (tkC l).length = l.length * 2 := by
 induction l with
 | nil => rfl
 | cons a l ih =>
   show ([_, _] ++ tkC l).length = _
   rw [List.length_append, ih]
   simp
   omega
theorem tkC_at : ∀ (l : List (Kn.Task × Option Addr × Nat)) (i : Nat) (h : i < l.length), (tkC l)[i * 2]? = some (.int .i64 l[i].1.prio) ∧ (tkC l)[i * 2 + 1]? = some (.slice l[i].2.1 l[i].1.ops.length l[i].2.2)
 | a :: l, 0, _ => ⟨rfl, rfl⟩
 | a :: l, i + 1, h => by
   have ih := tkC_at l i (by simpa using h)
   have e : tkC (a :: l) = .int .i64 a.1.prio :: .slice a.2.1 a.1.ops.length a.2.2 :: tkC l := rfl
   rw [e, show (i + 1) * 2 = i * 2 + 1 + 1 by omega, show i * 2 + 1 + 1 + 1 = (i * 2 + 1) + 1 + 1 by omega]
   simp only [zc, List.getElem_cons_succ]
   exact ih
theorem TabRd.of_rows {w : World} {B : Nat} {A1 A2 A3 : Option Addr} {l : List (Kn.Task × Option Addr × Nat)} {t : Kn.Table} (h1 : Reads w B 2 A1 l.length (tkC l)) (ht : t.tasks = l.map (·.1))
 (h2 : ∀ x ∈ l, Reads w B 3 x.2.1 x.1.ops.length (opsC x.1.ops) ∧ x.1.ops.length ≤ maxLen) (hs : Reads w B 1 A2 t.sems.length (intV t.sems)) (hq : Reads w B 1 A3 t.queues.length (intV t.queues))
 (l1 : l.length ≤ maxLen) (l2 : t.sems.length ≤ maxLen) (l3 : t.queues.length ≤ maxLen) : TabRd w B A1 A2 A3 t := by
 refine ⟨fun i hi => ?_, hs, hq, by rw [ht, List.length_map]; exact l1, l2, l3⟩
 have hi' : i < l.length := by rw [ht, List.length_map] at hi; exact hi
 obtain ⟨ad, e, hb, hc⟩ := h1.2 (by omega)
 have he : t.tasks[i] = l[i].1 := by simp [ht]
 have hx := h2 l[i] (List.getElem_mem hi')
 have ha := tkC_at l i hi'
 rw [he]
 exact ⟨ad, l[i].2.1, l[i].2.2, e, hb, hc _ _ ha.1, hc _ _ ha.2, hx.1, hx.2⟩
/-- A row in a block of its own reads. -/
theorem Reads.of_whole {w : World} {B g ty sz n : Nat} {cs : Array Value} (h : Whole w g ty cs) (hb : g < B) (hl : cs.size = n * sz) : Reads w B sz (some ⟨g, 0, none⟩) n cs.toList := by
 refine ⟨by simpa using hl, fun _ => ⟨_, rfl, hb, fun j u hj => ?_⟩⟩
 rw [Addr.add_lit, Nat.zero_add, h.cell j]
 simpa using hj
theorem Reads.nil {w : World} {B sz : Nat} (A : Option Addr) : Reads w B sz A 0 [] := ⟨by simp, fun h => by omega⟩
end Go.Proofs.Ytncbgnpoffolcaa
namespace Go.Proofs.Ytncbgnpoffolcaa
open Go.RowKit
theorem num_any (e : Int) (w : World) : Calls Try.prog 23 #[.int .i64 e] w fun r w' => r = .returned (.int .i64 e) ∧ w = w' := by
 go_enter Try.func23, Try.ntmps23
 go_wp2
 go_ret
 exact ⟨rfl, rfl⟩
theorem results_one {fn : Func} {p : Tmp} {ty : TypeId} (h : fn.results = #[.cell p ty]) (tmps : Array Value) (w : World) (g : Nat) (t : TypeId) (cs : Array Value) (fr : Nat × Nat) (fs : Array Field)
 (hp : tmps.getD p undef = .pointer (some ⟨g, 0, none⟩)) (hg : w.heap[g]? = some (.cells cs t fr))
 (hu : Try.prog.underlying ty = some (.struct fs)) (hi : (Try.prog.info? ty).map (·.size) = some cs.size) :
 (results fn tmps).run Try.prog w = .ok (.agg cs) w := by
 have hp' : tmps[p]?.getD undef = .pointer (some ⟨g, 0, none⟩) := by simpa using hp
 simp [results, h, hp', asAddr, run_loadVar_row w g t ty cs fr (.struct fs) hg hu rfl hi]
set_option maxRecDepth 100000 in
theorem o_any (kd a b : Int) (w : World) : Calls Try.prog 21 #[.int .i64 kd, .int .i64 a, .int .i64 b] w fun r w' => r = .returned (.agg #[.int .i64 kd, .int .i64 a, .int .i64 b]) ∧ Below w.heap.size w w' := by
 go_enter Try.func21, Try.ntmps21
 go_wp2_with fail
 exact bodyPost_ret (results_one rfl _ _ w.heap.size 32 _ (0, 0) _ rfl (zm w 32 #[.int .i64 kd, .int .i64 a, .int .i64 b]) Try.underlying32 (by kernel_rfl)) rfl ⟨rfl, (zr _ _).alloc (zl _) _⟩
set_option maxRecDepth 100000 in
theorem t_any (p : Int) (A : Option Addr) (n c : Nat) (w : World) : Calls Try.prog 20 #[.int .i64 p, .slice A n c] w fun r w' => r = .returned (.agg #[.int .i64 p, .slice A n c]) ∧ Below w.heap.size w w' := by
 go_enter Try.func20, Try.ntmps20
 go_wp2_with fail
 exact bodyPost_ret (results_one rfl _ _ w.heap.size 29 _ (0, 0) _ rfl (zm w 29 #[.int .i64 p, .slice A n c]) Try.underlying29 (by kernel_rfl)) rfl ⟨rfl, (zr _ _).alloc (zl _) _⟩
end Go.Proofs.Ytncbgnpoffolcaa
namespace Go.Proofs.Ytncbgnpoffolcaa
open Go.RowKit
theorem KM.outConv {w : World} {B : Nat} {k : Kn.K} {L : Lay} (h : KM w B k L) : (convert 34 9 (L.hd .out k.out.length)).run Try.prog w = .ok (.string ⟨k.out.toArray⟩) w := by
 unfold Lay.hd
 split
 ·rename_i q
  have e := h.nil.2.2.2.2.1 q
  have e2 : k.out = [] := List.length_eq_zero_iff.1 e
  rw [e2]
  exact Lib.run_convert_nil_bytes w 34 9 5 0 Try.underlying34 Try.underlying5 Try.underlying9
 ·rename_i q
  have q : L.nil .out = false := by simpa using q
  obtain ⟨e, cur, hb, hn, -, -, hc⟩ := h.cont .out q
  rw [e]
  refine run_convert_bytes_back w 34 9 5 ⟨L.b .out, 0, none⟩ (L.cap .out) k.out Try.underlying34 Try.underlying5 Try.underlying9 fun j hj => ?_
  have e2 : (⟨L.b .out, 0, none⟩ : Addr).add j = ⟨L.b .out, j, none⟩ := by unfold Addr.add; simp; try (intro q; exact q.symm)
  rw [e2, cell_of_row w (L.b .out) j cur 5 (0, 0) hb]
  have h1 : (cur.toList.take k.out.length)[j]? = cur[j]? := by
   rw [List.getElem?_take_of_lt hj]
   simp
  rw [← h1, hc]
  simp [hj]
end Go.Proofs.Ytncbgnpoffolcaa
namespace Go.Proofs.Ytncbgnpoffolcaa
open Go.RowKit
/-- What a world holds since w0: these blocks whole, all elder ones as they were. -/
structure Hs (w0 W : World) (l : List (Nat × Nat × Array Value)) : Prop where
 has : ∀ x ∈ l, Whole W x.1 x.2.1 x.2.2
 bel : Below w0.heap.size w0 W
section
variable {w0 W W' : World} {l : List (Nat × Nat × Array Value)}
theorem Hs.nil (h : Below w0.heap.size w0 W) : Hs w0 W [] := ⟨fun _ hx => (by cases hx), h⟩
theorem Hs.call0 (h : Hs w0 W l) (hb : Below W.heap.size W W') : Hs w0 W' l :=
 ⟨fun x hx => (h.has x hx).same (hb.block _ (h.has x hx).lt), h.bel.trans (hb.mono h.bel.size)⟩
theorem Hs.alloc (h : Hs w0 W l) (cs : Array Value) (t : TypeId) : Hs w0 (W.alloc (.cells cs t)) ((W.heap.size, t, cs) :: l) :=
 ⟨fun x hx => by
  rcases List.mem_cons.1 hx with rfl | hx
  ·exact zm W t cs
  ·exact (h.has x hx).alloc _, h.bel.alloc h.bel.size _⟩
theorem Hs.call1 {cs : Array Value} {t : TypeId} (h : Hs w0 W l) (hb : Below (W.alloc (.cells cs t)).heap.size (W.alloc (.cells cs t)) W') : Hs w0 W' ((W.heap.size, t, cs) :: l) := (h.alloc cs t).call0 hb
theorem Hs.call2 {cs cs2 : Array Value} {t t2 : TypeId} (h : Hs w0 W l) (hb : Below ((W.alloc (.cells cs t)).alloc (.cells cs2 t2)).heap.size ((W.alloc (.cells cs t)).alloc (.cells cs2 t2)) W') : Hs w0 W' (((W.alloc (.cells cs t)).heap.size, t2, cs2) :: (W.heap.size, t, cs) :: l) := ((h.alloc cs t).alloc cs2 t2).call0 hb
theorem Hs.whole (h : Hs w0 W l) {g t : Nat} {cs : Array Value} (hx : (g, t, cs) ∈ l) : Whole W g t cs := h.has _ hx
/-- One block's cell is written; those of other types stay. -/
theorem Hs.put {g t : Nat} {cs : Array Value} (h : Hs w0 W l) (hx : (g, t, cs) ∈ l) (hg : w0.heap.size ≤ g) (i : Nat) (u : Value) : Hs w0 (W.setCell ⟨g, i, none⟩ u) ((g, t, cs.setIfInBounds i u) :: l.filter fun x => x.2.1 != t) :=
 ⟨fun x hm => by
  rcases List.mem_cons.1 hm with rfl | hm
  ·exact (h.whole hx).put i u
  ·rw [List.mem_filter, bne_iff_ne] at hm
   exact (h.has x hm.1).far ((h.has x hm.1).kind (h.whole hx) hm.2) u, h.bel.setCell (p := ⟨g, i, none⟩) hg u⟩
theorem Hs.tab {t : Kn.Table} {rs : List (Kn.Task × Option Addr × Nat)} {gT : Nat} {A2 A3 : Option Addr} (h : Hs w0 W l) (hT : (gT, 29, (tkC rs).toArray) ∈ l) (ht : t.tasks = rs.map (·.1))
 (ho : ∀ x ∈ rs, x.1.ops.length ≤ 1000 ∧ (x.1.ops = [] ∨ ∃ g, x.2.1 = some ⟨g, 0, none⟩ ∧ (g, 32, (opsC x.1.ops).toArray) ∈ l))
 (hs : t.sems.length ≤ 1000 ∧ (t.sems = [] ∨ ∃ g, A2 = some ⟨g, 0, none⟩ ∧ (g, 3, (intV t.sems).toArray) ∈ l)) (hq : t.queues.length ≤ 1000 ∧ (t.queues = [] ∨ ∃ g, A3 = some ⟨g, 0, none⟩ ∧ (g, 3, (intV t.queues).toArray) ∈ l)) (hl : rs.length ≤ 1000) :
 TabRd W W.heap.size (some ⟨gT, 0, none⟩) A2 A3 t := by
 have hint : ∀ (A : Option Addr) (xs : List Int), (xs = [] ∨ ∃ g, A = some ⟨g, 0, none⟩ ∧ (g, 3, (intV xs).toArray) ∈ l) → Reads W W.heap.size 1 A xs.length (intV xs) := by
  intro A xs hx
  rcases hx with rfl | ⟨g, rfl, hg⟩
  ·exact Reads.nil A
  ·have := Reads.of_whole (n := xs.length) (sz := 1) (h.whole hg) (h.whole hg).lt (by simp [intV])
   simpa using this
 have hm : (1000 : Nat) ≤ maxLen := by unfold maxLen; omega
 refine TabRd.of_rows (l := rs) ?_ ht ?_ (hint _ _ hs.2) (hint _ _ hq.2) (zt hl hm) (zt hs.1 hm) (zt hq.1 hm)
 ·have := Reads.of_whole (n := rs.length) (sz := 2) (h.whole hT) (h.whole hT).lt (by simp [tkC_len])
  simpa using this
 ·intro x hx
  obtain ⟨h1, h2⟩ := ho x hx
  refine ⟨?_, zt h1 hm⟩
  rcases h2 with h2 | ⟨g, e, hg⟩
  ·rw [h2]
   exact Reads.nil _
  ·rw [e]
   have hsz : (opsC x.1.ops).length = x.1.ops.length * 3 := by
    generalize x.1.ops = ll
    induction ll with
    | nil => rfl
    | cons a ll ih =>
      show ([_, _, _] ++ opsC ll).length = _
      rw [List.length_append, ih]
      simp
      omega
   have := Reads.of_whole (n := x.1.ops.length) (sz := 3) (h.whole hg) (h.whole hg).lt (by simp [hsz])
   simpa using this
end
/-- A run's answer, to be read later. -/
structure Ran (w' : World) (k : Kn.K) (P Q R : Option Addr) (pn pc qn qc rn rc : Nat) : Prop where
 conv : ∀ W, Below w'.heap.size w' W → (convert 34 9 (.slice P pn pc)).run Try.prog W = .ok (.string ⟨k.out.toArray⟩) W
 len : pn = k.out.length
 tasks : ∀ W, Below w'.heap.size w' W → Reads W w'.heap.size 1 Q (k.tasks.map (·.state)).length (intV (k.tasks.map (·.state)))
 tlen : qn = k.tasks.length
 cap : pn ≤ pc
 bytes : ∀ W, Below w'.heap.size w' W → ∀ j (h : j < k.out.length), ∃ ad : Addr, P = some ad ∧ ad.block < w'.heap.size ∧ W.cell? (ad.add j) = some (.int .u8 k.out[j].toNat)
theorem LHead.reads {w : World} {A : Option Addr} {n c : Nat} {xs : List Int} {g : Option Nat} (h : LHead w (.slice A n c) xs g) : n = xs.length ∧ ∀ W, Below w.heap.size w W → Reads W w.heap.size 1 A xs.length (intV xs) := by
 rcases h with ⟨_, e, rfl⟩ | ⟨b, off, cap, _, e, cur, hb, hl1, hl2, hl3, hc⟩
 ·cases e
  exact ⟨rfl, fun W _ => Reads.nil _⟩
 ·cases e
  refine ⟨rfl, fun W hW => ⟨by simp [intV], fun hn => ⟨_, rfl, (Array.getElem?_eq_some_iff.1 hb).1, fun j u hj => ?_⟩⟩⟩
  have hlt : b < w.heap.size := (Array.getElem?_eq_some_iff.1 hb).1
  have hj' : ∃ x, xs[j]? = some x ∧ u = .int .i64 x := by
   unfold intV at hj
   rw [List.getElem?_map] at hj
   cases hx : xs[j]? with
   | none => rw [hx] at hj; cases hj
   | some x => rw [hx] at hj; cases hj; exact ⟨x, rfl, rfl⟩
  obtain ⟨x, hx, rfl⟩ := hj'
  have e2 : (⟨b, off, none⟩ : Addr).add j = ⟨b, off + j, none⟩ := Addr.add_lit _ _ _
  rw [e2, hW.cell (p := ⟨b, off + j, none⟩) hlt, cell_of_row w b (off + j) cur 3 (0, 0) hb]
  exact hc j x hx
theorem RunAns.opened {w w' : World} {k : Kn.K} {e : Ending} (h : RunAns w k e w') : ∃ P Q R pn pc qn qc rn rc, e = .returned (.tuple #[.agg #[.slice P pn pc, .slice Q qn qc, .slice R rn rc, .int .i64 k.ticks, .int .i64 k.ops], .int .i64 0]) ∧ Below w.heap.size w w' ∧ Hid (Ran w' k P Q R pn pc qn qc rn rc) := by
 obtain ⟨L, V1, V2, V3, g1, g2, hK, e1, hL1, hL2, he, hb⟩ := h
 obtain ⟨Q, qn, qc, rfl⟩ := hL1.shape
 obtain ⟨R, rn, rc, rfl⟩ := hL2.shape
 have hsh : ∃ P pc, V1 = .slice P k.out.length pc ∧ k.out.length ≤ pc ∧ ∀ W, Below w'.heap.size w' W → ∀ j (h : j < k.out.length), ∃ ad : Addr, P = some ad ∧ ad.block < w'.heap.size ∧ W.cell? (ad.add j) = some (.int .u8 k.out[j].toNat) := by
  rw [e1]
  unfold Lay.hd
  split
  ·rename_i q
   have h0 := hK.nil.2.2.2.2.1 q
   exact ⟨none, 0, by rw [h0], by omega, fun W _ j h => by omega⟩
  ·rename_i q
   have q : L.nil .out = false := by simpa using q
   obtain ⟨e0, cur, hb, hn, -, -, hc⟩ := hK.cont .out q
   refine ⟨_, _, rfl, hn, fun W hW j hj => ⟨_, rfl, hK.lt (c := .out) q, ?_⟩⟩
   rw [e0, Addr.add_lit, Nat.zero_add, hW.cell (p := ⟨L.b .out, j, none⟩) (hK.lt (c := .out) q), cell_of_row w' (L.b .out) j cur 5 (0, 0) hb]
   have h1 : (cur.toList.take k.out.length)[j]? = cur[j]? := by
    rw [List.getElem?_take_of_lt hj]
    simp
   rw [← h1, hc]
   simp [hj]
 obtain ⟨P, pc, e2, hpc, hby⟩ := hsh
 subst e2
 refine ⟨P, Q, R, _, pc, qn, qc, rn, rc, he, hb, ⟨fun W hW => ?_, rfl, fun W hW => hL1.reads.2 W hW, by rw [hL1.reads.1, List.length_map], hpc, hby⟩⟩
 rw [e1]
 exact (hK.below hW).outConv
end Go.Proofs.Ytncbgnpoffolcaa
