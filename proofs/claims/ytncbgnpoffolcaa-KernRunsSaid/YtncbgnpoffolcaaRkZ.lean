/-
  The document's kernel: the walk of New.
-/
import Derived.Test.YtncbgnpoffolcaaRkY
import Derived.Test.YtncbgnpoffolcaaM16
namespace Go.Proofs.Ytncbgnpoffolcaa
open Go.RowKit
section
variable {w : World} {o : Oper} {a : Act}
theorem info100 : (Try.prog.info? 100).map (fun i => (i.zero, i.size, i.bytes)) = some (some (.agg #[.int .i64 0, .int .i64 0, .slice none 0 0, .int .i64 0, .int .i64 0, .int .i64 0, .int .i64 0, .int .i64 0, .int .i64 0, .int .i64 0, .int .i64 0, .int .i64 0, .slice none 0 0]), 13, 136) := by kernel_rfl
theorem info102 : (Try.prog.info? 102).map (fun i => (i.zero, i.size, i.bytes)) = some (some (.agg #[.slice none 0 0, .int .i64 0]), 2, 32) := by kernel_rfl
def zeros (n : Nat) : Array Value := madeCells (Value.int .i64 0).cells (n * 1)
theorem zeros_list (n : Nat) (xs : List Kn.Op) (h : xs.length = n) : (zeros n).toList = intV (xs.map fun _ => 0) := by
 unfold zeros
 rw [Nat.mul_one, show (Value.int .i64 0).cells = #[Value.int .i64 0] from rfl, toList_madeCells_one]
 apply List.ext_getElem?
 intro i
 by_cases hi : i < n
 ·simp [intV, hi, h]
 ·simp [intV, hi, h]
/-- A slice of noughts. -/
theorem step_mkI {ops : Array Oper} {K : Act → World → Prop} {Q : Exit → Act → World → Prop} {E : Prop} (hgd : o.guard = none) (x y : Operand) (ho : o.op = .makeSlice 24 x y) (n : Nat) (hn : n ≤ 1000000) (hx : a.eval x = .int .i64 n) (hy : a.eval y = .int .i64 n)
 (h : K (a.put o.dst (.slice (some ⟨w.heap.size, 0, none⟩) n n)) (w.alloc (.cells (zeros n) 3))) : if Region.wanted o (yielded ops a.tmps) = true then Oper.wp Try.prog o a w K Q else E := by
 have hw : Region.wanted o (yielded ops a.tmps) = true := by simp [Region.wanted, hgd]
 rw [if_pos hw]
 obtain ⟨i3, hi3, hi30, hi31, hi32⟩ := info_parts info3
 have hr : (execOp a.eval o).run Try.prog w = .ok (.value (.slice (some ⟨w.heap.size, 0, none⟩) n n)) (w.alloc (.cells (zeros n) 3)) := by
  have q := run_makeSlice (P := Try.prog) w 24 3 i3 _ Try.underlying24 hi3 hi30 .i64 .i64 (n : Int) (n : Int) (by omega) (Int.le_refl _) (by rw [hi31]; simp; omega) (by rw [hi32]; omega) (by omega)
  rw [hi31] at q
  unfold execOp
  simp only [ho, hx, hy]
  simp [q, zeros]
 unfold Oper.wp
 rw [hr]
 exact h
theorem run_bsT (p : Int) (A : Option Addr) (U n c : Nat) (w : World) : (Instr.buildSlice 95 1 #[(0, .agg #[.int .i64 p, .int .i64 p, .slice A n c, .int .i64 0, .int .i64 0, .int .i64 0, .int .i64 (-1), .int .i64 0, .int .i64 0, .int .i64 0, .int .i64 0, .int .i64 0, .slice (some ⟨U, 0, none⟩) n n])]).run Try.prog w = .ok (.slice (some ⟨w.heap.size, 0, none⟩) 1 1) (w.alloc (.cells #[.int .i64 p, .int .i64 p, .slice A n c, .int .i64 0, .int .i64 0, .int .i64 0, .int .i64 (-1), .int .i64 0, .int .i64 0, .int .i64 0, .int .i64 0, .int .i64 0, .slice (some ⟨U, 0, none⟩) n n] 100)) := by
 go_simp
theorem step_bsT {ops : Array Oper} {K : Act → World → Prop} {Q : Exit → Act → World → Prop} {E : Prop} (hgd : o.guard = none) (x : Operand) (ho : o.op = .buildSlice 95 1 #[(0, x)]) (p : Int) (A : Option Addr) (U n c : Nat) (hx : a.eval x = .agg #[.int .i64 p, .int .i64 p, .slice A n c, .int .i64 0, .int .i64 0, .int .i64 0, .int .i64 (-1), .int .i64 0, .int .i64 0, .int .i64 0, .int .i64 0, .int .i64 0, .slice (some ⟨U, 0, none⟩) n n])
 (h : K (a.put o.dst (.slice (some ⟨w.heap.size, 0, none⟩) 1 1)) (w.alloc (.cells #[.int .i64 p, .int .i64 p, .slice A n c, .int .i64 0, .int .i64 0, .int .i64 0, .int .i64 (-1), .int .i64 0, .int .i64 0, .int .i64 0, .int .i64 0, .int .i64 0, .slice (some ⟨U, 0, none⟩) n n] 100))) : if Region.wanted o (yielded ops a.tmps) = true then Oper.wp Try.prog o a w K Q else E := by
 have hw : Region.wanted o (yielded ops a.tmps) = true := by simp [Region.wanted, hgd]
 rw [if_pos hw]
 have hr : (execOp a.eval o).run Try.prog w = .ok (.value (.slice (some ⟨w.heap.size, 0, none⟩) 1 1)) (w.alloc (.cells #[.int .i64 p, .int .i64 p, .slice A n c, .int .i64 0, .int .i64 0, .int .i64 0, .int .i64 (-1), .int .i64 0, .int .i64 0, .int .i64 0, .int .i64 0, .int .i64 0, .slice (some ⟨U, 0, none⟩) n n] 100)) := by
  unfold execOp
  simp [ho, hx, run_bsT]
 unfold Oper.wp
 rw [hr]
 exact h
theorem run_bsQ (s : Int) (w : World) : (Instr.buildSlice 96 1 #[(0, .agg #[.slice none 0 0, .int .i64 s])]).run Try.prog w = .ok (.slice (some ⟨w.heap.size, 0, none⟩) 1 1) (w.alloc (.cells #[.slice none 0 0, .int .i64 s] 102)) := by
 go_simp
theorem step_bsQ {ops : Array Oper} {K : Act → World → Prop} {Q : Exit → Act → World → Prop} {E : Prop} (hgd : o.guard = none) (x : Operand) (ho : o.op = .buildSlice 96 1 #[(0, x)]) (s : Int) (hx : a.eval x = .agg #[.slice none 0 0, .int .i64 s])
 (h : K (a.put o.dst (.slice (some ⟨w.heap.size, 0, none⟩) 1 1)) (w.alloc (.cells #[.slice none 0 0, .int .i64 s] 102))) : if Region.wanted o (yielded ops a.tmps) = true then Oper.wp Try.prog o a w K Q else E := by
 have hw : Region.wanted o (yielded ops a.tmps) = true := by simp [Region.wanted, hgd]
 rw [if_pos hw]
 have hr : (execOp a.eval o).run Try.prog w = .ok (.value (.slice (some ⟨w.heap.size, 0, none⟩) 1 1)) (w.alloc (.cells #[.slice none 0 0, .int .i64 s] 102)) := by
  unfold execOp
  simp [ho, hx, run_bsQ]
 unfold Oper.wp
 rw [hr]
 exact h
theorem run_storeS (T : TypeId) (_hT : Try.prog.underlying T = Try.prog.underlying T) {p : Addr} {x : Value} {A : Option Addr} {n c : Nat} (hc : w.cell? p = some x) (hf : w.frozen? p = false) : (Instr.storeAt 95 (.pointer (some p)) (.slice A n c)).run Try.prog w = .ok () (w.setCell p (.slice A n c)) ∧ (Instr.storeAt 96 (.pointer (some p)) (.slice A n c)).run Try.prog w = .ok () (w.setCell p (.slice A n c)) := by
 constructor <;> go_simp
theorem step_storeS {ops : Array Oper} {K : Act → World → Prop} {Q : Exit → Act → World → Prop} {E : Prop} (hgd : o.guard = none) (x y : Operand) {T : TypeId} (ho : o.op = .store T x y) (hT : T = 95 ∨ T = 96) {p : Addr} {z : Value} {A : Option Addr} {n c : Nat} (hx : a.eval x = .pointer (some p)) (hy : a.eval y = .slice A n c) (hc : w.cell? p = some z) (hf : w.frozen? p = false)
 (h : K (a.put o.dst undef) (w.setCell p (.slice A n c))) : if Region.wanted o (yielded ops a.tmps) = true then Oper.wp Try.prog o a w K Q else E := by
 have hw : Region.wanted o (yielded ops a.tmps) = true := by simp [Region.wanted, hgd]
 rw [if_pos hw]
 have hr' : (execOp a.eval o).run Try.prog w = .ok .skip (w.setCell p (.slice A n c)) := by
  unfold execOp
  simp only [ho, hx, hy]
  rcases hT with rfl | rfl
  ·simp [(run_storeS 95 rfl hc hf).1]
  ·simp [(run_storeS 95 rfl hc hf).2]
 unfold Oper.wp
 rw [hr']
 exact h
theorem step_append_reads {ops : Array Oper} {K : Act → World → Prop} {Q : Exit → Act → World → Prop} {E : Prop} (hgd : o.guard = none) (s x : Operand) (t : TypeId)
 (ho : o.op = .call { callee := .builtin .append, args := #[s, x], argTypes := #[t, t] }) (base : Nat)
 (e : TypeId) (i : TypeInfo) (z : Value) (size bytes : Nat) (ht : Try.prog.underlying t = some (.slice e)) (hi : Try.prog.info? e = some i) (hz : i.zero = some z)
 (hsize : i.size = size) (hby : i.bytes = bytes) (hzs : z.cells.size = size) (hsz : 0 < size) {A : Option Addr} {m c B : Nat} {news : List Value} (hs : a.eval s = .slice none 0 0) (hx : a.eval x = .slice A m c) (hr : Reads w B size A m news) (h1 : ∀ u ∈ news, u.oneCell' = true)
 (h63 : m ≤ maxLen) (hbytes : m * bytes ≤ 140737488355328) (hbase : base ≤ w.heap.size)
 (h : ∀ v' w', w'.ownsRow base e size v' m news → w.grownBy w' none → (v'.ownBlock = none ∨ v'.ownBlock = some w.heap.size) → K (a.put o.dst v') w') : if Region.wanted o (yielded ops a.tmps) = true then Oper.wp Try.prog o a w K Q else E := by
 have hw : Region.wanted o (yielded ops a.tmps) = true := by simp [Region.wanted, hgd]
 rw [if_pos hw]
 exact wp_append_reads s x t ho base e i z size bytes ht hi hz hsize hby hzs hsz hs hx hr h1 h63 hbytes hbase h
end
namespace Rk
/-- New's own part of a task: what region 6 leaves. -/
theorem addTaskD {w W1 W2 w5 : World} {x : Kn.Task} {n : Nat} {k : List Kn.Task} {L : Ly} {A AT : Option Addr} {c cT gg cap xb : Nat} {cx : Array Value} (h : RM W2 (w.heap.size + 1) (k1 k) L) (hn : (k1 k).tasks.length = n) (eT : L.V .ta = .slice AT n cT) (hb : L.b = w.heap.size + 1) (hop : x.ops.length ≤ maxLen)
 (hro : Reads W2 (w.heap.size + 1) 3 A x.ops.length (opsC x.ops))
 (hown : w5.ownsRow (w.heap.size + 1) 100 13 (.slice (some ⟨gg, 0, none⟩) (n + 1) cap) (n + 1) (tasksC (k1 k) L ++ [.int .i64 x.prio, .int .i64 x.prio, .slice A x.ops.length c, .int .i64 0, .int .i64 0, .int .i64 0, .int .i64 (-1), .int .i64 0, .int .i64 0, .int .i64 0, .int .i64 0, .int .i64 0, .slice (some ⟨W2.heap.size, 0, none⟩) x.ops.length x.ops.length]))
 (hgrow : ((W2.drew.alloc (.cells (zeros x.ops.length) 3)).alloc (.cells #[.int .i64 x.prio, .int .i64 x.prio, .slice A x.ops.length c, .int .i64 0, .int .i64 0, .int .i64 0, .int .i64 (-1), .int .i64 0, .int .i64 0, .int .i64 0, .int .i64 0, .int .i64 0, .slice (some ⟨W2.heap.size, 0, none⟩) x.ops.length x.ops.length] 100)).grownBy w5 (Value.slice AT n cT).ownBlock)
 (hor : (Value.slice AT n cT).ownBlock = some gg ∨ gg = W2.heap.size + 2) (hkl : w.heap.size + 1 < W2.heap.size) (hx : Whole W2 xb 29 cx) (hneX : some xb ≠ (Value.slice AT n cT).ownBlock) (hxl : w.heap.size + 2 ≤ xb) (hxo : ∀ q, (L.V q).ownBlock ≠ some xb)
 (hB : Below (w.heap.size + 1) W1 W2) (hlt : ∀ {g}, (Value.slice AT n cT).ownBlock = some g → w.heap.size + 1 ≤ g ∧ g < W2.heap.size) :
 ∃ L', RM (w5.setCell ⟨w.heap.size + 1, 0, none⟩ (.slice (some ⟨gg, 0, none⟩) (n + 1) cap)) (w.heap.size + 1) { k1 k with tasks := (k1 k).tasks ++ [mkT x] } L' ∧ L'.b = w.heap.size + 1 ∧
   (∀ p : Part, p ≠ .ta → (∀ i, p ≠ .lp i) → L'.V p = L.V p) ∧ Whole (w5.setCell ⟨w.heap.size + 1, 0, none⟩ (.slice (some ⟨gg, 0, none⟩) (n + 1) cap)) xb 29 cx ∧
   Below (w.heap.size + 1) W1 (w5.setCell ⟨w.heap.size + 1, 0, none⟩ (.slice (some ⟨gg, 0, none⟩) (n + 1) cap)) ∧ (∀ q, (L'.V q).ownBlock ≠ some xb) := by
 obtain ⟨Wb, hWb⟩ : ∃ Wb, Wb = ((W2.drew.alloc (.cells (zeros x.ops.length) 3)).alloc (.cells #[.int .i64 x.prio, .int .i64 x.prio, .slice A x.ops.length c, .int .i64 0, .int .i64 0, .int .i64 0, .int .i64 (-1), .int .i64 0, .int .i64 0, .int .i64 0, .int .i64 0, .int .i64 0, .slice (some ⟨W2.heap.size, 0, none⟩) x.ops.length x.ops.length] 100)) := ⟨_, rfl⟩
 have hzb : Wb.heap.size = W2.heap.size + 2 := by rw [hWb, World.size_alloc, World.size_alloc]; rfl
 have hbb : Below W2.heap.size W2 Wb := by rw [hWb]; exact (((zr W2.heap.size W2).drew).alloc (zl _) _).alloc (by rw [World.size_alloc]; exact Nat.le_succ _) _
 have hlp : Wb.ownsRow (w.heap.size + 1) 3 1 (.slice (some ⟨W2.heap.size, 0, none⟩) x.ops.length x.ops.length) (x.ops.map fun _ => (0 : Int)).length (intV (x.ops.map fun _ => (0 : Int))) := by
  have q := World.ownsRow_lit (base := w.heap.size + 1) (e := 3) (size := 1) W2.drew (zeros x.ops.length) x.ops.length (Nat.le_of_lt hkl) hop (by unfold zeros; rw [size_madeCells])
  rw [zeros_list _ x.ops rfl] at q
  rw [hWb, List.length_map]
  exact q.alloc _
 rw [← hWb] at hgrow
 clear hWb
 have hub : ∀ {b}, (Value.slice (some ⟨W2.heap.size, 0, none⟩) x.ops.length x.ops.length).ownBlock = some b → b = W2.heap.size := fun {b} e => by
  have : W2.heap.size = b := by simpa [Value.ownBlock] using e
  exact this.symm
 have hgb : ∀ {b}, (Value.slice (some ⟨gg, 0, none⟩) (n + 1) cap).ownBlock = some b → b = gg := fun {b} e => by
  have : gg = b := by simpa [Value.ownBlock] using e
  exact this.symm
 have hgg : (Value.slice AT n cT).ownBlock = some gg ∨ W2.heap.size + 2 ≤ gg := by
  rcases hor with e | e
  ·exact .inl e
  ·exact .inr (by omega)
 have hlp5 := row_same hlp fun k0 hk => hgrow.block k0 (by rw [hub hk, hzb]; omega) (fun e => by have := (hlt e.symm).2; have := hub hk; omega)
 have hne : gg ≠ W2.heap.size := by
  rcases hgg with e | e
  ·have := (hlt e).2; omega
  ·omega
 have key := h.addTask (w1 := w5) (t := mkT x) (v := .slice (some ⟨gg, 0, none⟩) (n + 1) cap) (u := .slice (some ⟨W2.heap.size, 0, none⟩) x.ops.length x.ops.length) (ov := .slice A x.ops.length c) hlp5
  (fun b e => ⟨by rw [hub e]; exact zl _, fun e2 => hne (by rw [← hgb e2, hub e])⟩) (by rw [hn]; exact hown)
  ((Br.of_below hbb).grown (by rw [eT]; exact hgrow)) (fun b e => by rw [hgb e, eT]; rcases hgg with q | q; exact .inl q; exact .inr (by omega)) ⟨A, c, rfl, hro⟩
 rw [hb] at key
 refine ⟨_, key, hb, fun p h1 h2 => ?_, ?_, ?_, fun q => ?_⟩
 ·show (if p = .ta then _ else if p = .lp _ then _ else L.V p) = _
  rw [if_neg h1, if_neg (h2 _)]
 ·have q5 : Whole w5 xb 29 cx := hx.same ((hgrow.block _ (by have := hx.lt; omega) hneX).trans (hbb.block _ hx.lt))
  exact q5.same (zk _ _ _ _ (by show xb ≠ w.heap.size + 1; omega))
 ·exact ((hB.trans (hbb.mono (by omega))).grown hgrow (by omega) (fun b e => (hlt e).1)).setCell (p := ⟨w.heap.size + 1, 0, none⟩) (zl _) _
 ·show (if q = .ta then _ else if q = .lp _ then _ else L.V q : Value).ownBlock ≠ _
  by_cases e1 : q = .ta
  ·rw [if_pos e1]
   intro e
   rcases hgg with e2 | e2
   ·exact hneX (by rw [e2, ← hgb e])
   ·have := hgb e; have := hx.lt; omega
  ·rw [if_neg e1]
   by_cases e2 : q = .lp (k1 k).tasks.length
   ·rw [if_pos e2]
    intro e
    have := hub e
    have := hx.lt
    omega
   ·rw [if_neg e2]
    exact hxo q
theorem pushD {w W1 w6 w7 : World} {r : K} {L : Ly} {ll : List Int} {j p gg cap c : Nat} {AV : Option Addr} {k : K} {L0 : Ly} (h : RM w6 (w.heap.size + 1) r L) (hl : ll = k.l p) (hp : p < 32) (hb : L.b = w.heap.size + 1) (eV : L.V (.l p) = .slice AV ll.length c) 
 (hown : w7.ownsRow (w.heap.size + 1) 3 1 (.slice (some ⟨gg, 0, none⟩) (ll.length + 1) cap) (ll ++ [(j : Int)]).length (intV (ll ++ [(j : Int)]))) (hgrow : (w6.alloc (.cells #[.int .i64 (j : Int)] 3)).grownBy w7 (Value.slice AV ll.length c).ownBlock)
 (hor : (Value.slice AV ll.length c).ownBlock = some gg ∨ gg = (w6.alloc (.cells #[.int .i64 (j : Int)] 3)).heap.size) (hB : Below (w.heap.size + 1) W1 w6) (hV : ∀ p : Part, p ≠ .ta → (∀ i, p ≠ .lp i) → L.V p = L0.V p) (hk : k.l p = r.l p := by rfl)
 (hnil : (∀ x, 32 ≤ x → L0.V (.l x) = .slice none 0 0) ∧ L0.V .sa = .slice none 0 0 ∧ L0.V .ow = .slice none 0 0 ∧ L0.V .qa = .slice none 0 0 := by assumption) :
 ∃ L', RM (w7.setCell ⟨w.heap.size + 1, 1 + p, none⟩ (.slice (some ⟨gg, 0, none⟩) (ll.length + 1) cap)) (w.heap.size + 1) (r.setL p (· ++ [(j : Int)])) L' ∧ L'.b = w.heap.size + 1 ∧
   ((∀ x, 32 ≤ x → L'.V (.l x) = .slice none 0 0) ∧ L'.V .sa = .slice none 0 0 ∧ L'.V .ow = .slice none 0 0 ∧ L'.V .qa = .slice none 0 0) ∧ Below (w.heap.size + 1) W1 (w7.setCell ⟨w.heap.size + 1, 1 + p, none⟩ (.slice (some ⟨gg, 0, none⟩) (ll.length + 1) cap)) := by
 rw [hk] at hl
 subst hl
 rw [← eV] at hgrow hor
 obtain ⟨a1, a2⟩ := h.pushed (n := (j : Int)) hp hown hgrow hor
 rw [hb] at a1 a2
 refine ⟨_, a1, hb, ⟨fun x hx => ?_, ?_, ?_, ?_⟩, hB.trans (a2.below h)⟩
 ·rw [set_ne (by simp; omega), hV _ (by simp) (by simp)]; exact hnil.1 x hx
 ·rw [set_ne (by simp), hV _ (by simp) (by simp)]; exact hnil.2.1
 ·rw [set_ne (by simp), hV _ (by simp) (by simp)]; exact hnil.2.2.1
 ·rw [set_ne (by simp), hV _ (by simp) (by simp)]; exact hnil.2.2.2
set_option maxRecDepth 100000 in
set_option maxHeartbeats 16000000 in
theorem new_any {w : World} {A1 A2 A3 : Option Addr} {c1 c2 c3 : Nat} {t : Kn.Table} (hr : TabRd w w.heap.size A1 A2 A3 t) (ht : t.fits = true) :
 Calls Try.prog 34 #[.agg #[.slice A1 t.tasks.length c1, .slice A2 t.sems.length c2, .int .i64 t.mutexes, .slice A3 t.queues.length c3]] w
  fun e w' => e = .returned (.pointer (some ⟨w.heap.size + 1, 0, none⟩)) ∧ Below w.heap.size w w' ∧ ∃ L, RM w' (w.heap.size + 1) (begin t) L ∧ L.b = w.heap.size + 1 := by
 have HR := zh hr
 have hfit : 1 ≤ t.tasks.length ∧ t.tasks.length ≤ 32 ∧ t.sems.length ≤ 8 ∧ 0 ≤ t.mutexes ∧ t.mutexes ≤ 8 ∧ t.queues.length ≤ 8 := by
  unfold Kn.Table.fits at ht
  simp only [Bool.and_eq_true, decide_eq_true_eq] at ht
  exact ht.1.1.1
 have HT := zh ht
 obtain ⟨f1, f2, f3, f4, f5, f6⟩ := hfit
 clear hr ht
 obtain ⟨W1, hW1⟩ : ∃ W1, W1 = (w.alloc (.cells #[.slice A1 t.tasks.length c1, .slice A2 t.sems.length c2, .int .i64 t.mutexes, .slice A3 t.queues.length c3] 26)).alloc (.cells #[.slice none 0 0, .slice none 0 0, .slice none 0 0, .slice none 0 0, .slice none 0 0, .slice none 0 0, .slice none 0 0, .slice none 0 0, .slice none 0 0, .slice none 0 0, .slice none 0 0, .slice none 0 0, .slice none 0 0, .slice none 0 0, .slice none 0 0, .slice none 0 0, .slice none 0 0, .slice none 0 0, .slice none 0 0, .slice none 0 0, .slice none 0 0, .slice none 0 0, .slice none 0 0, .slice none 0 0, .slice none 0 0, .slice none 0 0, .slice none 0 0, .slice none 0 0, .slice none 0 0, .slice none 0 0, .slice none 0 0, .slice none 0 0, .slice none 0 0, .slice none 0 0, .slice none 0 0, .slice none 0 0, .slice none 0 0, .int .i64 0, .int .i64 0, .int .i64 0, .int .i64 (-1), .int .i64 0, .int .i64 0] 98) := ⟨_, rfl⟩
 have wt1 : Whole W1 w.heap.size 26 #[.slice A1 t.tasks.length c1, .slice A2 t.sems.length c2, .int .i64 t.mutexes, .slice A3 t.queues.length c3] := by rw [hW1]; exact (zm w 26 _).alloc _
 have wk1 : Whole W1 (w.heap.size + 1) 98 ker0 := by
  rw [hW1]
  have := zm (w.alloc (.cells #[.slice A1 t.tasks.length c1, .slice A2 t.sems.length c2, .int .i64 t.mutexes, .slice A3 t.queues.length c3] 26)) 98 #[.slice none 0 0, .slice none 0 0, .slice none 0 0, .slice none 0 0, .slice none 0 0, .slice none 0 0, .slice none 0 0, .slice none 0 0, .slice none 0 0, .slice none 0 0, .slice none 0 0, .slice none 0 0, .slice none 0 0, .slice none 0 0, .slice none 0 0, .slice none 0 0, .slice none 0 0, .slice none 0 0, .slice none 0 0, .slice none 0 0, .slice none 0 0, .slice none 0 0, .slice none 0 0, .slice none 0 0, .slice none 0 0, .slice none 0 0, .slice none 0 0, .slice none 0 0, .slice none 0 0, .slice none 0 0, .slice none 0 0, .slice none 0 0, .slice none 0 0, .slice none 0 0, .slice none 0 0, .slice none 0 0, .slice none 0 0, .int .i64 0, .int .i64 0, .int .i64 0, .int .i64 (-1), .int .i64 0, .int .i64 0]
  rw [show (w.alloc (.cells #[.slice A1 t.tasks.length c1, .slice A2 t.sems.length c2, .int .i64 t.mutexes, .slice A3 t.queues.length c3] 26)).heap.size = w.heap.size + 1 by simp] at this
  exact this
 have hb1 : Below w.heap.size w W1 := by rw [hW1]; exact ((zr _ _).alloc (zl _) _).alloc (by simp) _
 have hz1 : W1.heap.size = w.heap.size + 2 := by rw [hW1]; simp
 have K1 := zh (RM.base (B := w.heap.size + 1) wk1 (zl _))
 have HW1 := zh hW1
 have WT1 := zh wt1
 have B1 := zh hb1
 have hW1z : w.heap.size + 2 ≤ W1.heap.size := by omega
 have HZ1 := zh hz1
 obtain ⟨i3, hi3, hi30, hi31, hi32⟩ := info_parts info3
 obtain ⟨ia, hia, hia0, hia1, hia2⟩ := info_parts info100
 obtain ⟨ib, hib, hib0, hib1, hib2⟩ := info_parts info102
 clear hW1 wt1 wk1 hb1 hz1
 go_enter Try.func34, Try.ntmps34
 go_upto_region 2 with fail
 rw [← HW1.out]
 have a1 : W1.cell? ⟨w.heap.size, 0, none⟩ = some (.slice A1 t.tasks.length c1) := WT1.out.cell 0
 go_wp2_with fail
 clear a1
 go_loopg [4] t.tasks.length (fun kk iv wr => ∃ (j : Nat) (L : Ly), j ≤ t.tasks.length ∧ iv = .int .i64 j ∧ RM wr (w.heap.size + 1) (k1 (t.tasks.take j)) L ∧ L.b = w.heap.size + 1 ∧ ((∀ x, 32 ≤ x → L.V (.l x) = .slice none 0 0) ∧ L.V .sa = .slice none 0 0 ∧ L.V .ow = .slice none 0 0 ∧ L.V .qa = .slice none 0 0) ∧ Below (w.heap.size + 1) W1 wr ∧ t.tasks.length - j ≤ kk)
 case atStart => exact ⟨0, L0 (w.heap.size + 1), Nat.zero_le _, rfl, K1.out, rfl, ⟨fun _ _ => rfl, rfl, rfl, rfl⟩, zr _ _, by omega⟩
 case round =>
  obtain ⟨j, L, hj, rfl, hK, hLb, hnil, hBw, hkk⟩ := hrel
  have hzr := hBw.size
  have HKJ := zh hK
  have HBW := zh hBw
  have HLB := zh hLb
  have HNIL := zh hnil
  clear hK hBw hLb hnil
  have at0 : wr.cell? ⟨w.heap.size, 0, none⟩ = some (.slice A1 t.tasks.length c1) := (HBW.out.cell (p := ⟨w.heap.size, 0, none⟩) (Nat.lt_succ_self _)).trans (WT1.out.cell 0)
  by_cases hlt : j < t.tasks.length
  ·have hlt' : (j : Int) < t.tasks.length := by omega
   have hj0 : (0 : Int) ≤ j := by omega
   obtain ⟨ad, A, c, eA, had, q0', q1', hro, hol⟩ := HR.out.task j hlt
   subst eA
   have q0 := ((B1.out.trans (HBW.out.mono (Nat.le_succ _))).cell (p := ad.add (j * 2)) (by rw [block_of_add]; exact had)).trans q0'
   have q1 := ((B1.out.trans (HBW.out.mono (Nat.le_succ _))).cell (p := ad.add (j * 2 + 1)) (by rw [block_of_add]; exact had)).trans q1'
   have HTK : Hid (t.tasks.take (j + 1) = t.tasks.take j ++ [t.tasks[j]]) := List.take_succ_eq_append_getElem hlt
   have hfx := task_of_fits HT.out (List.getElem_mem hlt)
   generalize t.tasks[j] = x at *
   obtain ⟨hp0, hp31, hn100⟩ := hfx
   obtain ⟨pr, ops⟩ := x
   obtain ⟨p, rfl⟩ := Int.eq_ofNat_of_zero_le (show 0 ≤ pr from hp0)
   have hp32 : p < 32 := by have : (p : Int) ≤ 31 := hp31; omega
   have ip : (p : Int) < 32 := by omega
   have ip0 : (0 : Int) ≤ p := by omega
   have hn100' : ops.length ≤ 100 := hn100
   have q0b : wr.cell? (ad.add (j * 2)) = some (.int .i64 (p : Int)) := q0
   have q1b : wr.cell? ⟨(ad.add (j * 2)).block, (ad.add (j * 2)).off + 1, none⟩ = some (.slice A ops.length c) := by rw [← add_pos _ 1 (by decide), add_of_add]; exact q1
   have hro' : Reads w w.heap.size 3 A ops.length (opsC ops) := hro
   have hlen : (t.tasks.take j).length = j := by simp; omega
   obtain ⟨W2, hW2⟩ : ∃ W2, W2 = wr.alloc (.cells #[.int .i64 (p : Int), .slice A ops.length c] 29) := ⟨_, rfl⟩
   have hb2 : Below wr.heap.size wr W2 := by rw [hW2]; exact (zr _ _).alloc (zl _) _
   have wx2 : Whole W2 wr.heap.size 29 #[.int .i64 (p : Int), .slice A ops.length c] := by rw [hW2]; exact zm wr 29 _
   have hz2 : W2.heap.size = wr.heap.size + 1 := by rw [hW2]; simp
   have K2 := zh (HKJ.out.below hb2)
   have HBW2 : Hid (Below (w.heap.size + 1) W1 W2) := HBW.out.trans (hb2.mono (by omega))
   have HRO2 : Hid (Reads W2 (w.heap.size + 1) 3 A ops.length (opsC ops)) := (hro'.below (B' := w.heap.size) (B1.out.trans (HBW2.out.mono (Nat.le_succ _))) (zl _)).more (Nat.le_succ _)
   have hxlow : w.heap.size + 2 ≤ wr.heap.size := by omega
   obtain ⟨AT, cT, eT, -, -⟩ := K2.out.slice .ta
   replace eT : L.V .ta = .slice AT j cT := by rw [eT]; show Value.slice AT ((t.tasks.take j).map mkT).length cT = _; rw [List.length_map, hlen]
   have ET := zh eT
   have HROW : Hid (W2.ownsRow (w.heap.size + 1) 100 13 (.slice AT j cT) j (tasksC (k1 (t.tasks.take j)) L)) := by
    have q := K2.out.row .ta
    have e : Part.len (k1 (t.tasks.take j)) .ta = j := by show ((t.tasks.take j).map mkT).length = j; rw [List.length_map, hlen]
    rw [eT, e] at q
    exact q
   have cb : W2.cell? ⟨w.heap.size + 1, 0, none⟩ = some (.slice AT j cT) := by
    have q := K2.out.cTa
    rw [HLB.out, eT] at q
    exact q
   have cf : W2.frozen? ⟨w.heap.size + 1, 0, none⟩ = false := by
    have q := K2.out.free 0
    rw [HLB.out] at q
    exact q
   have hxo : ∀ q, (L.V q).ownBlock ≠ some wr.heap.size := fun q e => by have := (HKJ.out.rowLt e).2; omega
   have hneB : some (w.heap.size + 1) ≠ (Value.slice AT j cT).ownBlock := fun e => K2.out.ne .ta (by rw [eT, HLB.out]; exact e.symm)
   have hneX : some wr.heap.size ≠ (Value.slice AT j cT).ownBlock := fun e => hxo .ta (by rw [eT]; exact e.symm)
   have HXO := zh hxo
   have hkl : w.heap.size + 1 < W2.heap.size := by omega
   have hxl : wr.heap.size < W2.heap.size := by omega
   have cx0 : W2.cell? ⟨wr.heap.size, 0, none⟩ = some (.int .i64 (p : Int)) := wx2.cell 0
   have cx1 : W2.cell? ⟨wr.heap.size, 1, none⟩ = some (.slice A ops.length c) := wx2.cell 1
   have WX2 := zh wx2
   have HW2 := zh hW2
   have HLEN := zh hlen
   clear eT hb2 wx2 hW2 q0 q1 q0' q1' hlen hro hro' hol hz2 hxo
   go_upto_region 6 with fail
   rw [← HW2.out]
   clear q0b q1b at0
   have hl0 : Addr.block (⟨wr.heap.size, 0, none⟩) < W2.heap.size := hxl
   have hne0 := hneX
   have hl1 : Addr.block (⟨wr.heap.size, 1, none⟩) < W2.heap.size := hxl
   have hne1 := hneX
   have hl2 : Addr.block (⟨w.heap.size + 1, 0, none⟩) < W2.heap.size := hkl
   have hne2 := hneB
   refine wp_region_need (S := fun w' => w'.cell? (⟨wr.heap.size, 0, none⟩) = some (.int .i64 (p : Int)) ∧ w'.cell? (⟨wr.heap.size, 1, none⟩) = some (.slice A ops.length c) ∧ w'.cell? (⟨w.heap.size + 1, 0, none⟩) = some (.slice AT j cT)) (need := fun i => i != 20) 21 (bs 21 0) (by kernel_rfl) (by kernel_rfl) (by kernel_rfl) ?_ (fun hHeld => ?_)
   ·(try dsimp only)
    exact ⟨cx0, cx1, cb⟩
   refine tk 0 (bs 21 1) (v := ?_) ?_ ?_; rotate_left 2
   refine tk 1 (bs 21 3) (v := ?_) ?_ ?_; rotate_left 2
   refine tk 2 (bs 21 7) (v := ?_) ?_ ?_; rotate_left 2
   refine tk 3 (bs 21 15) (v := ?_) ?_ ?_; rotate_left 2
   refine tk 4 (bs 21 31) (v := ?_) ?_ ?_; rotate_left 2
   refine tk 5 (bs 21 63) (v := ?_) ?_ ?_; rotate_left 2
   refine tk 6 (bs 21 127) (v := ?_) ?_ ?_; rotate_left 2
   refine tk 7 (bs 21 255) (v := ?_) ?_ ?_; rotate_left 2
   refine tk 8 (bs 21 511) (v := ?_) ?_ ?_; rotate_left 2
   refine tk 9 (bs 21 1023) (v := ?_) ?_ ?_; rotate_left 2
   refine tk 10 (bs 21 2047) (v := ?_) ?_ ?_; rotate_left 2
   refine tk 11 (bs 21 4095) (v := ?_) ?_ ?_; rotate_left 2
   refine tk 12 (bs 21 8191) (v := ?_) ?_ ?_; rotate_left 2
   refine tk 13 (bs 21 16383) (v := ?_) ?_ ?_; rotate_left 2
   rotate_left
   iterate 14 (rotate_left; focus (intro w hSw; (try dsimp only at hSw); obtain ⟨hS0', hS1', hS2'⟩ := hSw; go_simp; with_reducible rfl))
   try simp only [Act.put, p1, p2, p3, p4, p5, p6]
   refine wpAnyN_step (i := 14) (listed' := (bs 21 32767)) (by kernel_rfl) rfl (by kernel_rfl) (fun K hK => ?_)
   refine step_mkI rfl _ _ (by rfl) ops.length (by omega) (by rfl) (by rfl) ?_
   refine hK.out _ _ ?_ (fun hHeld => ?_)
   ·(try dsimp only)
    exact fun _ => ⟨(zw _ _ _ hl0).trans (hHeld.1), (zw _ _ _ hl1).trans (hHeld.2.1), (zw _ _ _ hl2).trans (hHeld.2.2)⟩
   clear hK K
   replace hHeld := hHeld rfl
   try simp only [Act.put, p1, p2, p3, p4, p5, p6]
   refine tk 15 (bs 21 65535) (v := ?_) ?_ ?_; rotate_left 2
   rotate_left
   iterate 1 (rotate_left; focus (intro w hSw; (try dsimp only at hSw); obtain ⟨hS0', hS1', hS2'⟩ := hSw; go_simp; with_reducible rfl))
   try simp only [Act.put, p1, p2, p3, p4, p5, p6]
   refine wpAnyN_step (i := 16) (listed' := (bs 21 131071)) (by kernel_rfl) rfl (by kernel_rfl) (fun K hK => ?_)
   refine step_bsT rfl _ (by rfl) (p : Int) A W2.heap.size ops.length c (by rfl) ?_
   refine hK.out _ _ ?_ (fun hHeld => ?_)
   ·(try dsimp only)
    exact fun _ => ⟨(zw _ _ _ (lt_al hl0 _)).trans (hHeld.1), (zw _ _ _ (lt_al hl1 _)).trans (hHeld.2.1), (zw _ _ _ (lt_al hl2 _)).trans (hHeld.2.2)⟩
   clear hK K
   replace hHeld := hHeld rfl
   try simp only [Act.put, p1, p2, p3, p4, p5, p6]
   refine wpAnyN_step (i := 17) (listed' := (bs 21 262143)) (by kernel_rfl) rfl (by kernel_rfl) (fun K hK => ?_)
   refine step_append_lies _ (by rfl) _ _ _ (by rfl) (w.heap.size + 1) 100 ia _ 13 136 Try.underlying95 hia hia0 hia1 hia2 rfl (by decide) (.slice AT j cT) j (tasksC (k1 (t.tasks.take j)) L) (by rfl) ((HROW.out.alloc _).alloc _) ⟨(W2.drew.alloc (.cells (zeros ops.length) 3)).heap.size, 0, none⟩ 1 1 [.int .i64 (p : Int), .int .i64 (p : Int), .slice A ops.length c, .int .i64 0, .int .i64 0, .int .i64 0, .int .i64 (-1), .int .i64 0, .int .i64 0, .int .i64 0, .int .i64 0, .int .i64 0, .slice (some ⟨W2.heap.size, 0, none⟩) ops.length ops.length] (by rfl) (by rfl) (World.news_of_block (cs := #[.int .i64 (p : Int), .int .i64 (p : Int), .slice A ops.length c, .int .i64 0, .int .i64 0, .int .i64 0, .int .i64 (-1), .int .i64 0, .int .i64 0, .int .i64 0, .int .i64 0, .int .i64 0, .slice (some ⟨W2.heap.size, 0, none⟩) ops.length ops.length]) (t := 100) (fr := (0, 0)) (heap_alloc_new _ _)) (by simp [Value.oneCell']) (by decide) (by unfold maxLen; omega) (by omega) (by simp only [World.size_alloc]; show w.heap.size + 1 ≤ W2.heap.size + 1 + 1; omega) (W2.heap.size + 2) (by simp only [World.size_alloc]; rfl) ?_
   intro gg cap w5 hown hgrow hor hgl5
   have z0 := (hgrow.cell_far (⟨w.heap.size + 1, 0, none⟩) (lt_al (lt_al hl2 _) _) hneB).trans (hHeld.2.2)
   have zf := (hgrow.frozen_far (⟨w.heap.size + 1, 0, none⟩) (lt_al (lt_al hl2 _) _) hneB).trans (((zx (zo _ _ _ (lt_al hl2 _))).trans (zx (zo _ _ _ hl2))).trans cf)
   have HO := zh hown
   have HG := zh hgrow
   have HOR := zh hor
   have HGL := zh hgl5
   clear hown hor hgl5
   refine hK.out _ _ ?_ (fun hHeld => ?_)
   ·(try dsimp only)
    exact fun _ => ⟨(hgrow.cell_far (⟨wr.heap.size, 0, none⟩) (lt_al (lt_al hl0 _) _) hne0).trans (hHeld.1), (hgrow.cell_far (⟨wr.heap.size, 1, none⟩) (lt_al (lt_al hl1 _) _) hne1).trans (hHeld.2.1), (hgrow.cell_far (⟨w.heap.size + 1, 0, none⟩) (lt_al (lt_al hl2 _) _) hne2).trans (hHeld.2.2)⟩
   clear hK K
   replace hHeld := hHeld rfl
   try simp only [Act.put, p1, p2, p3, p4, p5, p6]
   refine tk 18 (bs 21 524287) (v := ?_) ?_ ?_; rotate_left 2
   refine tk 19 (bs 21 1048575) (v := ?_) ?_ ?_; rotate_left 2
   rotate_left
   iterate 2 (rotate_left; focus (intro w hSw; (try dsimp only at hSw); obtain ⟨hS0', hS1', hS2'⟩ := hSw; go_simp; with_reducible rfl))
   try simp only [Act.put, p1, p2, p3, p4, p5, p6]
   refine wpAnyN_step (i := 20) (listed' := (bs 21 2097151)) (by kernel_rfl) rfl (by kernel_rfl) (fun K hK => ?_)
   refine step_storeS rfl _ _ (by rfl) (.inl rfl) (by rfl) (by rfl) z0 zf ?_
   refine hK.out _ _ ?_ (fun hHeld => ?_)
   ·exact fun h => absurd h (by decide)
   clear hK K
   try simp only [Act.put, p1, p2, p3]
   refine wpAnyN_done (by kernel_rfl) ?_ _
   clear hgrow
   have a1 := addTaskD (W2 := W2) (w5 := w5) (x := ⟨(p : Int), ops⟩) (n := j) K2.out (by rw [k1_len, HLEN.out]) ET.out HLB.out (by show ops.length ≤ maxLen; unfold maxLen; omega) HRO2.out HO.out HG.out HOR.out hkl WX2.out hneX hxlow HXO.out HBW2.out (fun e => HROW.out.lt _ e)
   obtain ⟨L6, a1, a2, a3, a4, a5, a6⟩ := a1
   have K6 := zh a1
   have L6B := zh a2
   have L6V := zh a3
   have X6 := zh a4
   have B6 := zh a5
   have O6 := zh a6
   clear a1 a2 a3 a4 a5 a6 z0 zf hHeld hl0 hl1 hl2 hne0 hne1 hne2
   clear cx0 cx1 cb cf hkl hxl
   generalize hw6 : w5.setCell ⟨w.heap.size + 1, 0, none⟩ (.slice (some ⟨gg, 0, none⟩) (j + 1) cap) = w6 at *
   clear hw6
   have hz6 := B6.out.size
   have hx6 := X6.out.lt
   have ex0 : w6.cell? ⟨wr.heap.size, 0, none⟩ = some (.int .i64 (p : Int)) := X6.out.cell 0
   have hk6 : w.heap.size + 1 < w6.heap.size := by omega
   obtain ⟨AV, cV, eV, -, -⟩ := K6.out.slice (.l p)
   obtain ⟨ll, hll⟩ : ∃ ll : List Int, ll = (k1 (t.tasks.take j)).l p := ⟨_, rfl⟩
   have hxl6 : ll.length ≤ 1000000 := by have := k1_l (t.tasks.take j) p; rw [HLEN.out] at this; rw [hll]; omega
   replace eV : L6.V (.l p) = .slice AV ll.length cV := by rw [eV, hll]; rfl
   have EV := zh eV
   have HR6 : Hid (w6.ownsRow (w.heap.size + 1) 3 1 (.slice AV ll.length cV) ll.length (intV ll)) := by (have q := K6.out.row (.l p); rw [eV] at q; rw [hll] at q ⊢; exact q)
   have ev : w6.cell? ⟨w.heap.size + 1, 1 + p, none⟩ = some (.slice AV ll.length cV) := by (have q := K6.out.cRow hp32; rw [L6B.out, eV] at q; exact q)
   have ef : w6.frozen? ⟨w.heap.size + 1, 1 + p, none⟩ = false := by (have q := K6.out.free (1 + p); rw [L6B.out] at q; exact q)
   have hmeB : some (w.heap.size + 1) ≠ (Value.slice AV ll.length cV).ownBlock := fun e => K6.out.ne (.l p) (by rw [eV, L6B.out]; exact e.symm)
   have hmeX : some wr.heap.size ≠ (Value.slice AV ll.length cV).ownBlock := fun e => O6.out (.l p) (by rw [eV]; exact e.symm)
   have HLL := zh hll
   clear eV hll
   go_wp2_with fail
   have hl0 : Addr.block (⟨wr.heap.size, 0, none⟩) < w6.heap.size := hx6
   have hne0 := hmeX
   have hl1 : Addr.block (⟨w.heap.size + 1, 1 + p, none⟩) < w6.heap.size := hk6
   have hne1 := hmeB
   refine wp_region_need (S := fun w' => w'.cell? (⟨wr.heap.size, 0, none⟩) = some (.int .i64 (p : Int)) ∧ w'.cell? (⟨w.heap.size + 1, 1 + p, none⟩) = some (.slice AV ll.length cV)) (need := fun i => i != 16) 17 (bs 17 0) (by kernel_rfl) (by kernel_rfl) (by kernel_rfl) ?_ (fun hHeld => ?_)
   ·(try dsimp only)
    exact ⟨ex0, ev⟩
   refine tk 0 (bs 17 1) (v := ?_) ?_ ?_; rotate_left 2
   refine tk 1 (bs 17 3) (v := ?_) ?_ ?_; rotate_left 2
   refine tk 2 (bs 17 7) (v := ?_) ?_ ?_; rotate_left 2
   refine tk 3 (bs 17 15) (v := ?_) ?_ ?_; rotate_left 2
   refine tk 4 (bs 17 31) (v := ?_) ?_ ?_; rotate_left 2
   refine tk 5 (bs 17 63) (v := ?_) ?_ ?_; rotate_left 2
   refine tk 6 (bs 17 127) (v := ?_) ?_ ?_; rotate_left 2
   refine tk 7 (bs 17 255) (v := ?_) ?_ ?_; rotate_left 2
   refine tk 8 (bs 17 511) (v := ?_) ?_ ?_; rotate_left 2
   refine tk 9 (bs 17 1023) (v := ?_) ?_ ?_; rotate_left 2
   refine tk 10 (bs 17 2047) (v := ?_) ?_ ?_; rotate_left 2
   refine tk 13 (bs 17 10239) (v := ?_) ?_ ?_; rotate_left 2
   refine tk 14 (bs 17 26623) (v := ?_) ?_ ?_; rotate_left 2
   rotate_left
   iterate 13 (rotate_left; focus (intro w hSw; (try dsimp only at hSw); obtain ⟨hS0', hS1'⟩ := hSw; go_simp; with_reducible rfl))
   try simp only [Act.put, p1, p2, p3, p4, p5, p6]
   refine wpAnyN_step (i := 11) (listed' := (bs 17 28671)) (by kernel_rfl) rfl (by kernel_rfl) (fun K hK => ?_)
   refine step_bsI rfl _ (by rfl) ((j : Int)) (by rfl) ?_
   refine hK.out _ _ ?_ (fun hHeld => ?_)
   ·(try dsimp only)
    exact fun _ => ⟨(zw _ _ _ hl0).trans (hHeld.1), (zw _ _ _ hl1).trans (hHeld.2)⟩
   clear hK K
   replace hHeld := hHeld rfl
   try simp only [Act.put, p1, p2, p3, p4, p5, p6]
   refine wpAnyN_step (i := 12) (listed' := (bs 17 32767)) (by kernel_rfl) rfl (by kernel_rfl) (fun K hK => ?_)
   refine step_appI rfl _ _ (by rfl) (w.heap.size + 1) (.slice AV ll.length cV) ll (by rfl) (HR6.out.alloc _) ((j : Int)) ⟨w6.heap.size, 0, none⟩ 1 (by rfl) (by exact (zm w6 3 #[.int .i64 ((j : Int))]).cell 0) hxl6 (by rw [World.size_alloc]; exact Nat.le_succ_of_le (Nat.le_of_lt hk6)) ?_
   intro gg2 cap2 w7 hown hgrow hor
   have z0 := (hgrow.cell_far (⟨w.heap.size + 1, 1 + p, none⟩) (lt_al hl1 _) hne1).trans hHeld.2
   have zf := (hgrow.frozen_far (⟨w.heap.size + 1, 1 + p, none⟩) (lt_al hl1 _) hne1).trans ((zx (zo _ _ _ hl1)).trans ef)
   have HO2 := zh hown
   have HG2 := zh hgrow
   have HOR2 := zh hor
   clear hown hor
   refine hK.out _ _ ?_ (fun hHeld => ?_)
   ·(try dsimp only)
    exact fun _ => ⟨(hgrow.cell_far (⟨wr.heap.size, 0, none⟩) (lt_al hl0 _) hne0).trans (hHeld.1), (hgrow.cell_far (⟨w.heap.size + 1, 1 + p, none⟩) (lt_al hl1 _) hne1).trans (hHeld.2)⟩
   clear hK K
   replace hHeld := hHeld rfl
   try simp only [Act.put, p1, p2, p3, p4, p5, p6]
   refine tk 15 (bs 17 65535) (v := ?_) ?_ ?_; rotate_left 2
   rotate_left
   iterate 1 (rotate_left; focus (intro w hSw; (try dsimp only at hSw); obtain ⟨hS0', hS1'⟩ := hSw; go_simp; with_reducible rfl))
   try simp only [Act.put, p1, p2, p3, p4, p5, p6]
   refine wpAnyN_step (i := 16) (listed' := (bs 17 131071)) (by kernel_rfl) rfl (by kernel_rfl) (fun K hK => ?_)
   refine step_storeI rfl _ _ (by rfl) (by rfl) (by rfl) z0 zf ?_
   refine hK.out _ _ ?_ (fun hHeld => ?_)
   ·exact fun h => absurd h (by decide)
   clear hK K
   try simp only [Act.put, p1, p2, p3]
   refine wpAnyN_done (by kernel_rfl) ?_ _
   clear hgrow
   have a1 := pushD (j := j) K6.out HLL.out hp32 L6B.out EV.out HO2.out (grown_drew HG2.out) HOR2.out B6.out L6V.out
   rw [show (({ k1 (t.tasks.take j) with tasks := (k1 (t.tasks.take j)).tasks ++ [mkT ⟨(p : Int), ops⟩] } : K).setL p (· ++ [(j : Int)])) = k1 (t.tasks.take (j + 1)) from by (rw [HTK.out, k1_snoc, HLEN.out]; rfl)] at a1
   obtain ⟨L8, a1, a2, a3, a4⟩ := a1
   have K8 := zh a1
   have L8B := zh a2
   have L8V := zh a3
   have B8 := zh a4
   clear a1 a2 a3 a4 z0 zf hHeld hl0 hl1 hne0 hne1 ex0 ev ef
   go_wp2_with fail
   go_roundg (t.tasks.length - (j + 1))
   case measure => omega
   case rel => exact ⟨j + 1, L8, by omega, by go_num, K8.out, L8B.out, L8V.out, B8.out, zl _⟩
  ·have hge : ¬ (j : Int) < t.tasks.length := by omega
   have hjl : j = t.tasks.length := by omega
   have KE : Hid (RM wr (w.heap.size + 1) (k1 t.tasks) L) := by
    show RM _ _ _ _
    have := HKJ.out
    rw [hjl, List.take_length] at this
    exact this
   have at1 : wr.cell? ⟨w.heap.size, 1, none⟩ = some (.slice A2 t.sems.length c2) := (HBW.out.cell (p := ⟨w.heap.size, 1, none⟩) (Nat.lt_succ_self _)).trans (WT1.out.cell 1)
   have hk8 : w.heap.size + 1 < wr.heap.size := by omega
   have ht8 : w.heap.size < wr.heap.size := by omega
   have cs : wr.cell? ⟨w.heap.size + 1, 33, none⟩ = some (.slice none 0 0) := by
    have q := KE.out.cSa
    rw [HLB.out, HNIL.out.2.1] at q
    exact q
   have cf : wr.frozen? ⟨w.heap.size + 1, 33, none⟩ = false := by
    have q := KE.out.free 33
    rw [HLB.out] at q
    exact q
   have HRS : Hid (Reads wr w.heap.size 1 A2 t.sems.length (intV t.sems)) := HR.out.sems.below (B' := w.heap.size) (B1.out.trans (HBW.out.mono (Nat.le_succ _))) (zl _)
   clear HKJ hjl
   go_wp2_with fail
   clear at0
   have hl0 : Addr.block (⟨w.heap.size + 1, 33, none⟩) < wr.heap.size := hk8
   have hl1 : Addr.block (⟨w.heap.size, 1, none⟩) < wr.heap.size := ht8
   refine wp_region_need (S := fun w' => w'.cell? (⟨w.heap.size + 1, 33, none⟩) = some (.slice none 0 0) ∧ w'.cell? (⟨w.heap.size, 1, none⟩) = some (.slice A2 t.sems.length c2)) (need := fun i => i != 10) 11 (bs 11 0) (by kernel_rfl) (by kernel_rfl) (by kernel_rfl) ?_ (fun hHeld => ?_)
   ·(try dsimp only)
    exact ⟨cs, at1⟩
   refine tk 0 (bs 11 1) (v := ?_) ?_ ?_; rotate_left 2
   refine tk 1 (bs 11 3) (v := ?_) ?_ ?_; rotate_left 2
   refine tk 2 (bs 11 7) (v := ?_) ?_ ?_; rotate_left 2
   refine tk 3 (bs 11 15) (v := ?_) ?_ ?_; rotate_left 2
   refine tk 4 (bs 11 31) (v := ?_) ?_ ?_; rotate_left 2
   refine tk 5 (bs 11 63) (v := ?_) ?_ ?_; rotate_left 2
   refine tk 6 (bs 11 127) (v := ?_) ?_ ?_; rotate_left 2
   rotate_left
   iterate 7 (rotate_left; focus (intro w hSw; (try dsimp only at hSw); obtain ⟨hS0', hS1'⟩ := hSw; go_simp; with_reducible rfl))
   try simp only [Act.put, p1, p2, p3, p4, p5, p6]
   refine wpAnyN_step (i := 7) (listed' := (bs 11 255)) (by kernel_rfl) rfl (by kernel_rfl) (fun K hK => ?_)
   refine step_append_reads rfl _ _ 24 (by rfl) (w.heap.size + 1) 3 i3 _ 1 8 Try.underlying24 hi3 hi30 hi31 hi32 rfl (by decide) (by rfl) (by rfl) HRS.out.drew (by simp [intV, Value.oneCell']) (by unfold maxLen; omega) (by omega) (Nat.le_of_lt hk8) ?_
   intro v' w5 hown hgrow hor
   obtain ⟨A8, c8, e8, -, -⟩ := row_slice hown
   subst e8
   have z0 := (hgrow.cell_far (⟨w.heap.size + 1, 33, none⟩) hl0 (by simp)).trans hHeld.1
   have zf := (hgrow.frozen_far (⟨w.heap.size + 1, 33, none⟩) hl0 (by simp)).trans cf
   have HO := zh hown
   have HG := zh hgrow
   have HOR := zh hor
   clear hown hor
   refine hK.out _ _ ?_ (fun hHeld => ?_)
   ·(try dsimp only)
    exact fun _ => ⟨(hgrow.cell_far (⟨w.heap.size + 1, 33, none⟩) hl0 (by simp)).trans (hHeld.1), (hgrow.cell_far (⟨w.heap.size, 1, none⟩) hl1 (by simp)).trans (hHeld.2)⟩
   clear hK K
   replace hHeld := hHeld rfl
   try simp only [Act.put, p1, p2, p3, p4, p5, p6]
   refine tk 8 (bs 11 511) (v := ?_) ?_ ?_; rotate_left 2
   refine tk 9 (bs 11 1023) (v := ?_) ?_ ?_; rotate_left 2
   rotate_left
   iterate 2 (rotate_left; focus (intro w hSw; (try dsimp only at hSw); obtain ⟨hS0', hS1'⟩ := hSw; go_simp; with_reducible rfl))
   try simp only [Act.put, p1, p2, p3, p4, p5, p6]
   refine wpAnyN_step (i := 10) (listed' := (bs 11 2047)) (by kernel_rfl) rfl (by kernel_rfl) (fun K hK => ?_)
   refine step_storeI rfl _ _ (by rfl) (by rfl) (by rfl) z0 zf ?_
   refine hK.out _ _ ?_ (fun hHeld => ?_)
   ·exact fun h => absurd h (by decide)
   clear hK K
   try simp only [Act.put, p1, p2, p3]
   refine wpAnyN_done (by kernel_rfl) ?_ _
   have hbg : Below wr.heap.size wr w5 := ((zr wr.heap.size wr).drew).grown hgrow (zl _) (fun b e => by cases e)
   have a1 := KE.out.addSems (L := L) (l := t.sems) HO.out (.of_below hbg) (fun b e => by (rcases HOR.out with q | q; (rw [q] at e; cases e); (rw [q] at e; injection e with e; exact .inr (Nat.le_of_eq e))))
   rw [HLB.out] at a1
   have K8 := zh a1
   have B8 : Hid (Below (w.heap.size + 1) W1 (w5.setCell ⟨w.heap.size + 1, 33, none⟩ (.slice A8 t.sems.length c8))) := (HBW.out.trans (hbg.mono (Nat.le_of_lt hk8))).setCell (p := ⟨w.heap.size + 1, 33, none⟩) (zl _) _
   clear a1 hgrow hbg z0 zf hHeld hl0 hl1 cs cf at1 hk8 ht8
   obtain ⟨L8, hL8⟩ : ∃ L8, L8 = L.set .sa (.slice A8 t.sems.length c8) := ⟨_, rfl⟩
   have L8B : Hid (L8.b = w.heap.size + 1) := by (rw [hL8]; exact HLB.out)
   have L8V : Hid ((∀ x, 32 ≤ x → L8.V (.l x) = .slice none 0 0) ∧ L8.V .ow = .slice none 0 0 ∧ L8.V .qa = .slice none 0 0) := by (rw [hL8]; exact ⟨fun x hx => (set_ne (by simp)).trans (HNIL.out.1 x hx), (set_ne (by simp)).trans HNIL.out.2.2.1, (set_ne (by simp)).trans HNIL.out.2.2.2⟩)
   rw [← hL8] at K8
   clear hL8
   generalize hw8 : w5.setCell ⟨w.heap.size + 1, 33, none⟩ (.slice A8 t.sems.length c8) = w8 at *
   clear hw8
   have a2 : w8.cell? ⟨w.heap.size, 2, none⟩ = some (.int .i64 t.mutexes) := (B8.out.cell (p := ⟨w.heap.size, 2, none⟩) (Nat.lt_succ_self _)).trans (WT1.out.cell 2)
   go_wp2_with fail
   go_loopg [6] t.mutexes.toNat (fun kk iv wr => ∃ (j : Nat) (L : Ly), j ≤ t.mutexes.toNat ∧ iv = .int .i64 j ∧ RM wr (w.heap.size + 1) { k1 t.tasks with sems := t.sems, owner := List.replicate j (-1) } L ∧ L.b = w.heap.size + 1 ∧ ((∀ x, 32 ≤ x → L.V (.l x) = .slice none 0 0) ∧ L.V .qa = .slice none 0 0) ∧ Below (w.heap.size + 1) W1 wr ∧ t.mutexes.toNat - j ≤ kk)
   case atStart => exact ⟨0, L8, Nat.zero_le _, rfl, K8.out, L8B.out, ⟨L8V.out.1, L8V.out.2.2⟩, B8.out, by omega⟩
   case round =>
    clear a2 K8 L8B L8V B8 KE HBW HLB HNIL HRS HO HG HOR hzr hkk hge hj
    obtain ⟨j, L, hj, rfl, hK, hLb, hnil, hBw, hkk⟩ := hrel
    have hzr := hBw.size
    have HKJ := zh hK
    have HBW := zh hBw
    have HLB := zh hLb
    have HNIL := zh hnil
    clear hK hBw hLb hnil
    have at2 : wr.cell? ⟨w.heap.size, 2, none⟩ = some (.int .i64 t.mutexes) := (HBW.out.cell (p := ⟨w.heap.size, 2, none⟩) (Nat.lt_succ_self _)).trans (WT1.out.cell 2)
    by_cases hlt : j < t.mutexes.toNat
    ·have hlt' : (j : Int) < t.mutexes := by omega
     have HRE : Hid (List.replicate (j + 1) (-1 : Int) = List.replicate j (-1) ++ [-1]) := List.replicate_succ'
     obtain ⟨os, hos⟩ : ∃ os, os = List.replicate j (-1 : Int) := ⟨_, rfl⟩
     have hol : os.length = j := by rw [hos, List.length_replicate]
     obtain ⟨AO, cO, eO, -, -⟩ := HKJ.out.slice .ow
     replace eO : L.V .ow = .slice AO os.length cO := by rw [eO, hos]; rfl
     have EO := zh eO
     have HROW : Hid (wr.ownsRow (w.heap.size + 1) 3 1 (.slice AO os.length cO) os.length (intV os)) := by
      have q := HKJ.out.row .ow
      rw [eO] at q
      rw [hos] at q ⊢
      exact q
     have cb : wr.cell? ⟨w.heap.size + 1, 34, none⟩ = some (.slice AO os.length cO) := by
      have q := HKJ.out.cOw
      rw [HLB.out, eO] at q
      exact q
     have cf : wr.frozen? ⟨w.heap.size + 1, 34, none⟩ = false := by
      have q := HKJ.out.free 34
      rw [HLB.out] at q
      exact q
     have hkl : w.heap.size + 1 < wr.heap.size := by omega
     have hneB : some (w.heap.size + 1) ≠ (Value.slice AO os.length cO).ownBlock := fun e => HKJ.out.ne .ow (by rw [eO, HLB.out]; exact e.symm)
     have hn0 : (wr.alloc (.cells #[.int .i64 (-1)] 3)).cell? ⟨wr.heap.size, 0, none⟩ = some (.int .i64 (-1)) := (zm wr 3 #[.int .i64 (-1)]).cell 0
     have hxl : os.length ≤ 1000000 := by omega
     have HOS := zh hos
     have HOL := zh hol
     clear eO hos hol
     go_wp2_with (at_builtin; refine wpList_appI rfl _ _ rfl (w.heap.size + 1) _ os rfl (HROW.out.alloc _) (-1) ⟨wr.heap.size, 0, none⟩ 1 rfl hn0 hxl (by rw [World.size_alloc]; omega) ?_)
     intro gg cap w5 hown hgrow hor
     have hbg : Below wr.heap.size wr (wr.alloc (.cells #[.int .i64 (-1)] 3)) := (zr wr.heap.size wr).alloc (zl _) _
     have z0 := (hgrow.cell_far (⟨w.heap.size + 1, 34, none⟩) (lt_al hkl _) hneB).trans ((zw _ _ _ hkl).trans cb)
     have zf := (hgrow.frozen_far (⟨w.heap.size + 1, 34, none⟩) (lt_al hkl _) hneB).trans ((zx (zo _ _ _ hkl)).trans cf)
     have a1 := HKJ.out.setOwners (w1 := w5) (l := os ++ [-1]) (v := .slice (some ⟨gg, 0, none⟩) (os.length + 1) cap) (by rw [show (os ++ [(-1 : Int)]).length = os.length + 1 by simp]; exact hown) ((Br.of_below hbg).grown (by rw [EO.out]; exact hgrow)) (fun b e => by
      have e2 : gg = b := by simpa [Value.ownBlock] using e
      subst e2
      rw [EO.out]
      rcases hor with q | q
      ·exact .inl q
      ·exact .inr (by rw [q]; first | exact Nat.le_succ _ | (rw [World.size_alloc]; exact Nat.le_succ _)))
     rw [HLB.out] at a1
     have K5 : Hid (RM (w5.setCell ⟨w.heap.size + 1, 34, none⟩ (.slice (some ⟨gg, 0, none⟩) (os.length + 1) cap)) (w.heap.size + 1) { k1 t.tasks with sems := t.sems, owner := List.replicate (j + 1) (-1) } (L.set .ow (.slice (some ⟨gg, 0, none⟩) (os.length + 1) cap))) := by
      show RM _ _ _ _
      rw [HRE.out, ← HOS.out]
      exact a1
     have B5 : Hid (Below (w.heap.size + 1) W1 (w5.setCell ⟨w.heap.size + 1, 34, none⟩ (.slice (some ⟨gg, 0, none⟩) (os.length + 1) cap))) := ((HBW.out.trans (hbg.mono (Nat.le_of_lt hkl))).grown hgrow (by rw [World.size_alloc]; exact Nat.le_succ_of_le (Nat.le_of_lt hkl)) (fun b e => (HROW.out.lt b e).1)).setCell (p := ⟨w.heap.size + 1, 34, none⟩) (zl _) _
     clear a1 hbg hown hgrow hor
     go_wp2_with fail
     go_roundg (t.mutexes.toNat - (j + 1))
     case measure => omega
     case rel => exact ⟨j + 1, _, by omega, by go_num, K5.out, HLB.out, ⟨fun x hx => (set_ne (by simp)).trans (HNIL.out.1 x hx), (set_ne (by simp)).trans HNIL.out.2⟩, B5.out, zl _⟩
    ·have hge : ¬ (j : Int) < t.mutexes := by omega
     have hjl : j = t.mutexes.toNat := by omega
     have KE : Hid (RM wr (w.heap.size + 1) { k1 t.tasks with sems := t.sems, owner := List.replicate t.mutexes.toNat (-1) } L) := by
      show RM _ _ _ _
      have := HKJ.out
      rw [hjl] at this
      exact this
     clear HKJ hjl
     have an : wr.cell? ⟨w.heap.size, 3, none⟩ = some (.slice A3 t.queues.length c3) := (HBW.out.cell (p := ⟨w.heap.size, 3, none⟩) (Nat.lt_succ_self _)).trans (WT1.out.cell 3)
     go_wp2_with fail
     go_loopg [7] t.queues.length (fun kk iv wr => ∃ (j : Nat) (L : Ly), j ≤ t.queues.length ∧ iv = .int .i64 j ∧ RM wr (w.heap.size + 1) { k1 t.tasks with sems := t.sems, owner := List.replicate t.mutexes.toNat (-1), size := t.queues.take j } L ∧ L.b = w.heap.size + 1 ∧ (∀ x, 32 ≤ x → L.V (.l x) = .slice none 0 0) ∧ Below (w.heap.size + 1) W1 wr ∧ t.queues.length - j ≤ kk)
     case atStart => exact ⟨0, L, Nat.zero_le _, rfl, KE.out, HLB.out, HNIL.out.1, HBW.out, by omega⟩
     case round =>
      clear KE HBW HLB HNIL hzr hkk hge hj at2 an
      obtain ⟨j, L, hj, rfl, hK, hLb, hnil, hBw, hkk⟩ := hrel
      have hzr := hBw.size
      have HKJ := zh hK
      have HBW := zh hBw
      have HLB := zh hLb
      have HNIL := zh hnil
      clear hK hBw hLb hnil
      have at3 : wr.cell? ⟨w.heap.size, 3, none⟩ = some (.slice A3 t.queues.length c3) := (HBW.out.cell (p := ⟨w.heap.size, 3, none⟩) (Nat.lt_succ_self _)).trans (WT1.out.cell 3)
      by_cases hlt : j < t.queues.length
      ·have hlt' : (j : Int) < t.queues.length := by omega
       have hj0 : (0 : Int) ≤ j := by omega
       obtain ⟨ad, eA, had, hc'⟩ := HR.out.queues.int hlt
       subst eA
       have hc := ((B1.out.trans (HBW.out.mono (Nat.le_succ _))).cell (p := ad.add j) (by rw [block_of_add]; exact had)).trans hc'
       have HTK : Hid (t.queues.take (j + 1) = t.queues.take j ++ [t.queues[j]]) := List.take_succ_eq_append_getElem hlt
       generalize t.queues[j] = s at *
       clear hc'
       have hlen : (t.queues.take j).length = j := by simp; omega
       obtain ⟨AQ, cQ, eQ, -, -⟩ := HKJ.out.slice .qa
       replace eQ : L.V .qa = .slice AQ j cQ := by rw [eQ]; show Value.slice AQ (t.queues.take j).length cQ = _; rw [hlen]
       have EQ := zh eQ
       have HROW : Hid (wr.ownsRow (w.heap.size + 1) 102 2 (.slice AQ j cQ) j (quesC { k1 t.tasks with sems := t.sems, owner := List.replicate t.mutexes.toNat (-1), size := t.queues.take j } L)) := by
        have q := HKJ.out.row .qa
        rw [eQ, show Part.len { k1 t.tasks with sems := t.sems, owner := List.replicate t.mutexes.toNat (-1), size := t.queues.take j } .qa = j from hlen] at q
        exact q
       have cb : wr.cell? ⟨w.heap.size + 1, 35, none⟩ = some (.slice AQ j cQ) := by
        have q := HKJ.out.cQa
        rw [HLB.out, eQ] at q
        exact q
       have cf : wr.frozen? ⟨w.heap.size + 1, 35, none⟩ = false := by
        have q := HKJ.out.free 35
        rw [HLB.out] at q
        exact q
       have hkl : w.heap.size + 1 < wr.heap.size := by omega
       have htl : w.heap.size < wr.heap.size := by omega
       have hadl : (ad.add j).block < wr.heap.size := by rw [block_of_add]; omega
       have hneB : some (w.heap.size + 1) ≠ (Value.slice AQ j cQ).ownBlock := fun e => HKJ.out.ne .qa (by rw [eQ, HLB.out]; exact e.symm)
       have hneT : some w.heap.size ≠ (Value.slice AQ j cQ).ownBlock := fun e => by have := (HKJ.out.rowLt (p := .qa) (by rw [eQ]; exact e.symm)).1; omega
       have hneA : some (ad.add j).block ≠ (Value.slice AQ j cQ).ownBlock := fun e => by have := (HKJ.out.rowLt (p := .qa) (by rw [eQ]; exact e.symm)).1; rw [block_of_add] at this; omega
       have HLEN := zh hlen
       clear eQ hlen
       go_wp2_with fail
       have hl0 : Addr.block (⟨w.heap.size + 1, 35, none⟩) < wr.heap.size := hkl
       have hne0 := hneB
       have hl1 : Addr.block (⟨w.heap.size, 3, none⟩) < wr.heap.size := htl
       have hne1 := hneT
       have hl2 : Addr.block (ad.add j) < wr.heap.size := hadl
       have hne2 := hneA
       refine wp_region_need (S := fun w' => w'.cell? (⟨w.heap.size + 1, 35, none⟩) = some (.slice AQ j cQ) ∧ w'.cell? (⟨w.heap.size, 3, none⟩) = some (.slice (some ad) t.queues.length c3) ∧ w'.cell? (ad.add j) = some (.int .i64 s)) (need := fun i => i != 15) 16 (bs 16 0) (by kernel_rfl) (by kernel_rfl) (by kernel_rfl) ?_ (fun hHeld => ?_)
       ·(try dsimp only)
        exact ⟨cb, at3, hc⟩
       refine tk 0 (bs 16 1) (v := ?_) ?_ ?_; rotate_left 2
       refine tk 1 (bs 16 3) (v := ?_) ?_ ?_; rotate_left 2
       refine tk 2 (bs 16 7) (v := ?_) ?_ ?_; rotate_left 2
       refine tk 3 (bs 16 15) (v := ?_) ?_ ?_; rotate_left 2
       refine tk 4 (bs 16 31) (v := ?_) ?_ ?_; rotate_left 2
       refine tk 5 (bs 16 63) (v := ?_) ?_ ?_; rotate_left 2
       refine tk 6 (bs 16 127) (v := ?_) ?_ ?_; rotate_left 2
       refine tk 7 (bs 16 255) (v := ?_) ?_ ?_; rotate_left 2
       refine tk 8 (bs 16 511) (v := ?_) ?_ ?_; rotate_left 2
       refine tk 9 (bs 16 1023) (v := ?_) ?_ ?_; rotate_left 2
       refine tk 10 (bs 16 2047) (v := ?_) ?_ ?_; rotate_left 2
       rotate_left
       iterate 11 (rotate_left; focus (intro w hSw; (try dsimp only at hSw); obtain ⟨hS0', hS1', hS2'⟩ := hSw; go_simp; with_reducible rfl))
       try simp only [Act.put, p1, p2, p3, p4, p5, p6]
       refine wpAnyN_step (i := 11) (listed' := (bs 16 4095)) (by kernel_rfl) rfl (by kernel_rfl) (fun K hK => ?_)
       refine step_bsQ rfl _ (by rfl) s (by rfl) ?_
       refine hK.out _ _ ?_ (fun hHeld => ?_)
       ·(try dsimp only)
        exact fun _ => ⟨(zw _ _ _ hl0).trans (hHeld.1), (zw _ _ _ hl1).trans (hHeld.2.1), (zw _ _ _ hl2).trans (hHeld.2.2)⟩
       clear hK K
       replace hHeld := hHeld rfl
       try simp only [Act.put, p1, p2, p3, p4, p5, p6]
       refine wpAnyN_step (i := 12) (listed' := (bs 16 8191)) (by kernel_rfl) rfl (by kernel_rfl) (fun K hK => ?_)
       refine step_append_lies _ (by rfl) _ _ _ (by rfl) (w.heap.size + 1) 102 ib _ 2 32 Try.underlying96 hib hib0 hib1 hib2 rfl (by decide) (.slice AQ j cQ) j _ (by rfl) (HROW.out.alloc _) ⟨wr.heap.size, 0, none⟩ 1 1 [.slice none 0 0, .int .i64 s] (by rfl) (by rfl) (World.news_of_block (cs := #[.slice none 0 0, .int .i64 s]) (t := 102) (fr := (0, 0)) (heap_alloc_new _ _)) (by simp [Value.oneCell']) (by decide) (by unfold maxLen; omega) (by omega) (by rw [World.size_alloc]; show w.heap.size + 1 ≤ wr.heap.size + 1; omega) _ (by rfl) ?_
       intro gg cap w5 hown hgrow hor hgl5
       have z0 := (hgrow.cell_far (⟨w.heap.size + 1, 35, none⟩) (lt_al hl0 _) hneB).trans (hHeld.1)
       have zf := (hgrow.frozen_far (⟨w.heap.size + 1, 35, none⟩) (lt_al hl0 _) hneB).trans ((zx (zo _ _ _ hl0)).trans cf)
       have HO := zh hown
       have HG := zh hgrow
       have HOR := zh hor
       clear hown hor hgl5
       refine hK.out _ _ ?_ (fun hHeld => ?_)
       ·(try dsimp only)
        exact fun _ => ⟨(hgrow.cell_far (⟨w.heap.size + 1, 35, none⟩) (lt_al hl0 _) hne0).trans (hHeld.1), (hgrow.cell_far (⟨w.heap.size, 3, none⟩) (lt_al hl1 _) hne1).trans (hHeld.2.1), (hgrow.cell_far (ad.add j) (lt_al hl2 _) hne2).trans (hHeld.2.2)⟩
       clear hK K
       replace hHeld := hHeld rfl
       try simp only [Act.put, p1, p2, p3, p4, p5, p6]
       refine tk 13 (bs 16 16383) (v := ?_) ?_ ?_; rotate_left 2
       refine tk 14 (bs 16 32767) (v := ?_) ?_ ?_; rotate_left 2
       rotate_left
       iterate 2 (rotate_left; focus (intro w hSw; (try dsimp only at hSw); obtain ⟨hS0', hS1', hS2'⟩ := hSw; go_simp; with_reducible rfl))
       try simp only [Act.put, p1, p2, p3, p4, p5, p6]
       refine wpAnyN_step (i := 15) (listed' := (bs 16 65535)) (by kernel_rfl) rfl (by kernel_rfl) (fun K hK => ?_)
       refine step_storeS rfl _ _ (by rfl) (.inr rfl) (by rfl) (by rfl) z0 zf ?_
       refine hK.out _ _ ?_ (fun hHeld => ?_)
       ·exact fun h => absurd h (by decide)
       clear hK K
       try simp only [Act.put, p1, p2, p3]
       refine wpAnyN_done (by kernel_rfl) ?_ _
       clear hgrow
       have hbg : Below wr.heap.size wr (wr.drew.alloc (.cells #[.slice none 0 0, .int .i64 s] 102)) := ((zr wr.heap.size wr).drew).alloc (zl _) _
       have a1 := HKJ.out.addQueue (w1 := w5) (s := s) (v := .slice (some ⟨gg, 0, none⟩) (j + 1) cap) (by rw [show ({ k1 t.tasks with sems := t.sems, owner := List.replicate t.mutexes.toNat (-1), size := t.queues.take j } : K).size.length = j from HLEN.out]; exact HNIL.out _ (by omega)) (by show (t.queues.take j).length < 8; rw [HLEN.out]; omega) (by rw [show ({ k1 t.tasks with sems := t.sems, owner := List.replicate t.mutexes.toNat (-1), size := t.queues.take j } : K).size.length = j from HLEN.out]; exact HO.out) ((Br.of_below hbg).grown (by rw [EQ.out]; exact HG.out)) (fun b e => by (have e2 : gg = b := by simpa [Value.ownBlock] using e); subst e2; rw [EQ.out]; rcases HOR.out with q | q; exact .inl q; exact .inr (by rw [q, World.size_alloc]; exact Nat.le_succ _))
       rw [HLB.out] at a1
       have K5 : Hid (RM (w5.setCell ⟨w.heap.size + 1, 35, none⟩ (.slice (some ⟨gg, 0, none⟩) (j + 1) cap)) (w.heap.size + 1) { k1 t.tasks with sems := t.sems, owner := List.replicate t.mutexes.toNat (-1), size := t.queues.take (j + 1) } (L.set .qa (.slice (some ⟨gg, 0, none⟩) (j + 1) cap))) := by (show RM _ _ _ _; rw [HTK.out]; exact a1)
       have B5 : Hid (Below (w.heap.size + 1) W1 (w5.setCell ⟨w.heap.size + 1, 35, none⟩ (.slice (some ⟨gg, 0, none⟩) (j + 1) cap))) := ((HBW.out.trans (hbg.mono (Nat.le_of_lt hkl))).grown HG.out (by rw [World.size_alloc]; exact Nat.le_succ_of_le (Nat.le_of_lt hkl)) (fun b e => (HROW.out.lt b e).1)).setCell (p := ⟨w.heap.size + 1, 35, none⟩) (zl _) _
       clear a1 hbg z0 zf hHeld hl0 hl1 hl2 hne0 hne1 hne2 cb cf hc at3 hkl htl hadl hneB hneT hneA
       go_wp2_with fail
       go_roundg (t.queues.length - (j + 1))
       case measure => omega
       case rel => exact ⟨j + 1, _, by omega, by go_num, K5.out, HLB.out, fun x hx => (set_ne (by simp)).trans (HNIL.out x hx), B5.out, zl _⟩
      ·have hge : ¬ (j : Int) < t.queues.length := by omega
       have hjl : j = t.queues.length := by omega
       have KE : Hid (RM wr (w.heap.size + 1) (begin t) L) := by
        show RM _ _ _ _
        have := HKJ.out
        rw [hjl, List.take_length] at this
        exact this
       go_wp2_with fail
       go_ret
       exact ⟨rfl, B1.out.trans (HBW.out.mono (Nat.le_succ _)), L, KE.out, HLB.out⟩
end Rk
end Go.Proofs.Ytncbgnpoffolcaa
