/-
  The document's kernel: the walk of do: what all operations share. The document's kernel: a queue's list put anew.
-/
import Derived.Test.YtncbgnpoffolcaaRkG
import Derived.Test.YtncbgnpoffolcaaM15
import Derived.Maps.AppendAt
namespace Go.Proofs.Ytncbgnpoffolcaa
open Go.RowKit
namespace Rk
end Rk
section
variable {w : World} {o : Oper} {a : Act}
theorem run_storeO {g i : Nat} {x y z : Value} {k u v : Int} (hc : w.cell? ⟨g, i, none⟩ = some x) (hc1 : w.cell? ⟨g, i + 1, none⟩ = some y) (hc2 : w.cell? ⟨g, i + 2, none⟩ = some z) (hf : ∀ i, w.frozen? ⟨g, i, none⟩ = false) :
 (Instr.storeAt 32 (.pointer (some ⟨g, i, none⟩)) (.agg #[.int .i64 k, .int .i64 u, .int .i64 v])).run Try.prog w = .ok () (((w.setCell ⟨g, i, none⟩ (.int .i64 k)).setCell ⟨g, i + 1, none⟩ (.int .i64 u)).setCell ⟨g, i + 2, none⟩ (.int .i64 v)) := by
 have f0 := hf i
 have f1 := hf (i + 1)
 have f2 := hf (i + 2)
 go_simp
theorem step_storeO {ops : Array Oper} {K : Act → World → Prop} {Q : Exit → Act → World → Prop} {E : Prop} (hgd : o.guard = none) (x y : Operand) (ho : o.op = .store 32 x y) {g i : Nat} {z0 z1 z2 : Value} {k u v : Int} (hx : a.eval x = .pointer (some ⟨g, i, none⟩)) (hy : a.eval y = .agg #[.int .i64 k, .int .i64 u, .int .i64 v]) (hc : w.cell? ⟨g, i, none⟩ = some z0) (hc1 : w.cell? ⟨g, i + 1, none⟩ = some z1) (hc2 : w.cell? ⟨g, i + 2, none⟩ = some z2) (hf : ∀ i, w.frozen? ⟨g, i, none⟩ = false)
 (h : K (a.put o.dst undef) (((w.setCell ⟨g, i, none⟩ (.int .i64 k)).setCell ⟨g, i + 1, none⟩ (.int .i64 u)).setCell ⟨g, i + 2, none⟩ (.int .i64 v))) : if Region.wanted o (yielded ops a.tmps) = true then Oper.wp Try.prog o a w K Q else E := by
 have hw : Region.wanted o (yielded ops a.tmps) = true := by simp [Region.wanted, hgd]
 rw [if_pos hw]
 have hr' : (execOp a.eval o).run Try.prog w = .ok .skip (((w.setCell ⟨g, i, none⟩ (.int .i64 k)).setCell ⟨g, i + 1, none⟩ (.int .i64 u)).setCell ⟨g, i + 2, none⟩ (.int .i64 v)) := by
  unfold execOp
  simp only [ho, hx, hy]
  simp [run_storeO hc hc1 hc2 hf]
 unfold Oper.wp
 rw [hr']
 exact h
end
namespace Rk
/-- What the walk of an operation needs: it runs a task that is there, its operation is o. -/
structure DO (w : World) (B M : Nat) (r : K) (L : Ly) (m : Nat) (o : Kn.Op) : Prop where
 mem : RM w B r L
 fine : RF r M
 few : M ≤ 100000
 lt : m < r.tasks.length
 here : (r.ti m).place < (r.ti m).ops.length
 long : (r.ti m).ops.length ≤ 100
 op : (r.ti m).ops[(r.ti m).place]? = some o
 count : r.count ≤ 1000000
def DoPost (w : World) (B : Nat) (r' : K) (L : Ly) (e : Ending) (w' : World) : Prop := e = .returned (.tuple #[]) ∧ ∃ L', RM w' B r' L' ∧ Kp w L w' L'
/-- The operation behind its count. -/
def K.next (r : K) (m : Nat) : K := r.setT m fun t => { t with place := t.place + 1 }
theorem do_eq {r : K} {m : Nat} {o : Kn.Op} (ho : (r.ti m).ops[(r.ti m).place]? = some o) : r.do_ m = (r.next m).act m o := by
 show K.act _ m ((r.ti m).ops.getD (r.ti m).place ⟨0, 0, 0⟩) = _
 rw [zd, ho]
 rfl
theorem ti_next {r : K} {m : Nat} (hm : m < r.tasks.length) : (r.next m).ti m = { r.ti m with place := (r.ti m).place + 1 } := by
 unfold K.next
 rw [ti_setT hm, if_pos rfl]
theorem RF.next {r : K} {M m : Nat} (h : RF r M) (hm : m < r.tasks.length) : RF (r.next m) M := h.setT hm (h.prio m hm)
theorem RM.loop1 {w : World} {B : Nat} {r : K} {L : Ly} {i j g n c : Nat} {v : Int} (h : RM w B r L) (hv : L.V (.lp i) = .slice (some ⟨g, 0, none⟩) n c) (hi : i < r.tasks.length) : RM (w.setCell ⟨g, j, none⟩ (.int .i64 v)) B (r.setT i fun t => { t with loops := t.loops.set j v }) L :=
 h.put (.lp i) hv (Sm.setT hi rfl) rfl (len_T hi (by rw [List.length_set])) (by
  show intV ((r.setT i fun t => { t with loops := t.loops.set j v }).ti i).loops = _
  rw [ti_setT hi, if_pos rfl]
  exact intV_set _ _ _) (fun p hp => by
  cases p with
  | ta =>
    show tasksC _ _ = tasksC _ _
    unfold tasksC
    rw [len_setT]
    congr 1
    funext k
    rw [ti_setT hi]
    by_cases e : k = i
    ·rw [if_pos e, e]; rfl
    ·rw [if_neg e]
  | lp k =>
    show intV ((r.setT i fun t => { t with loops := t.loops.set j v }).ti k).loops = intV (r.ti k).loops
    rw [ti_setT hi, if_neg (fun e => hp (by rw [e]))]
  | _ => rfl)
end Rk
section
variable {w : World} {o : Oper} {a : Act}
theorem byteV_snoc (xs : List UInt8) (b : UInt8) : Rk.byteV (xs ++ [b]) = Rk.byteV xs ++ [.int .u8 b.toNat] := by simp [Rk.byteV]
theorem wp_appB {K : Act → World → Prop} {Q : Exit → Act → World → Prop} (s x : Operand) (ho : o.op = .call { callee := .builtin .append, args := #[s, x], argTypes := #[34, 34] })
 (base : Nat) (v : Value) (xs : List UInt8) (hs : a.eval s = v) (hown : w.ownsRow base 5 1 v xs.length (Rk.byteV xs)) (b : UInt8) (ad : Addr) (c : Nat) (hx : a.eval x = .slice (some ad) 1 c) (hn : w.cell? ad = some (.int .u8 b.toNat)) (hl : xs.length ≤ 1000000) (hbase : base ≤ w.heap.size)
 (h : ∀ g cap w', w'.ownsRow base 5 1 (.slice (some ⟨g, 0, none⟩) (xs.length + 1) cap) (xs ++ [b]).length (Rk.byteV (xs ++ [b])) → w.grownBy w' v.ownBlock → (v.ownBlock = some g ∨ g = w.heap.size) → K (a.put o.dst (.slice (some ⟨g, 0, none⟩) (xs.length + 1) cap)) w') : o.wp Try.prog a w K Q := by
 obtain ⟨i5, hi5, hi50, hi51, hi52⟩ := info_parts info5
 have hnews : ∀ (j : Nat) (u : Value), ([.int .u8 b.toNat] : List Value)[j]? = some u → w.cell? (ad.add j) = some u := by
  intro j u hj
  rcases j with _ | j
  ·simp at hj
   subst hj
   rw [show ad.add 0 = ad by unfold Addr.add; simp]
   exact hn
  ·simp at hj
 refine wp_append_lies w s x 34 ho base 5 i5 _ 1 1 Try.underlying34 hi5 hi50 hi51 hi52 rfl (by decide) v xs.length (Rk.byteV xs) hs hown ad 1 c [.int .u8 b.toNat] hx rfl hnews (by simp [Value.oneCell']) (by decide) (by unfold maxLen; omega) (by omega) hbase _ rfl ?_
 intro g cap w' h2 h3 h4 _
 refine h g cap w' ?_ h3 h4
 rw [byteV_snoc, List.length_append, List.length_singleton]
 exact h2
theorem wpList_appB {ops : Array Oper} {rest : List Oper} {Q : Exit → Act → World → Prop} (hgd : o.guard = none) (s x : Operand) (ho : o.op = .call { callee := .builtin .append, args := #[s, x], argTypes := #[34, 34] })
 (base : Nat) (v : Value) (xs : List UInt8) (hs : a.eval s = v) (hown : w.ownsRow base 5 1 v xs.length (Rk.byteV xs)) (b : UInt8) (ad : Addr) (c : Nat) (hx : a.eval x = .slice (some ad) 1 c) (hn : w.cell? ad = some (.int .u8 b.toNat)) (hl : xs.length ≤ 1000000) (hbase : base ≤ w.heap.size)
 (h : ∀ g cap w', w'.ownsRow base 5 1 (.slice (some ⟨g, 0, none⟩) (xs.length + 1) cap) (xs ++ [b]).length (Rk.byteV (xs ++ [b])) → w.grownBy w' v.ownBlock → (v.ownBlock = some g ∨ g = w.heap.size) → wpList Try.prog ops Q rest (a.put o.dst (.slice (some ⟨g, 0, none⟩) (xs.length + 1) cap)) w') : wpList Try.prog ops Q (o :: rest) a w :=
 wpList_plain hgd fun _ hK => wp_appB s x ho base v xs hs hown b ad c hx hn hl hbase fun g cap w' h2 h3 h4 => hK _ _ (h g cap w' h2 h3 h4)
theorem step_appB {ops : Array Oper} {K : Act → World → Prop} {Q : Exit → Act → World → Prop} {E : Prop} (hgd : o.guard = none) (s x : Operand) (ho : o.op = .call { callee := .builtin .append, args := #[s, x], argTypes := #[34, 34] })
 (base : Nat) (v : Value) (xs : List UInt8) (hs : a.eval s = v) (hown : w.ownsRow base 5 1 v xs.length (Rk.byteV xs)) (b : UInt8) (ad : Addr) (c : Nat) (hx : a.eval x = .slice (some ad) 1 c) (hn : w.cell? ad = some (.int .u8 b.toNat)) (hl : xs.length ≤ 1000000) (hbase : base ≤ w.heap.size)
 (h : ∀ g cap w', w'.ownsRow base 5 1 (.slice (some ⟨g, 0, none⟩) (xs.length + 1) cap) (xs ++ [b]).length (Rk.byteV (xs ++ [b])) → w.grownBy w' v.ownBlock → (v.ownBlock = some g ∨ g = w.heap.size) → K (a.put o.dst (.slice (some ⟨g, 0, none⟩) (xs.length + 1) cap)) w') : if Region.wanted o (yielded ops a.tmps) = true then Oper.wp Try.prog o a w K Q else E := by
 have hw : Region.wanted o (yielded ops a.tmps) = true := by simp [Region.wanted, hgd]
 rw [if_pos hw]
 exact wp_appB s x ho base v xs hs hown b ad c hx hn hl hbase h
theorem run_bsB (n : Int) (w : World) : (Instr.buildSlice 34 1 #[(0, .int .u8 n)]).run Try.prog w = .ok (.slice (some ⟨w.heap.size, 0, none⟩) 1 1) (w.alloc (.cells #[.int .u8 n] 5)) := by
 go_simp
theorem step_bsB {ops : Array Oper} {K : Act → World → Prop} {Q : Exit → Act → World → Prop} {E : Prop} (hgd : o.guard = none) (x : Operand) (ho : o.op = .buildSlice 34 1 #[(0, x)]) (n : Int) (hx : a.eval x = .int .u8 n)
 (h : K (a.put o.dst (.slice (some ⟨w.heap.size, 0, none⟩) 1 1)) (w.alloc (.cells #[.int .u8 n] 5))) : if Region.wanted o (yielded ops a.tmps) = true then Oper.wp Try.prog o a w K Q else E := by
 have hw : Region.wanted o (yielded ops a.tmps) = true := by simp [Region.wanted, hgd]
 rw [if_pos hw]
 have hr : (execOp a.eval o).run Try.prog w = .ok (.value (.slice (some ⟨w.heap.size, 0, none⟩) 1 1)) (w.alloc (.cells #[.int .u8 n] 5)) := by
  unfold execOp
  simp [ho, hx, run_bsB]
 unfold Oper.wp
 rw [hr]
 exact h
theorem run_storeB {p : Addr} {x : Value} {A : Option Addr} {n c : Nat} (hc : w.cell? p = some x) (hf : w.frozen? p = false) : (Instr.storeAt 34 (.pointer (some p)) (.slice A n c)).run Try.prog w = .ok () (w.setCell p (.slice A n c)) := by
 go_simp
theorem step_storeB {ops : Array Oper} {K : Act → World → Prop} {Q : Exit → Act → World → Prop} {E : Prop} (hgd : o.guard = none) (x y : Operand) (ho : o.op = .store 34 x y) {p : Addr} {z : Value} {A : Option Addr} {n c : Nat} (hx : a.eval x = .pointer (some p)) (hy : a.eval y = .slice A n c) (hc : w.cell? p = some z) (hf : w.frozen? p = false)
 (h : K (a.put o.dst undef) (w.setCell p (.slice A n c))) : if Region.wanted o (yielded ops a.tmps) = true then Oper.wp Try.prog o a w K Q else E := by
 have hw : Region.wanted o (yielded ops a.tmps) = true := by simp [Region.wanted, hgd]
 rw [if_pos hw]
 have hr' : (execOp a.eval o).run Try.prog w = .ok .skip (w.setCell p (.slice A n c)) := by
  unfold execOp
  simp only [ho, hx, hy]
  simp [run_storeB hc hf]
 unfold Oper.wp
 rw [hr']
 exact h
end
namespace Rk
theorem RM.outPush {wx w5 : World} {B : Nat} {r : K} {L : Ly} {gg cap : Nat} {b : UInt8} {ob : Obj} (h : RM wx B r L)
 (hown : w5.ownsRow B 5 1 (.slice (some ⟨gg, 0, none⟩) (r.out.length + 1) cap) (r.out ++ [b]).length (byteV (r.out ++ [b]))) (hgrow : (wx.alloc ob).grownBy w5 (L.V .out).ownBlock)
 (hor : (L.V .out).ownBlock = some gg ∨ gg = (wx.alloc ob).heap.size) :
 RM (w5.setCell ⟨L.b, 36, none⟩ (.slice (some ⟨gg, 0, none⟩) (r.out.length + 1) cap)) B { r with out := r.out ++ [b] } (L.set .out (.slice (some ⟨gg, 0, none⟩) (r.out.length + 1) cap)) ∧
  Kp wx L (w5.setCell ⟨L.b, 36, none⟩ (.slice (some ⟨gg, 0, none⟩) (r.out.length + 1) cap)) (L.set .out (.slice (some ⟨gg, 0, none⟩) (r.out.length + 1) cap)) :=
 h.setOut hown ((Br.of_below ((zr _ _).alloc (zl _) _)).grown hgrow) (fun b hb => by
  have e : gg = b := by simpa [Value.ownBlock] using hb
  subst e
  rcases hor with h1 | h1
  ·exact .inl h1
  ·exact .inr (by rw [h1, World.size_alloc]; exact Nat.le_succ _))
theorem RM.semMod {w : World} {B : Nat} {r : K} {L : Ly} {a g n c : Nat} {f : Int → Int} (h : RM w B r L) (hv : L.V .sa = .slice (some ⟨g, 0, none⟩) n c) (ha : a < r.sems.length) : RM (w.setCell ⟨g, a, none⟩ (.int .i64 (f r.sems[a]))) B { r with sems := r.sems.modify a f } L :=
 h.put .sa hv ⟨rfl, fun _ => rfl, rfl, rfl⟩ rfl (fun p => by cases p <;> first | rfl | exact List.length_modify _ _ _) (by
  show intV (r.sems.modify a f) = (intV r.sems).set a (.int .i64 (f r.sems[a]))
  rw [← intV_set]
  congr 1
  apply List.ext_getElem?
  intro j
  rw [List.getElem?_modify, List.getElem?_set]
  by_cases e : a = j
  ·subst e
   simp [ha]
  ·simp [e]) (fun p hp => by cases p <;> first | rfl | exact absurd rfl hp)
theorem RM.till {w : World} {B : Nat} {r : K} {L : Ly} {m gt n c : Nat} {x a : Int} (h : RM w B r L) (hv : L.V .ta = .slice (some ⟨gt, 0, none⟩) n c) (hm : m < r.tasks.length) :
 RM ((w.setCell ⟨gt, m * 13 + 6, none⟩ (.int .i64 (r.ticks + x))).setCell ⟨gt, m * 13 + 7, none⟩ (.int .i64 a)) B (r.till m x a) L ∧ Kp w L ((w.setCell ⟨gt, m * 13 + 6, none⟩ (.int .i64 (r.ticks + x))).setCell ⟨gt, m * 13 + 7, none⟩ (.int .i64 a)) L := by
 have q1 := h.task (f := fun t => { t with wake := r.ticks + x }) (u := .int .i64 (r.ticks + x)) hv hm (j := 6) (by decide) rfl rfl rfl
 have q2 := q1.task (f := fun t => { t with answer := a }) (u := .int .i64 a) hv (by rw [len_setT]; exact hm) (j := 7) (by decide) rfl rfl rfl
 have ek : K.setT (K.setT r m fun t => { t with wake := r.ticks + x }) m (fun t => { t with answer := a }) = r.till m x a := by
  unfold K.till K.setT
  simp only [List.modify_modify_eq]
  rfl
 rw [ek] at q2
 exact ⟨q2, (Kp.task (i := m) (j := 6) (u := .int .i64 (r.ticks + x)) hv).trans (Kp.task (i := m) (j := 7) (u := .int .i64 a) hv)⟩
/-- A fact that no step of the walk may look into. -/
structure Kept (p : Prop) : Prop where
 out : p
set_option maxRecDepth 100000 in
set_option maxHeartbeats 16000000 in
/-- The walk of do as far as its switch: what is left to be shown there is enough. -/
def doHead {w : World} {B M : Nat} {r : K} {L : Ly} {m : Nat} {kd oa ob : Int} (h : DO w B M r L m ⟨kd, oa, ob⟩) :
    { T : Prop // T → Calls Try.prog 50 #[.pointer (some ⟨L.b, 0, none⟩), .int .i64 m] w (DoPost w B (r.do_ m) L) } := by
 apply Subtype.mk
 case property =>
 intro hT
 have HT := Kept.mk hT
 clear hT
 have hf := h.fine
 have hM := h.few
 have hm := h.lt
 have hpl := h.here
 have hol := h.long
 have hop := h.op
 have hct := h.count
 replace h := h.mem
 obtain ⟨gt, ct, hta⟩ := h.ta hf.pos
 have im : (m : Int) < r.tasks.length := by omega
 have im0 : (0 : Int) ≤ m := by omega
 have EO := zh (do_eq hop)
 have c0 := h.cTa
 rw [hta] at c0
 obtain ⟨A, cO, eO, hro⟩ := h.ops m hm
 obtain ⟨ad, eA, had, o0, o1, o2⟩ := hro.op hpl
 subst eA
 have eop : (r.ti m).ops[(r.ti m).place] = ⟨kd, oa, ob⟩ := by
  rw [List.getElem?_eq_getElem hpl] at hop
  injection hop
 rw [eop] at o0 o1 o2
 have o1' := o1
 have o2' := o2
 rw [← add_of_add, add_pos _ _ (by decide)] at o1' o2'
 have t2 : w.cell? ⟨gt, m * 13 + 2, none⟩ = some (.slice (some ad) (r.ti m).ops.length cO) := by
  rw [← eO]
  exact h.cTask hta hm (j := 2) (by decide)
 have t3 : w.cell? ⟨gt, m * 13 + 3, none⟩ = some (.int .i64 ((r.ti m).place : Int)) := h.cTask hta hm (j := 3) (by decide)
 have f3 := h.rowFree hta (m * 13 + 3)
 have ipl : ((r.ti m).place : Int) < (r.ti m).ops.length := by omega
 have ipl0 : (0 : Int) ≤ ((r.ti m).place : Int) := by omega
 have hgtl : gt < w.heap.size := (h.rowLt (p := .ta) (g := gt) (by rw [hta]; rfl)).2
 have hBw : B ≤ w.heap.size := zt h.low (Nat.le_of_lt h.lt)
 have hadl : (ad.add ((r.ti m).place * 3)).block < w.heap.size := by rw [block_of_add]; omega
 have hl0 : Addr.block (⟨gt, m * 13 + 2, none⟩) < w.heap.size := hgtl
 have hl1 : Addr.block (⟨gt, m * 13 + 3, none⟩) < w.heap.size := hgtl
 have hl2 : Addr.block (ad.add ((r.ti m).place * 3)) < w.heap.size := hadl
 have hl3 : Addr.block (⟨(ad.add ((r.ti m).place * 3)).block, (ad.add ((r.ti m).place * 3)).off + 1, none⟩) < w.heap.size := hadl
 have hl4 : Addr.block (⟨(ad.add ((r.ti m).place * 3)).block, (ad.add ((r.ti m).place * 3)).off + 2, none⟩) < w.heap.size := hadl
 have hwr : IntKind.i64.wrap (((r.ti m).place : Int) + 1) = (((r.ti m).place + 1 : Nat) : Int) := by rw [IntKind.wrap_i64]; omega
 have HK := zh h
 have HF := zh hf
 have HTA := zh hta
 have hpl3 := hpl
 clear h hf hop eop o1 o2 eO hta
 go_enter Try.func50, Try.ntmps50
 go_upto_region 1 with fail
 refine wp_region_need (S := fun w' => w'.cell? (⟨gt, m * 13 + 2, none⟩) = some (.slice (some ad) (r.ti m).ops.length cO) ∧ w'.cell? (⟨gt, m * 13 + 3, none⟩) = some (.int .i64 ((r.ti m).place : Int)) ∧ w'.cell? (ad.add ((r.ti m).place * 3)) = some (.int .i64 kd) ∧ w'.cell? (⟨(ad.add ((r.ti m).place * 3)).block, (ad.add ((r.ti m).place * 3)).off + 1, none⟩) = some (.int .i64 oa) ∧ w'.cell? (⟨(ad.add ((r.ti m).place * 3)).block, (ad.add ((r.ti m).place * 3)).off + 2, none⟩) = some (.int .i64 ob)) (need := fun i => i != 11) 12 (bs 12 0) (by kernel_rfl) (by kernel_rfl) (by kernel_rfl) ?_ (fun hHeld => ?_)
 ·(try dsimp only)
  exact ⟨t2, t3, o0, o1', o2'⟩
 refine tk 0 (bs 12 1) (v := ?_) ?_ ?_; rotate_left 2
 refine tk 1 (bs 12 3) (v := ?_) ?_ ?_; rotate_left 2
 refine tk 2 (bs 12 7) (v := ?_) ?_ ?_; rotate_left 2
 refine tk 3 (bs 12 15) (v := ?_) ?_ ?_; rotate_left 2
 refine tk 4 (bs 12 31) (v := ?_) ?_ ?_; rotate_left 2
 refine tk 5 (bs 12 63) (v := ?_) ?_ ?_; rotate_left 2
 refine tk 6 (bs 12 127) (v := ?_) ?_ ?_; rotate_left 2
 refine tk 7 (bs 12 255) (v := ?_) ?_ ?_; rotate_left 2
 refine tk 8 (bs 12 511) (v := ?_) ?_ ?_; rotate_left 2
 refine tk 9 (bs 12 1023) (v := ?_) ?_ ?_; rotate_left 2
 rotate_left
 iterate 10 (rotate_left; focus (intro w hSw; (try dsimp only at hSw); obtain ⟨hS0', hS1', hS2', hS3', hS4'⟩ := hSw; go_simp; with_reducible rfl))
 try simp only [Act.put, p1, p2, p3, p4, p5, p6]
 refine wpAnyN_step (i := 10) (listed' := (bs 12 2047)) (by kernel_rfl) rfl (by kernel_rfl) (fun K hK => ?_)
 go_simp
 refine hK.out _ _ ?_ (fun hHeld => ?_)
 ·(try dsimp only)
  exact fun _ => ⟨(zw _ _ _ hl0).trans (hHeld.1), (zw _ _ _ hl1).trans (hHeld.2.1), (zw _ _ _ hl2).trans (hHeld.2.2.1), (zw _ _ _ hl3).trans (hHeld.2.2.2.1), (zw _ _ _ hl4).trans (hHeld.2.2.2.2)⟩
 clear hK K
 replace hHeld := hHeld rfl
 try simp only [Act.put, p1, p2, p3, p4, p5, p6]
 refine wpAnyN_step (i := 11) (listed' := (bs 12 4095)) (by kernel_rfl) rfl (by kernel_rfl) (fun K hK => ?_)
 have wz := zm w.drew 32 #[.int .i64 0, .int .i64 0, .int .i64 0]
 refine step_storeO rfl _ _ (by rfl) (by rfl) (by rfl) (wz.cell 0) (wz.cell 1) (wz.cell 2) (fun i => wz.frozen i) ?_
 refine hK.out _ _ ?_ (fun hHeld => ?_)
 ·exact fun h => absurd h (by decide)
 clear hK K
 try simp only [Act.put, p1, p2, p3]
 refine wpAnyN_done (by kernel_rfl) ?_ _
 clear hHeld
 have HW : Hid (Whole (((((w.alloc (.cells #[.int .i64 0, .int .i64 0, .int .i64 0] 32)).drew.setCell ⟨w.drew.heap.size, 0, none⟩ (.int .i64 kd)).setCell ⟨w.drew.heap.size, 0 + 1, none⟩ (.int .i64 oa)).setCell ⟨w.drew.heap.size, 0 + 2, none⟩ (.int .i64 ob))) w.heap.size 32 #[.int .i64 kd, .int .i64 oa, .int .i64 ob]) := (((zm w 32 #[.int .i64 0, .int .i64 0, .int .i64 0]).put 0 _).put 1 _).put 2 _
 have HB : Hid (Below w.heap.size w (((((w.alloc (.cells #[.int .i64 0, .int .i64 0, .int .i64 0] 32)).drew.setCell ⟨w.drew.heap.size, 0, none⟩ (.int .i64 kd)).setCell ⟨w.drew.heap.size, 0 + 1, none⟩ (.int .i64 oa)).setCell ⟨w.drew.heap.size, 0 + 2, none⟩ (.int .i64 ob)))) := (((((zr w.heap.size w).alloc (zl _) _).drew).setCell (p := ⟨w.heap.size, 0, none⟩) (zl _) _).setCell (p := ⟨w.heap.size, 0 + 1, none⟩) (zl _) _).setCell (p := ⟨w.heap.size, 0 + 2, none⟩) (zl _) _
 generalize hW1 : (((w.alloc (.cells #[.int .i64 0, .int .i64 0, .int .i64 0] 32)).drew.setCell ⟨w.drew.heap.size, 0, none⟩ (.int .i64 kd)).setCell ⟨w.drew.heap.size, 0 + 1, none⟩ (.int .i64 oa)).setCell ⟨w.drew.heap.size, 0 + 2, none⟩ (.int .i64 ob) = W1 at *
 clear hW1 t2 t3 f3 o0 o1' o2' hl0 hl1 hl2 hl3 hl4 hadl hgtl hro had c0 ipl ipl0
 have k1 := HK.out.below HB.out
 have t3 : W1.cell? ⟨gt, m * 13 + 3, none⟩ = some (.int .i64 ((r.ti m).place : Int)) := k1.cTask HTA.out hm (j := 3) (by decide)
 have f3 := k1.rowFree HTA.out (m * 13 + 3)
 have x0 := HW.out.cell 0
 have x1 := HW.out.cell 1
 simp only [za, zb, zc] at x0 x1
 have hgo : gt ≠ w.heap.size := fun e => by
  have := (HK.out.rowLt (p := .ta) (g := gt) (by rw [HTA.out]; rfl)).2
  omega
 have hog : w.heap.size ≠ gt := hgo.symm
 have q2 := k1.task (f := fun t => { t with place := t.place + 1 }) (u := .int .i64 (((r.ti m).place : Int) + 1)) HTA.out hm (j := 3) (by decide) rfl rfl rfl
 have p2 := (Kp.of_below (L := L) HB.out).trans (Kp.task (i := m) (j := 3) (u := .int .i64 (((r.ti m).place : Int) + 1)) HTA.out)
 have w2 := HW.out.far (p := ⟨gt, m * 13 + 3, none⟩) hog (.int .i64 (((r.ti m).place : Int) + 1))
 have F2 : Hid (Fo (W1.setCell ⟨gt, m * 13 + 3, none⟩ (.int .i64 (((r.ti m).place : Int) + 1))) L w.heap.size) := ⟨w2.lt, fun e => by have := HK.out.lt; omega, fun p hp => by have := (HK.out.rowLt hp).2; omega⟩
 have K2 := zh q2
 have P2 := zh p2
 have W2F := zh w2
 clear q2 p2 w2 k1 HW HB hBw
 go_upto_region 5 with fail
 generalize hW2 : W1.setCell ⟨gt, m * 13 + 3, none⟩ (.int .i64 (((r.ti m).place : Int) + 1)) = W2 at *
 clear hW2 x0 x1 t3 f3
 have hT1 : (r.next m).tasks.length = r.tasks.length := len_setT
 have hm1 : m < (r.next m).tasks.length := by rw [hT1]; exact hm
 have HF1 := zh (HF.out.next hm)
 have hti := ti_next (r := r) hm
 have hown : Hid ((r.next m).owner = r.owner) := rfl
 have hsem : Hid ((r.next m).sems = r.sems) := rfl
 have hsiz : Hid ((r.next m).size = r.size) := rfl
 have hcnt : Hid ((r.next m).count = r.count) := rfl
 have htic : Hid ((r.next m).ticks = r.ticks) := rfl
 have hou : Hid ((r.next m).out = r.out) := rfl
 replace K2 : Hid (RM W2 B (r.next m) L) := K2
 have EN : Hid (∃ r1, r1 = r.next m) := ⟨_, rfl⟩
 generalize hr1 : r.next m = r1 at *
 clear hr1 EN
 have HTA1 : Hid (L.V .ta = .slice (some ⟨gt, 0, none⟩) r1.tasks.length ct) := by
  show _ = _
  rw [hT1]
  exact HTA.out
 have c0 := K2.out.cTa
 rw [HTA.out] at c0
 have x0 := W2F.out.cell 0
 have x1 := W2F.out.cell 1
 have x2 := W2F.out.cell 2
 simp only [za, zb, zc] at x0 x1 x2
 rename_i hH0 KK hKK
 clear hH0 hHeld wz
 revert hM hm hpl hol hct gt ct im im0 cO ad hwr HK HF HTA hpl3 hgo hog KK hKK W2 F2 P2 W2F r1 EO hT1 hm1 HF1 hti hown hsem hsiz hcnt htic hou K2 HTA1 c0 x0 x1 x2
 exact HT.out
end Rk
end Go.Proofs.Ytncbgnpoffolcaa
namespace Go.Proofs.Ytncbgnpoffolcaa
open Go.RowKit
namespace Rk
end Rk
theorem run_nil_nil (w : World) (t ty e : TypeId) (i : TypeInfo) (ht : Try.prog.underlying t = some (.slice e)) (hi : Try.prog.info? e = some i) (c : Nat) :
 (Builtin.append_ #[t, t] ty #[.slice none 0 0, .slice none 0 c]).run Try.prog w = .ok (.slice none 0 0) w := by
 simp [Builtin.append_, run_underlying ht, sizeOf, typeInfo, hi, Builtin.lenOf, Builtin.firstCells]
/-- Appended to nothing: whatever is read. -/
theorem run_append_reads {w : World} (t ty e : TypeId) (i : TypeInfo) (z : Value) (size bytes : Nat) (ht : Try.prog.underlying t = some (.slice e)) (hi : Try.prog.info? e = some i) (hz : i.zero = some z)
 (hsize : i.size = size) (hby : i.bytes = bytes) (hzs : z.cells.size = size) (hsz : 0 < size) {A : Option Addr} {m c B base : Nat} {news : List Value} (hr : Reads w B size A m news) (h1 : ∀ u ∈ news, u.oneCell' = true)
 (h63 : m ≤ maxLen) (hbytes : m * bytes ≤ 140737488355328) (hbase : base ≤ w.heap.size) :
 ∃ v' w', (Builtin.append_ #[t, t] ty #[.slice none 0 0, .slice A m c]).run Try.prog w = .ok v' w' ∧ w'.ownsRow base e size v' m news ∧ w.grownBy w' none ∧ (v'.ownBlock = none ∨ v'.ownBlock = some w.heap.size) := by
 have key : ∀ ad, A = some ad → (∀ (j : Nat) (u : Value), news[j]? = some u → w.cell? (ad.add j) = some u) → ∃ v' w', (Builtin.append_ #[t, t] ty #[.slice none 0 0, .slice A m c]).run Try.prog w = .ok v' w' ∧ w'.ownsRow base e size v' m news ∧ w.grownBy w' none ∧ (v'.ownBlock = none ∨ v'.ownBlock = some w.heap.size) := by
  rintro ad rfl hc
  obtain ⟨v', w', h, h2, h3, _, h5⟩ := run_append_own_at (P := Try.prog) w base t ty e i z size bytes ht hi hz hsize hby hzs hsz (.slice none 0 0) 0 [] (World.ownsRow_nil _ _ _ _) ad m c news hr.1 hc h1 (by omega) (by simpa using hbytes) hbase
  exact ⟨v', w', h, by simpa using h2, h3, h5⟩
 rcases Nat.eq_zero_or_pos m with h0 | h0
 ·subst h0
  have hn : news = [] := List.eq_nil_of_length_eq_zero (by have := hr.1; omega)
  subst hn
  rcases A with _ | ad
  ·exact ⟨_, w, run_nil_nil w t ty e i ht hi c, World.ownsRow_nil _ _ _ _, World.grownBy.refl w none, .inl rfl⟩
  ·exact key ad rfl (fun j u hj => by simp at hj)
 ·obtain ⟨ad, rfl, _, hc⟩ := hr.2 h0
  exact key ad rfl hc
theorem wp_append_reads {w : World} {o : Oper} {a : Act} {K : Act → World → Prop} {Q : Exit → Act → World → Prop} (s x : Operand) (t : TypeId)
 (ho : o.op = .call { callee := .builtin .append, args := #[s, x], argTypes := #[t, t] }) (base : Nat)
 (e : TypeId) (i : TypeInfo) (z : Value) (size bytes : Nat) (ht : Try.prog.underlying t = some (.slice e)) (hi : Try.prog.info? e = some i) (hz : i.zero = some z)
 (hsize : i.size = size) (hby : i.bytes = bytes) (hzs : z.cells.size = size) (hsz : 0 < size) {A : Option Addr} {m c B : Nat} {news : List Value} (hs : a.eval s = .slice none 0 0) (hx : a.eval x = .slice A m c) (hr : Reads w B size A m news) (h1 : ∀ u ∈ news, u.oneCell' = true)
 (h63 : m ≤ maxLen) (hbytes : m * bytes ≤ 140737488355328) (hbase : base ≤ w.heap.size)
 (h : ∀ v' w', w'.ownsRow base e size v' m news → w.grownBy w' none → (v'.ownBlock = none ∨ v'.ownBlock = some w.heap.size) → K (a.put o.dst v') w') : o.wp Try.prog a w K Q := by
 obtain ⟨v', w', hrun, h2, h3, h4⟩ := run_append_reads (w := w) t o.type e i z size bytes ht hi hz hsize hby hzs hsz (c := c) hr h1 h63 hbytes hbase
 unfold Oper.wp execOp
 simp only [ho, resolve, invoke, builtin, Sem.run_bind, Sem.run_pure, Result.andThen_ok, List.map_toArray, List.map_cons, List.map_nil, hs, hx, hrun]
 exact h v' w' h2 h3 h4
theorem wpList_append_reads {w : World} {ops : Array Oper} {rest : List Oper} {o : Oper} {a : Act} {Q : Exit → Act → World → Prop} (hgd : o.guard = none) (s x : Operand) (t : TypeId)
 (ho : o.op = .call { callee := .builtin .append, args := #[s, x], argTypes := #[t, t] }) (base : Nat)
 (e : TypeId) (i : TypeInfo) (z : Value) (size bytes : Nat) (ht : Try.prog.underlying t = some (.slice e)) (hi : Try.prog.info? e = some i) (hz : i.zero = some z)
 (hsize : i.size = size) (hby : i.bytes = bytes) (hzs : z.cells.size = size) (hsz : 0 < size) {A : Option Addr} {m c B : Nat} {news : List Value} (hs : a.eval s = .slice none 0 0) (hx : a.eval x = .slice A m c) (hr : Reads w B size A m news) (h1 : ∀ u ∈ news, u.oneCell' = true)
 (h63 : m ≤ maxLen) (hbytes : m * bytes ≤ 140737488355328) (hbase : base ≤ w.heap.size)
 (h : ∀ v' w', w'.ownsRow base e size v' m news → w.grownBy w' none → (v'.ownBlock = none ∨ v'.ownBlock = some w.heap.size) → wpList Try.prog ops Q rest (a.put o.dst v') w') : wpList Try.prog ops Q (o :: rest) a w :=
 wpList_plain hgd fun _ hK => wp_append_reads s x t ho base e i z size bytes ht hi hz hsize hby hzs hsz hs hx hr h1 h63 hbytes hbase fun v' w' h2 h3 h4 => hK _ _ (h v' w' h2 h3 h4)
/-- A row of one's own, cut short. -/
theorem row_cut {w : World} {B : Nat} {e : TypeId} {size n g cap : Nat} {xs ys : List Value} (h : w.ownsRow B e size (.slice (some ⟨g, 0, none⟩) (n + 1) cap) (n + 1) (xs ++ ys)) (hx : xs.length = n * size) : w.ownsRow B e size (.slice (some ⟨g, 0, none⟩) n cap) n xs := by
 refine ⟨hx, .inr ?_⟩
 rcases h.2 with ⟨h0, _⟩ | ⟨g', cap', cur, hv, hb, hg, hnc, hcm, hcs, ht⟩
 ·cases h0
 ·injection hv with e1 e2 e3
  injection e1 with e1
  injection e1 with e1
  subst e1 e3
  refine ⟨g, cap, cur, rfl, hb, hg, by omega, hcm, hcs, ?_⟩
  have h2 := congrArg (List.take (n * size)) ht
  rw [List.take_take, Nat.min_eq_left (Nat.mul_le_mul_right _ (by omega)), List.take_append_of_le_length (by omega)] at h2
  rw [h2, List.take_of_length_le (by omega)]
theorem run_tail1 (g n c : Nat) (h1 : 1 ≤ n) (_h2 : n ≤ c) (W : World) : (Instr.slice 24 (.slice (some ⟨g, 0, none⟩) n c) (some (.int .i64 1)) none none).run Try.prog W = .ok (.slice (some ⟨g, if c = 1 then 0 else 1, none⟩) (n - 1) (c - 1)) W := by
 have hu := Try.underlying24
 simp [Instr.slice, Instr.sliceBounds, Instr.sliceBound, asIntOf, run_underlying hu, go_sem]
 rw [if_pos (by omega)]
 by_cases hc : c = 1 <;> simp [hc]
namespace Rk
theorem headsC_far {L : Ly} {x : Nat} {v : Value} (hx : 32 ≤ x) : headsC (L.set (.l x) v) = headsC L := by
 unfold headsC rowsC
 rw [set_ne (by simp), set_ne (by simp), set_ne (by simp), set_ne (by simp), set_ne (by simp)]
 congr 2
 apply List.map_congr_left
 intro p hp
 have := List.mem_range.1 hp
 exact set_ne (by simp; omega)
/-- What lies in a queue is put anew. -/
theorem RM.setQue {w w1 : World} {B : Nat} {r : K} {L : Ly} (h : RM w B r L) {i gq n c : Nat} {f : List Int → List Int} {v : Value} (hq : L.V .qa = .slice (some ⟨gq, 0, none⟩) n c) (hi : i < r.size.length)
 (hv : w1.ownsRow B 3 1 v (f (r.l (32 + i))).length (intV (f (r.l (32 + i))))) (hb : Br w w1 L (.l (32 + i))) (hg : ∀ b, v.ownBlock = some b → (L.V (.l (32 + i))).ownBlock = some b ∨ w.heap.size ≤ b) :
 RM (w1.setCell ⟨gq, i * 2, none⟩ v) B (r.setL (32 + i) f) (L.set (.l (32 + i)) v) ∧ Kp w L (w1.setCell ⟨gq, i * 2, none⟩ v) (L.set (.l (32 + i)) v) := by
 have hob : (L.V .qa).ownBlock = some gq := by rw [hq]; rfl
 have h8 := h.few
 have hx : 32 + i < 40 := by omega
 have hqne : ∀ p : Part, (L.V p).ownBlock = some gq → p = .qa := fun p hp => Decidable.byContradiction fun e => h.apart p .qa gq e hp hob
 refine ⟨h.anew (p0 := .l (32 + i)) (hb := gq) (j := i * 2) ?_ hb.block hg rfl (.inr ⟨.qa, by simp, hob⟩) Sm.setL ?_ ?_ (len_L h hx) ?_, Kp.anew hb hg (.inr ⟨.qa, hob⟩) (.inr ⟨_, rfl⟩)⟩
 ·show w1.ownsRow B 3 1 v ((r.setL (32 + i) f).l (32 + i)).length (intV ((r.setL (32 + i) f).l (32 + i)))
  rw [l_same h hx]
  exact hv
 ·have e : kerC (r.setL (32 + i) f) (L.set (.l (32 + i)) v) = kerC r L := by
   unfold kerC
   rw [headsC_far (by omega)]
   rfl
  rw [e]
  exact (h.ker.same (hb.block _ h.lt (h.ne _))).far (p := ⟨gq, i * 2, none⟩) (fun e => h.ne .qa (by rw [hob, e])) v
 ·intro p _ hp
  have ep := hqne p hp
  subst ep
  have q1 := row_same (h.row .qa) fun k hk => hb.block k ((h.row .qa).lt k hk).2 (fun e => h.apart .qa (.l (32 + i)) k (by simp) hk e)
  have hn : n = Part.len r .qa := by
   obtain ⟨A, c', e1, _⟩ := h.slice .qa
   rw [hq] at e1
   injection e1
  rw [hq, hn] at q1 ⊢
  have q2 := (q1.stored (i * 2) v).1
  have e : Part.cells (r.setL (32 + i) f) (L.set (.l (32 + i)) v) .qa = (Part.cells r L .qa).set (i * 2) v := by
   show quesC _ _ = (quesC r L).set (i * 2 + 0) v
   unfold quesC
   refine flat_set (fun _ => rfl) (fun _ => rfl) (by decide) ?_ (fun k hk _ => ?_)
   ·show [(L.set (.l (32 + i)) v).V (.l (32 + i)), _] = _
    rw [set_self]
    rfl
   ·show [(L.set (.l (32 + i)) v).V (.l (32 + k)), _] = _
    rw [set_ne (by simp; omega)]
    rfl
  rw [e]
  exact q2
 ·intro p hp hne
  cases p with
  | ta => exact congrArg (fun g => (List.range r.tasks.length).flatMap g) (funext fun k => taskC_set (by simp))
  | qa => exact absurd hob hne
  | l y => exact cells_L h hx (.l y) hp
  | _ => rfl
theorem RM.quePush {wx w5 : World} {B : Nat} {r : K} {L : Ly} {i gq n c gg cap : Nat} {x : Int} {ob : Obj} (h : RM wx B r L) (hq : L.V .qa = .slice (some ⟨gq, 0, none⟩) n c) (hi : i < r.size.length)
 (hown : w5.ownsRow B 3 1 (.slice (some ⟨gg, 0, none⟩) ((r.l (32 + i)).length + 1) cap) (r.l (32 + i) ++ [x]).length (intV (r.l (32 + i) ++ [x]))) (hgrow : (wx.alloc ob).grownBy w5 (L.V (.l (32 + i))).ownBlock)
 (hor : (L.V (.l (32 + i))).ownBlock = some gg ∨ gg = (wx.alloc ob).heap.size) :
 RM (w5.setCell ⟨gq, i * 2, none⟩ (.slice (some ⟨gg, 0, none⟩) ((r.l (32 + i)).length + 1) cap)) B (r.setL (32 + i) (· ++ [x])) (L.set (.l (32 + i)) (.slice (some ⟨gg, 0, none⟩) ((r.l (32 + i)).length + 1) cap)) ∧
  Kp wx L (w5.setCell ⟨gq, i * 2, none⟩ (.slice (some ⟨gg, 0, none⟩) ((r.l (32 + i)).length + 1) cap)) (L.set (.l (32 + i)) (.slice (some ⟨gg, 0, none⟩) ((r.l (32 + i)).length + 1) cap)) :=
 h.setQue (f := (· ++ [x])) hq hi hown ((Br.of_below ((zr _ _).alloc (zl _) _)).grown hgrow) (fun b hb => by
  have e : gg = b := by simpa [Value.ownBlock] using hb
  subst e
  rcases hor with h1 | h1
  ·exact .inl h1
  ·exact .inr (by rw [h1, World.size_alloc]; exact Nat.le_succ _))
/-- A queue's cells. -/
theorem RM.cQue {w : World} {B : Nat} {r : K} {L : Ly} {i gq n c : Nat} (h : RM w B r L) (hq : L.V .qa = .slice (some ⟨gq, 0, none⟩) n c) (hi : i < r.size.length) : w.cell? ⟨gq, i * 2, none⟩ = some (L.V (.l (32 + i))) ∧ w.cell? ⟨gq, i * 2 + 1, none⟩ = some (.int .i64 r.size[i]) := by
 have q := h.row .qa
 have hn : n = Part.len r .qa := by
  obtain ⟨A, c', e1, _⟩ := h.slice .qa
  rw [hq] at e1
  injection e1
 rw [hq, hn] at q
 have hl : Part.len r .qa = r.size.length := rfl
 have a0 := q.cellAt (i * 2) (by rw [hl]; show _ < r.size.length * 2; omega)
 have a1 := q.cellAt (i * 2 + 1) (by rw [hl]; show _ < r.size.length * 2; omega)
 have f0 := flat_at (f := queC r L) (n := 2) (fun _ => rfl) (List.range r.size.length) i 0 (by rw [List.length_range]; exact hi) (by decide)
 have f1 := flat_at (f := queC r L) (n := 2) (fun _ => rfl) (List.range r.size.length) i 1 (by rw [List.length_range]; exact hi) (by decide)
 rw [List.getElem_range] at f0 f1
 refine ⟨a0.trans f0, (a1.trans f1).trans ?_⟩
 show some (Value.int .i64 (r.size.getD i 0)) = _
 rw [zd, List.getElem?_eq_getElem hi]
 rfl
end Rk
end Go.Proofs.Ytncbgnpoffolcaa
