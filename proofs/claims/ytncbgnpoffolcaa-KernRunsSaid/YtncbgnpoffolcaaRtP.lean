/-
  The document's kernel: the walk of Result. The document's kernel as it is made, and the candidate's: one and the other.
-/
import Derived.Test.YtncbgnpoffolcaaNt
import Derived.Test.YtncbgnpoffolcaaRkZ
import Derived.Test.YtncbgnpoffolcaaRkT
namespace Go.Proofs.Ytncbgnpoffolcaa
open Go.RowKit
namespace Rk
theorem ti_get' {r : K} {i : Nat} (hi : i < r.tasks.length) : r.ti i = r.tasks[i] := by
 show r.tasks.getD i noT = _
 rw [zd, List.getElem?_eq_getElem hi]
 rfl
theorem byteV_one (l : List UInt8) : ∀ u ∈ byteV l, u.oneCell' = true := by
 intro u hu
 obtain ⟨o, _, ho⟩ := List.mem_map.1 hu
 subst ho
 rfl
/-- A run's answer, under way. -/
structure RS (w wr : World) (g : Nat) (v1 V2 V3 : Value) (o : List UInt8) (xs ys : List Int) (tk op : Int) : Prop where
 wh : Whole wr g 36 #[v1, V2, V3, .int .i64 tk, .int .i64 op]
 r1 : wr.ownsRow w.heap.size 5 1 v1 o.length (byteV o)
 r2 : wr.ownsRow w.heap.size 3 1 V2 xs.length (intV xs)
 r3 : wr.ownsRow w.heap.size 3 1 V3 ys.length (intV ys)
 ap : ∀ b, V2.ownBlock = some b → V3.ownBlock ≠ some b
 ap1 : ∀ b, v1.ownBlock = some b → V2.ownBlock ≠ some b ∧ V3.ownBlock ≠ some b
 low : w.heap.size < g
 bl : Below w.heap.size w wr
 rb : Whole wr w.heap.size 36 #[.slice none 0 0, .slice none 0 0, .slice none 0 0, .int .i64 0, .int .i64 0]
section
variable {w wr w5 : World} {g : Nat} {v1 V2 V3 : Value} {o : List UInt8} {xs ys : List Int} {tk op : Int}
theorem RS.ne1 (h : RS w wr g v1 V2 V3 o xs ys tk op) : v1.ownBlock ≠ some g := row_whole_ne h.r1 h.wh (by decide)
theorem RS.ne2 (h : RS w wr g v1 V2 V3 o xs ys tk op) : V2.ownBlock ≠ some g := row_whole_ne h.r2 h.wh (by decide)
theorem RS.ne3 (h : RS w wr g v1 V2 V3 o xs ys tk op) : V3.ownBlock ≠ some g := row_whole_ne h.r3 h.wh (by decide)
theorem RS.nb2 (h : RS w wr g v1 V2 V3 o xs ys tk op) : V2.ownBlock ≠ some w.heap.size := row_whole_ne h.r2 h.rb (by decide)
theorem RS.nb3 (h : RS w wr g v1 V2 V3 o xs ys tk op) : V3.ownBlock ≠ some w.heap.size := row_whole_ne h.r3 h.rb (by decide)
theorem RS.push2 (h : RS w wr g v1 V2 V3 o xs ys tk op) {n : Int} {gg cap : Nat} (hown : w5.ownsRow w.heap.size 3 1 (.slice (some ⟨gg, 0, none⟩) (xs.length + 1) cap) (xs ++ [n]).length (intV (xs ++ [n])))
 (hgrow : (wr.alloc (.cells #[.int .i64 n] 3)).grownBy w5 V2.ownBlock) (hor : V2.ownBlock = some gg ∨ gg = (wr.alloc (.cells #[.int .i64 n] 3)).heap.size) :
 RS w (w5.setCell ⟨g, 1, none⟩ (.slice (some ⟨gg, 0, none⟩) (xs.length + 1) cap)) g v1 (.slice (some ⟨gg, 0, none⟩) (xs.length + 1) cap) V3 o (xs ++ [n]) ys tk op := by
 have hz : (wr.alloc (.cells #[.int .i64 n] 3)).heap.size = wr.heap.size + 1 := by simp
 have hg : g < wr.heap.size := h.wh.lt
 have hwl := h.bl.size
 have hk : ∀ k, k < wr.heap.size → V2.ownBlock ≠ some k → w5.heap[k]? = wr.heap[k]? := fun k hk hne => (hgrow.block k (by omega) (fun e => hne e.symm)).trans (zo _ _ _ hk)
 have hgb : ∀ {b}, (Value.slice (some ⟨gg, 0, none⟩) (xs.length + 1) cap).ownBlock = some b → b = gg := fun {b} e => by
  have : gg = b := by simpa [Value.ownBlock] using e
  exact this.symm
 have hgg : V2.ownBlock = some gg ∨ wr.heap.size + 1 ≤ gg := by
  rcases hor with e | e
  ·exact .inl e
  ·exact .inr (by omega)
 have hgne : gg ≠ g := fun e => by
  rcases hgg with q | q
  ·exact h.ne2 (by rw [q, e])
  ·omega
 refine ⟨?_, ?_, ?_, ?_, fun b e1 e2 => ?_, fun b e1 => ⟨fun e2 => ?_, (h.ap1 b e1).2⟩, h.low, ?_, ?_⟩
 ·have := (h.wh.same (hk g hg h.ne2)).put 1 (.slice (some ⟨gg, 0, none⟩) (xs.length + 1) cap)
  exact this
 ·exact ownsRow_setCell_other (row_same h.r1 fun k e => hk k (h.r1.lt k e).2 (h.ap1 k e).1) (a := ⟨g, 1, none⟩) h.ne1 _
 ·refine ownsRow_setCell_other ?_ (a := ⟨g, 1, none⟩) (fun e => hgne (hgb e).symm) _
  rw [show (xs ++ [n]).length = xs.length + 1 by simp] at hown ⊢
  exact hown
 ·exact ownsRow_setCell_other (row_same h.r3 fun k e => hk k (h.r3.lt k e).2 (fun e2 => h.ap k e2 e)) (a := ⟨g, 1, none⟩) h.ne3 _
 ·have := hgb e1
  subst this
  rcases hgg with q | q
  ·exact h.ap _ q e2
  ·have := (h.r3.lt _ e2).2; omega
 ·have := hgb e2
  subst this
  rcases hgg with q | q
  ·exact (h.ap1 _ e1).1 q
  ·have := (h.r1.lt _ e1).2; omega
 ·exact ((h.bl.alloc hwl _).grown hgrow (by omega) (fun b e => (h.r2.lt b e).1)).setCell (p := ⟨g, 1, none⟩) (Nat.le_of_lt h.low) _
 ·have q := h.rb.same (hk w.heap.size h.rb.lt h.nb2)
  exact q.same (zk _ _ _ _ (by have := h.low; show w.heap.size ≠ g; omega))
theorem RS.push3 (h : RS w wr g v1 V2 V3 o xs ys tk op) {n : Int} {gg cap : Nat} (hown : w5.ownsRow w.heap.size 3 1 (.slice (some ⟨gg, 0, none⟩) (ys.length + 1) cap) (ys ++ [n]).length (intV (ys ++ [n])))
 (hgrow : (wr.alloc (.cells #[.int .i64 n] 3)).grownBy w5 V3.ownBlock) (hor : V3.ownBlock = some gg ∨ gg = (wr.alloc (.cells #[.int .i64 n] 3)).heap.size) :
 RS w (w5.setCell ⟨g, 2, none⟩ (.slice (some ⟨gg, 0, none⟩) (ys.length + 1) cap)) g v1 V2 (.slice (some ⟨gg, 0, none⟩) (ys.length + 1) cap) o xs (ys ++ [n]) tk op := by
 have hz : (wr.alloc (.cells #[.int .i64 n] 3)).heap.size = wr.heap.size + 1 := by simp
 have hg : g < wr.heap.size := h.wh.lt
 have hwl := h.bl.size
 have hk : ∀ k, k < wr.heap.size → V3.ownBlock ≠ some k → w5.heap[k]? = wr.heap[k]? := fun k hk hne => (hgrow.block k (by omega) (fun e => hne e.symm)).trans (zo _ _ _ hk)
 have hgb : ∀ {b}, (Value.slice (some ⟨gg, 0, none⟩) (ys.length + 1) cap).ownBlock = some b → b = gg := fun {b} e => by
  have : gg = b := by simpa [Value.ownBlock] using e
  exact this.symm
 have hgg : V3.ownBlock = some gg ∨ wr.heap.size + 1 ≤ gg := by
  rcases hor with e | e
  ·exact .inl e
  ·exact .inr (by omega)
 have hgne : gg ≠ g := fun e => by
  rcases hgg with q | q
  ·exact h.ne3 (by rw [q, e])
  ·omega
 refine ⟨?_, ?_, ?_, ?_, fun b e1 e2 => ?_, fun b e1 => ⟨(h.ap1 b e1).1, fun e2 => ?_⟩, h.low, ?_, ?_⟩
 ·have := (h.wh.same (hk g hg h.ne3)).put 2 (.slice (some ⟨gg, 0, none⟩) (ys.length + 1) cap)
  exact this
 ·exact ownsRow_setCell_other (row_same h.r1 fun k e => hk k (h.r1.lt k e).2 (h.ap1 k e).2) (a := ⟨g, 2, none⟩) h.ne1 _
 ·exact ownsRow_setCell_other (row_same h.r2 fun k e => hk k (h.r2.lt k e).2 (fun e2 => h.ap k e e2)) (a := ⟨g, 2, none⟩) h.ne2 _
 ·refine ownsRow_setCell_other ?_ (a := ⟨g, 2, none⟩) (fun e => hgne (hgb e).symm) _
  rw [show (ys ++ [n]).length = ys.length + 1 by simp] at hown ⊢
  exact hown
 ·have := hgb e2
  subst this
  rcases hgg with q | q
  ·exact h.ap _ e1 q
  ·have := (h.r2.lt _ e1).2; omega
 ·have := hgb e2
  subst this
  rcases hgg with q | q
  ·exact (h.ap1 _ e1).2 q
  ·have := (h.r1.lt _ e1).2; omega
 ·exact ((h.bl.alloc hwl _).grown hgrow (by omega) (fun b e => (h.r3.lt b e).1)).setCell (p := ⟨g, 2, none⟩) (Nat.le_of_lt h.low) _
 ·have q := h.rb.same (hk w.heap.size h.rb.lt h.nb3)
  exact q.same (zk _ _ _ _ (by have := h.low; show w.heap.size ≠ g; omega))
theorem RS.first {W1 : World} {A : Option Addr} {n c : Nat} (hn : n = o.length) (hb : Below w.heap.size w W1) (hr : Whole W1 w.heap.size 36 #[.slice none 0 0, .slice none 0 0, .slice none 0 0, .int .i64 0, .int .i64 0]) (hg : Whole wr g 36 #[.slice A n c, .slice none 0 0, .slice none 0 0, .int .i64 tk, .int .i64 op])
 (ho : wr.ownsRow w.heap.size 5 1 (.slice A n c) n (byteV o)) (hB : Below W1.heap.size W1 wr) (hgl : W1.heap.size ≤ g) : RS w wr g (.slice A n c) (.slice none 0 0) (.slice none 0 0) o [] [] tk op := by
 subst hn
 have := hr.lt
 exact ⟨hg, ho, World.ownsRow_nil _ _ _ _, World.ownsRow_nil _ _ _ _, fun b e => (by cases e), fun b _ => ⟨fun e => (by cases e), fun e => (by cases e)⟩, by omega, hb.trans (hB.mono (by omega)), hr.same (hB.block _ hr.lt)⟩
end
set_option maxRecDepth 100000 in
set_option maxHeartbeats 8000000 in
theorem result_any {w : World} {B : Nat} {r : K} {L : Ly} (h : RM w B r L) (hn : r.tasks.length ≤ 1000) (hol : r.out.length ≤ 1000000) :
 Calls Try.prog 36 #[.pointer (some ⟨L.b, 0, none⟩)] w fun e w' => ∃ A1 c1 A2 c2 A3 c3, e = .returned (.agg #[.slice A1 r.out.length c1, .slice A2 r.tasks.length c2, .slice A3 r.tasks.length c3, .int .i64 r.ticks, .int .i64 r.ops]) ∧ w'.ownsRow w.heap.size 5 1 (.slice A1 r.out.length c1) r.out.length (byteV r.out) ∧
  w'.ownsRow w.heap.size 3 1 (.slice A2 r.tasks.length c2) (r.tasks.map (·.state)).length (intV (r.tasks.map (·.state))) ∧ w'.ownsRow w.heap.size 3 1 (.slice A3 r.tasks.length c3) (r.tasks.map (·.last)).length (intV (r.tasks.map (·.last))) ∧ Below w.heap.size w w' := by
 obtain ⟨W1, hW1⟩ : ∃ W1, W1 = w.alloc (.cells #[.slice none 0 0, .slice none 0 0, .slice none 0 0, .int .i64 0, .int .i64 0] 36) := ⟨_, rfl⟩
 have hb1 : Below w.heap.size w W1 := by rw [hW1]; exact (zr _ _).alloc (zl _) _
 have wr1 : Whole W1 w.heap.size 36 #[.slice none 0 0, .slice none 0 0, .slice none 0 0, .int .i64 0, .int .i64 0] := by rw [hW1]; exact zm _ _ _
 have hz1 : W1.heap.size = w.heap.size + 1 := by rw [hW1]; simp
 have HK := zh h
 have K1 := zh (h.below hb1)
 have HB1 := zh hb1
 have WR1 := zh wr1
 have HW1 := zh hW1
 obtain ⟨AO, cO, eO, hO1, hO2⟩ := h.slice .out
 replace eO : L.V .out = .slice AO r.out.length cO := eO
 have EO := zh eO
 have HRO : Hid (Reads W1 W1.heap.size 1 AO r.out.length (byteV r.out)) := by
  have q := K1.out.row .out
  rw [eO] at q
  exact Reads.of_own q
 have o0 : W1.cell? ⟨L.b, 36, none⟩ = some (.slice AO r.out.length cO) := by rw [K1.out.cOut, eO]
 have o1 := K1.out.cTicks
 have o2 := K1.out.cOps
 have hLl : L.b < W1.heap.size := K1.out.lt
 have hbase : w.heap.size ≤ W1.heap.size := by omega
 obtain ⟨i5, hi5, hi50, hi51, hi52⟩ := info_parts info5
 obtain ⟨i3, hi3, hi30, hi31, hi32⟩ := info_parts info3
 have hmx : r.out.length ≤ maxLen := by unfold maxLen; omega
 clear h hb1 wr1 hW1 eO hO1 hO2 hz1
 go_enter Try.func36, Try.ntmps36
 go_upto_region 1 with fail
 rw [← HW1.out]
 go_cut [3] (fun v wx => ∃ g A1 c1, v = .pointer (some ⟨g, 0, none⟩) ∧ RS w wx g (.slice A1 r.out.length c1) (.slice none 0 0) (.slice none 0 0) r.out [] [] r.ticks r.ops ∧ Below W1.heap.size W1 wx)
 case first =>
  refine wp_region_held_drew (S := fun w' => w'.cell? ⟨L.b, 36, none⟩ = some (.slice AO r.out.length cO) ∧ w'.cell? ⟨L.b, 37, none⟩ = some (.int .i64 r.ticks) ∧ w'.cell? ⟨L.b, 38, none⟩ = some (.int .i64 r.ops)) (by kernel_rfl) ?_ (fun hHeld => ?_)
  ·(try dsimp only)
   exact ⟨o0, o1, o2⟩
  refine tkH 0 (v := ?_) ?_ ?_; rotate_left 2
  refine tkH 1 (v := ?_) ?_ ?_; rotate_left 2
  refine tkH 2 (v := ?_) ?_ ?_; rotate_left 2
  refine tkH 3 (v := ?_) ?_ ?_; rotate_left 2
  refine tkH 5 (v := ?_) ?_ ?_; rotate_left 2
  refine tkH 6 (v := ?_) ?_ ?_; rotate_left 2
  refine tkH 7 (v := ?_) ?_ ?_; rotate_left 2
  refine tkH 8 (v := ?_) ?_ ?_; rotate_left 2
  refine tkH 9 (v := ?_) ?_ ?_; rotate_left 2
  refine tkH 10 (v := ?_) ?_ ?_; rotate_left 2
  refine tkH 11 (v := ?_) ?_ ?_; rotate_left 2
  refine tkH 12 (v := ?_) ?_ ?_; rotate_left 2
  rotate_left
  iterate 12 (rotate_left; focus (intro w hSw; (try dsimp only at hSw); obtain ⟨hS0, hS1, hS2⟩ := hSw; go_simp; with_reducible rfl))
  try simp only [Act.put, p1, p2, p3, p4, p5, p6]
  refine wpAnyH_ready (rs := [4, 14]) (by kernel_rfl) (by simp) ?_
  refine AllReadyH.cons rfl (fun K hK => ?_) ?_
  ·refine step_append_reads rfl _ _ 34 (by rfl) (w.heap.size) 5 i5 _ 1 1 Try.underlying34 hi5 hi50 hi51 hi52 rfl (by decide) (by rfl) (by rfl) HRO.out.drew (byteV_one _) hmx (by omega) hbase ?_
   intro v' w5 hown hgrow hor
   obtain ⟨A8, c8, e8, -, -⟩ := row_slice hown
   subst e8
   have hbw5 : Below W1.heap.size W1 w5 := ((zr W1.heap.size W1).drew).grown hgrow (zl _) (fun b e => by cases e)
   refine hK.out _ _ ?_ (fun hHeld => ?_)
   ·exact ⟨(hgrow.cell_far (⟨L.b, 36, none⟩) hLl (by simp)).trans hHeld.1, (hgrow.cell_far (⟨L.b, 37, none⟩) hLl (by simp)).trans hHeld.2.1, (hgrow.cell_far (⟨L.b, 38, none⟩) hLl (by simp)).trans hHeld.2.2⟩
   clear hK K
   try simp only [Act.put, p1, p2, p3, p4, p5, p6]
   refine tkH 13 (v := ?_) ?_ ?_; rotate_left 2
   rotate_left
   iterate 1 (rotate_left; focus (intro w hSw; (try dsimp only at hSw); obtain ⟨hS0, hS1, hS2⟩ := hSw; go_simp; with_reducible rfl))
   try simp only [Act.put, p1, p2, p3, p4, p5, p6]
   refine wpAnyH_ready (rs := [14]) (by kernel_rfl) (by simp) ?_
   refine AllReadyH.cons rfl (fun K hK => ?_) ?_
   ·go_simp
    refine hK.out _ _ ?_ (fun hHeld => ?_)
    ·(try dsimp only)
     have hl5 : L.b < w5.heap.size := by have := hbw5.size; omega
     exact ⟨(zw _ _ _ hl5).trans hHeld.1, (zw _ _ _ hl5).trans hHeld.2.1, (zw _ _ _ hl5).trans hHeld.2.2⟩
    clear hK K
    try simp only [Act.put, p1, p2, p3, p4, p5, p6]
    refine wpAnyH_ready (rs := [15]) (by kernel_rfl) (by simp) ?_
    refine AllReadyH.cons rfl (fun K hK => ?_) ?_
    ·have hz5 := hbw5.size
     have hwg : Whole (w5.alloc (.cells #[.slice none 0 0, .slice none 0 0, .slice none 0 0, .int .i64 0, .int .i64 0] 36)) w5.heap.size 36 #[.slice none 0 0, .slice none 0 0, .slice none 0 0, .int .i64 0, .int .i64 0] := zm _ _ _
     have hown6 := hown.alloc (.cells #[.slice none 0 0, .slice none 0 0, .slice none 0 0, .int .i64 0, .int .i64 0] 36)
     have hbw6 : Below W1.heap.size W1 (w5.alloc (.cells #[.slice none 0 0, .slice none 0 0, .slice none 0 0, .int .i64 0, .int .i64 0] 36)) := hbw5.alloc hz5 _
     have hne6 := row_whole_ne hown6 hwg (by decide)
     generalize (w5.alloc (.cells #[.slice none 0 0, .slice none 0 0, .slice none 0 0, .int .i64 0, .int .i64 0] 36)) = w6 at *
     generalize w5.heap.size = g6 at *
     have hgl6 : W1.heap.size ≤ g6 := hz5
     have g0 := hwg.cell 0
     have g1 := hwg.cell 1
     have g2 := hwg.cell 2
     have g3 := hwg.cell 3
     have g4 := hwg.cell 4
     have gf0 := hwg.frozen 0
     have gf1 := hwg.frozen 1
     have gf2 := hwg.frozen 2
     have gf3 := hwg.frozen 3
     have gf4 := hwg.frozen 4
     simp at g0 g1 g2 g3 g4
     have hfw := ((((hwg.put 0 (.slice A8 r.out.length c8)).put 1 (.slice none 0 0)).put 2 (.slice none 0 0)).put 3 (.int .i64 r.ticks)).put 4 (.int .i64 r.ops)
     have hfo := ownsRow_setCell_other (ownsRow_setCell_other (ownsRow_setCell_other (ownsRow_setCell_other (ownsRow_setCell_other hown6 (a := ⟨g6, 0, none⟩) hne6 (.slice A8 r.out.length c8)) (a := ⟨g6, 1, none⟩) hne6 (.slice none 0 0)) (a := ⟨g6, 2, none⟩) hne6 (.slice none 0 0)) (a := ⟨g6, 3, none⟩) hne6 (.int .i64 r.ticks)) (a := ⟨g6, 4, none⟩) hne6 (.int .i64 r.ops)
     have hfb := ((((hbw6.setCell (p := ⟨g6, 0, none⟩) hgl6 (.slice A8 r.out.length c8)).setCell (p := ⟨g6, 1, none⟩) hgl6 (.slice none 0 0)).setCell (p := ⟨g6, 2, none⟩) hgl6 (.slice none 0 0)).setCell (p := ⟨g6, 3, none⟩) hgl6 (.int .i64 r.ticks)).setCell (p := ⟨g6, 4, none⟩) hgl6 (.int .i64 r.ops)
     have HFW := zh hfw
     have HFO := zh hfo
     have HFB := zh hfb
     have HGL := zh hgl6
     clear hfw hfo hfb
     go_simp
     refine hK.out _ _ ?_ (fun hHeld => ?_)
     ·(try dsimp only)
      have hne : L.b ≠ g6 := by have := HGL.out; omega
      refine ⟨?_, ?_, ?_⟩
      ·refine Eq.trans ?_ hHeld.1
       exact zq ((zk _ _ _ _ hne).trans ((zk _ _ _ _ hne).trans ((zk _ _ _ _ hne).trans ((zk _ _ _ _ hne).trans (zk _ _ _ _ hne)))))
      ·refine Eq.trans ?_ hHeld.2.1
       exact zq ((zk _ _ _ _ hne).trans ((zk _ _ _ _ hne).trans ((zk _ _ _ _ hne).trans ((zk _ _ _ _ hne).trans (zk _ _ _ _ hne)))))
      ·refine Eq.trans ?_ hHeld.2.2
       exact zq ((zk _ _ _ _ hne).trans ((zk _ _ _ _ hne).trans ((zk _ _ _ _ hne).trans ((zk _ _ _ _ hne).trans (zk _ _ _ _ hne)))))
     clear hK K
     try simp only [Act.put, p1, p2, p3, p4, p5, p6]
     refine wpAnyH_done (by kernel_rfl) ?_ _
     have hfin := RS.first (o := r.out) (tk := r.ticks) (op := r.ops) rfl HB1.out WR1.out HFW.out HFO.out HFB.out HGL.out
     have HFIN := zh hfin
     have HBL := zh HFB.out
     clear hfin
     go_wp2_with fail
     go_meet
     exact ⟨_, _, _, rfl, HFIN.out, HBL.out⟩
    exact AllReadyH.nil
   exact AllReadyH.nil
  refine AllReadyH.cons rfl (fun K hK => ?_) ?_
  ·go_simp
   have hLl' := lt_al hLl (.cells #[.slice none 0 0, .slice none 0 0, .slice none 0 0, .int .i64 0, .int .i64 0] 36)
   refine hK.out _ _ ?_ (fun hHeld => ?_)
   ·(try dsimp only)
    exact ⟨(zw _ _ _ hLl).trans hHeld.1, (zw _ _ _ hLl).trans hHeld.2.1, (zw _ _ _ hLl).trans hHeld.2.2⟩
   clear hK K
   try simp only [Act.put, p1, p2, p3, p4, p5, p6]
   refine wpAnyH_ready (rs := [4]) (by kernel_rfl) (by simp) ?_
   refine AllReadyH.cons rfl (fun K hK => ?_) ?_
   ·refine step_append_reads rfl _ _ 34 (by rfl) (w.heap.size) 5 i5 _ 1 1 Try.underlying34 hi5 hi50 hi51 hi52 rfl (by decide) (by rfl) (by rfl) ((HRO.out.alloc (zl _) _).drew) (byteV_one _) hmx (by omega) (by show w.heap.size ≤ (W1.alloc (.cells #[.slice none 0 0, .slice none 0 0, .slice none 0 0, .int .i64 0, .int .i64 0] 36)).heap.size; rw [World.size_alloc]; exact Nat.le_succ_of_le hbase) ?_
    intro v' w5 hown hgrow hor
    obtain ⟨A8, c8, e8, -, -⟩ := row_slice hown
    subst e8
    have hwg : Whole w5 W1.heap.size 36 #[.slice none 0 0, .slice none 0 0, .slice none 0 0, .int .i64 0, .int .i64 0] := (zm W1 36 #[.slice none 0 0, .slice none 0 0, .slice none 0 0, .int .i64 0, .int .i64 0]).same (hgrow.block _ (by show W1.heap.size < (W1.alloc (.cells #[.slice none 0 0, .slice none 0 0, .slice none 0 0, .int .i64 0, .int .i64 0] 36)).heap.size; rw [World.size_alloc]; exact Nat.lt_succ_self _) (by simp))
    have hbw5 : Below W1.heap.size W1 w5 := (((zr W1.heap.size W1).alloc (zl _) (.cells #[.slice none 0 0, .slice none 0 0, .slice none 0 0, .int .i64 0, .int .i64 0] 36)).drew).grown hgrow (by show W1.heap.size ≤ (W1.alloc (.cells #[.slice none 0 0, .slice none 0 0, .slice none 0 0, .int .i64 0, .int .i64 0] 36)).heap.size; rw [World.size_alloc]; exact Nat.le_succ _) (fun b e => by cases e)
    refine hK.out _ _ ?_ (fun hHeld => ?_)
    ·exact ⟨(hgrow.cell_far (⟨L.b, 36, none⟩) hLl' (by simp)).trans hHeld.1, (hgrow.cell_far (⟨L.b, 37, none⟩) hLl' (by simp)).trans hHeld.2.1, (hgrow.cell_far (⟨L.b, 38, none⟩) hLl' (by simp)).trans hHeld.2.2⟩
    clear hK K
    try simp only [Act.put, p1, p2, p3, p4, p5, p6]
    refine tkH 13 (v := ?_) ?_ ?_; rotate_left 2
    rotate_left
    iterate 1 (rotate_left; focus (intro w hSw; (try dsimp only at hSw); obtain ⟨hS0, hS1, hS2⟩ := hSw; go_simp; with_reducible rfl))
    try simp only [Act.put, p1, p2, p3, p4, p5, p6]
    refine wpAnyH_ready (rs := [15]) (by kernel_rfl) (by simp) ?_
    refine AllReadyH.cons rfl (fun K hK => ?_) ?_
    ·have hne6 := row_whole_ne hown hwg (by decide)
     have hbw6 := hbw5
     have hgl6 : W1.heap.size ≤ W1.heap.size := zl _
     have g0 := hwg.cell 0
     have g1 := hwg.cell 1
     have g2 := hwg.cell 2
     have g3 := hwg.cell 3
     have g4 := hwg.cell 4
     have gf0 := hwg.frozen 0
     have gf1 := hwg.frozen 1
     have gf2 := hwg.frozen 2
     have gf3 := hwg.frozen 3
     have gf4 := hwg.frozen 4
     simp at g0 g1 g2 g3 g4
     have hfw := ((((hwg.put 0 (.slice A8 r.out.length c8)).put 1 (.slice none 0 0)).put 2 (.slice none 0 0)).put 3 (.int .i64 r.ticks)).put 4 (.int .i64 r.ops)
     have hfo := ownsRow_setCell_other (ownsRow_setCell_other (ownsRow_setCell_other (ownsRow_setCell_other (ownsRow_setCell_other hown (a := ⟨W1.heap.size, 0, none⟩) hne6 (.slice A8 r.out.length c8)) (a := ⟨W1.heap.size, 1, none⟩) hne6 (.slice none 0 0)) (a := ⟨W1.heap.size, 2, none⟩) hne6 (.slice none 0 0)) (a := ⟨W1.heap.size, 3, none⟩) hne6 (.int .i64 r.ticks)) (a := ⟨W1.heap.size, 4, none⟩) hne6 (.int .i64 r.ops)
     have hfb := ((((hbw6.setCell (p := ⟨W1.heap.size, 0, none⟩) hgl6 (.slice A8 r.out.length c8)).setCell (p := ⟨W1.heap.size, 1, none⟩) hgl6 (.slice none 0 0)).setCell (p := ⟨W1.heap.size, 2, none⟩) hgl6 (.slice none 0 0)).setCell (p := ⟨W1.heap.size, 3, none⟩) hgl6 (.int .i64 r.ticks)).setCell (p := ⟨W1.heap.size, 4, none⟩) hgl6 (.int .i64 r.ops)
     have HFW := zh hfw
     have HFO := zh hfo
     have HFB := zh hfb
     have HGL := zh hgl6
     clear hfw hfo hfb
     go_simp
     refine hK.out _ _ ?_ (fun hHeld => ?_)
     ·(try dsimp only)
      have hne : L.b ≠ W1.heap.size := by have := HGL.out; omega
      refine ⟨?_, ?_, ?_⟩
      ·refine Eq.trans ?_ hHeld.1
       exact zq ((zk _ _ _ _ hne).trans ((zk _ _ _ _ hne).trans ((zk _ _ _ _ hne).trans ((zk _ _ _ _ hne).trans (zk _ _ _ _ hne)))))
      ·refine Eq.trans ?_ hHeld.2.1
       exact zq ((zk _ _ _ _ hne).trans ((zk _ _ _ _ hne).trans ((zk _ _ _ _ hne).trans ((zk _ _ _ _ hne).trans (zk _ _ _ _ hne)))))
      ·refine Eq.trans ?_ hHeld.2.2
       exact zq ((zk _ _ _ _ hne).trans ((zk _ _ _ _ hne).trans ((zk _ _ _ _ hne).trans ((zk _ _ _ _ hne).trans (zk _ _ _ _ hne)))))
     clear hK K
     try simp only [Act.put, p1, p2, p3, p4, p5, p6]
     refine wpAnyH_done (by kernel_rfl) ?_ _
     have hfin := RS.first (o := r.out) (tk := r.ticks) (op := r.ops) rfl HB1.out WR1.out HFW.out HFO.out HFB.out HGL.out
     have HFIN := zh hfin
     have HBL := zh HFB.out
     clear hfin
     go_wp2_with fail
     go_meet
     exact ⟨_, _, _, rfl, HFIN.out, HBL.out⟩
    exact AllReadyH.nil
   exact AllReadyH.nil
  exact AllReadyH.nil
 case rest =>
  obtain ⟨g, A1, c1, rfl, hrs0, hbx⟩ := hcut
  have HRS0 := zh hrs0
  have HBX := zh hbx
  clear hrs0 hbx o0 o1 o2
  go_wp2_with fail
  go_loopg [4] r.tasks.length (fun kk iv wr => ∃ (j : Nat) (V2 V3 : Value), j ≤ r.tasks.length ∧ iv = .int .i64 j ∧ RS w wr g (.slice A1 r.out.length c1) V2 V3 r.out ((r.tasks.map (·.state)).take j) ((r.tasks.map (·.last)).take j) r.ticks r.ops ∧ r.tasks.length - j ≤ kk)
  case atStart => exact ⟨0, _, _, Nat.zero_le _, rfl, HRS0.out, by omega⟩
  case round =>
   obtain ⟨j, V2, V3, hj, rfl, hrs, hkk⟩ := hrel
   have HRS := zh hrs
   have KR := zh (HK.out.below hrs.bl)
   have hzr := hrs.bl.size
   clear hrs
   obtain ⟨AT, cT, eT, -, -⟩ := KR.out.slice .ta
   replace eT : L.V .ta = .slice AT r.tasks.length cT := eT
   have cta : wr.cell? ⟨L.b, 0, none⟩ = some (.slice AT r.tasks.length cT) := by rw [KR.out.cTa, eT]
   have hLr : L.b < wr.heap.size := KR.out.lt
   by_cases hlt : j < r.tasks.length
   ·have hlt' : (j : Int) < r.tasks.length := by omega
    have hj0 : (0 : Int) ≤ j := by omega
    obtain ⟨gt, ct, hta⟩ := KR.out.ta (by omega)
    have hta' := hta
    rw [eT] at hta'
    injection hta' with e1 _ e2
    subst e1
    subst e2
    have HTA := zh hta
    clear eT hta
    have t5 : wr.cell? ⟨gt, j * 13 + 5, none⟩ = some (.int .i64 (r.ti j).state) := KR.out.cTask HTA.out hlt (j := 5) (by decide)
    have HT4 : Hid (wr.cell? ⟨gt, j * 13 + 4, none⟩ = some (.int .i64 (r.ti j).last)) := KR.out.cTask HTA.out hlt (j := 4) (by decide)
    have hLb : Hid (L.b < w.heap.size) := HK.out.lt
    have hgtb : Hid (gt < w.heap.size) := (HK.out.rowLt (p := .ta) (g := gt) (by rw [HTA.out]; rfl)).2
    have hgtr : gt < wr.heap.size := by have := hgtb.out; omega
    have E2 : Hid ((r.tasks.map (·.state)).take (j + 1) = (r.tasks.map (·.state)).take j ++ [(r.ti j).state]) := by
     show _ = _
     rw [List.take_succ_eq_append_getElem (by rw [List.length_map]; exact hlt), List.getElem_map, ti_get' hlt]
    have E3 : Hid ((r.tasks.map (·.last)).take (j + 1) = (r.tasks.map (·.last)).take j ++ [(r.ti j).last]) := by
     show _ = _
     rw [List.take_succ_eq_append_getElem (by rw [List.length_map]; exact hlt), List.getElem_map, ti_get' hlt]
    have hx2 : ((r.tasks.map (·.state)).take j).length = j := by simp; omega
    have hx3 : ((r.tasks.map (·.last)).take j).length = j := by simp; omega
    have HX2 := zh hx2
    have HX3 := zh hx3
    obtain ⟨xs, hxs⟩ : ∃ xs, xs = (r.tasks.map (·.state)).take j := ⟨_, rfl⟩
    obtain ⟨ys, hys⟩ : ∃ ys, ys = (r.tasks.map (·.last)).take j := ⟨_, rfl⟩
    have hxl : xs.length ≤ 1000000 := by rw [hxs, hx2]; omega
    have hyl : ys.length ≤ 1000000 := by rw [hys, hx3]; omega
    rw [← hxs] at HRS E2
    rw [← hys] at HRS E3
    clear hxs hys hx2 hx3 HX2 HX3
    generalize hst : (r.ti j).state = st at *
    generalize hla : (r.ti j).last = la at *
    have HLA := zh hla
    clear hst hla
    obtain ⟨A2, c2, e2, -, -⟩ := row_slice HRS.out.r2
    subst e2
    have gc1 : wr.cell? ⟨g, 1, none⟩ = some (.slice A2 xs.length c2) := HRS.out.wh.cell 1
    have gf1 := HRS.out.wh.frozen 1
    have hgr : g < wr.heap.size := HRS.out.wh.lt
    have HR2 := zh HRS.out.r2
    have hneG := fun e : some g = (Value.slice A2 xs.length c2).ownBlock => HRS.out.ne2 e.symm
    have hneL : some L.b ≠ (Value.slice A2 xs.length c2).ownBlock := fun e => by have := (HRS.out.r2.lt _ e.symm).1; have := hLb.out; omega
    have hneT : some gt ≠ (Value.slice A2 xs.length c2).ownBlock := fun e => by have := (HRS.out.r2.lt _ e.symm).1; have := hgtb.out; omega
    go_wp2_with fail
    have hl0 : Addr.block (⟨g, 1, none⟩) < wr.heap.size := hgr
    have hne0 := hneG
    have hl1 : Addr.block (⟨L.b, 0, none⟩) < wr.heap.size := hLr
    have hne1 := hneL
    have hl2 : Addr.block (⟨gt, j * 13 + 5, none⟩) < wr.heap.size := hgtr
    have hne2 := hneT
    refine wp_region_need (S := fun w' => w'.cell? (⟨g, 1, none⟩) = some (.slice A2 xs.length c2) ∧ w'.cell? (⟨L.b, 0, none⟩) = some (.slice (some ⟨gt, 0, none⟩) r.tasks.length cT) ∧ w'.cell? (⟨gt, j * 13 + 5, none⟩) = some (.int .i64 st)) (need := fun i => i != 13) 14 (bs 14 0) (by kernel_rfl) (by kernel_rfl) (by kernel_rfl) ?_ (fun hHeld => ?_)
    ·(try dsimp only)
     exact ⟨gc1, cta, t5⟩
    refine tk 0 (bs 14 1) (v := ?_) ?_ ?_; rotate_left 2
    refine tk 1 (bs 14 3) (v := ?_) ?_ ?_; rotate_left 2
    refine tk 2 (bs 14 7) (v := ?_) ?_ ?_; rotate_left 2
    refine tk 3 (bs 14 15) (v := ?_) ?_ ?_; rotate_left 2
    refine tk 4 (bs 14 31) (v := ?_) ?_ ?_; rotate_left 2
    refine tk 5 (bs 14 63) (v := ?_) ?_ ?_; rotate_left 2
    refine tk 6 (bs 14 127) (v := ?_) ?_ ?_; rotate_left 2
    refine tk 7 (bs 14 255) (v := ?_) ?_ ?_; rotate_left 2
    refine tk 8 (bs 14 511) (v := ?_) ?_ ?_; rotate_left 2
    refine tk 9 (bs 14 1023) (v := ?_) ?_ ?_; rotate_left 2
    rotate_left
    iterate 10 (rotate_left; focus (intro w hSw; (try dsimp only at hSw); obtain ⟨hS0', hS1', hS2'⟩ := hSw; go_simp; with_reducible rfl))
    try simp only [Act.put, p1, p2, p3, p4, p5, p6]
    refine wpAnyN_step (i := 10) (listed' := (bs 14 2047)) (by kernel_rfl) rfl (by kernel_rfl) (fun K hK => ?_)
    refine step_bsI rfl _ (by rfl) (st) (by rfl) ?_
    refine hK.out _ _ ?_ (fun hHeld => ?_)
    ·(try dsimp only)
     exact fun _ => ⟨(zw _ _ _ hl0).trans (hHeld.1), (zw _ _ _ hl1).trans (hHeld.2.1), (zw _ _ _ hl2).trans (hHeld.2.2)⟩
    clear hK K
    replace hHeld := hHeld rfl
    try simp only [Act.put, p1, p2, p3, p4, p5, p6]
    refine wpAnyN_step (i := 11) (listed' := (bs 14 4095)) (by kernel_rfl) rfl (by kernel_rfl) (fun K hK => ?_)
    refine step_appI rfl _ _ (by rfl) w.heap.size (.slice A2 xs.length c2) xs (by rfl) (HR2.out.alloc _) (st) ⟨wr.heap.size, 0, none⟩ 1 (by rfl) (by exact (zm wr 3 #[.int .i64 (st)]).cell 0) hxl (by rw [World.size_alloc]; exact Nat.le_succ_of_le hzr) ?_
    intro gg cap w5 hown hgrow hor
    have z0 := (hgrow.cell_far (⟨g, 1, none⟩) (lt_al hl0 _) hne0).trans (hHeld.1)
    have zf := (hgrow.frozen_far (⟨g, 1, none⟩) (lt_al hl0 _) hne0).trans ((zx (zo _ _ _ hl0)).trans gf1)
    have HO := zh hown
    have HG := zh hgrow
    have HOR := zh hor
    clear hown hor
    refine hK.out _ _ ?_ (fun hHeld => ?_)
    ·(try dsimp only)
     exact fun _ => ⟨(hgrow.cell_far (⟨g, 1, none⟩) (lt_al hl0 _) hne0).trans (hHeld.1), (hgrow.cell_far (⟨L.b, 0, none⟩) (lt_al hl1 _) hne1).trans (hHeld.2.1), (hgrow.cell_far (⟨gt, j * 13 + 5, none⟩) (lt_al hl2 _) hne2).trans (hHeld.2.2)⟩
    clear hK K
    replace hHeld := hHeld rfl
    try simp only [Act.put, p1, p2, p3, p4, p5, p6]
    refine tk 12 (bs 14 8191) (v := ?_) ?_ ?_; rotate_left 2
    rotate_left
    iterate 1 (rotate_left; focus (intro w hSw; (try dsimp only at hSw); obtain ⟨hS0', hS1', hS2'⟩ := hSw; go_simp; with_reducible rfl))
    try simp only [Act.put, p1, p2, p3, p4, p5, p6]
    refine wpAnyN_step (i := 13) (listed' := (bs 14 16383)) (by kernel_rfl) rfl (by kernel_rfl) (fun K hK => ?_)
    refine step_storeI rfl _ _ (by rfl) (by rfl) (by rfl) z0 zf ?_
    refine hK.out _ _ ?_ (fun hHeld => ?_)
    ·exact fun h => absurd h (by decide)
    clear hK K
    try simp only [Act.put, p1, p2, p3]
    refine wpAnyN_done (by kernel_rfl) ?_ _
    clear hgrow
    have a1 := HRS.out.push2 HO.out (grown_drew HG.out) HOR.out
    clear HRS HR2 HT4 KR
    have HRS := zh a1
    clear a1 z0 zf hHeld hl0 hl1 hl2 hne0 hne1 hne2 gc1 gf1 t5 cta hneG hneL hneT hgr hLr hgtr
    generalize hwy : w5.setCell ⟨g, 1, none⟩ (.slice (some ⟨gg, 0, none⟩) (xs.length + 1) cap) = wy at *
    clear hwy
    have KR := zh (HK.out.below HRS.out.bl)
    have hzr := HRS.out.bl.size
    have cta : wy.cell? ⟨L.b, 0, none⟩ = some (.slice (some ⟨gt, 0, none⟩) r.tasks.length cT) := by rw [KR.out.cTa, HTA.out]
    have t5 : wy.cell? ⟨gt, j * 13 + 4, none⟩ = some (.int .i64 la) := by (have q := KR.out.cTask HTA.out hlt (j := 4) (by decide); rw [q, ← HLA.out]; rfl)
    have hLr : L.b < wy.heap.size := KR.out.lt
    have hgtr : gt < wy.heap.size := by (have := hgtb.out; omega)
    obtain ⟨A3, c3, e3, -, -⟩ := row_slice HRS.out.r3
    subst e3
    have gc2 : wy.cell? ⟨g, 2, none⟩ = some (.slice A3 ys.length c3) := HRS.out.wh.cell 2
    have gf2 := HRS.out.wh.frozen 2
    have hgr : g < wy.heap.size := HRS.out.wh.lt
    have HR2 := zh HRS.out.r3
    have hneG := fun e : some g = (Value.slice A3 ys.length c3).ownBlock => HRS.out.ne3 e.symm
    have hneL : some L.b ≠ (Value.slice A3 ys.length c3).ownBlock := fun e => by (have := (HRS.out.r3.lt _ e.symm).1; have := hLb.out; omega)
    have hneT : some gt ≠ (Value.slice A3 ys.length c3).ownBlock := fun e => by (have := (HRS.out.r3.lt _ e.symm).1; have := hgtb.out; omega)
    go_wp2_with fail
    have hl0 : Addr.block (⟨g, 2, none⟩) < wy.heap.size := hgr
    have hne0 := hneG
    have hl1 : Addr.block (⟨L.b, 0, none⟩) < wy.heap.size := hLr
    have hne1 := hneL
    have hl2 : Addr.block (⟨gt, j * 13 + 4, none⟩) < wy.heap.size := hgtr
    have hne2 := hneT
    refine wp_region_need (S := fun w' => w'.cell? (⟨g, 2, none⟩) = some (.slice A3 ys.length c3) ∧ w'.cell? (⟨L.b, 0, none⟩) = some (.slice (some ⟨gt, 0, none⟩) r.tasks.length cT) ∧ w'.cell? (⟨gt, j * 13 + 4, none⟩) = some (.int .i64 la)) (need := fun i => i != 13) 14 (bs 14 0) (by kernel_rfl) (by kernel_rfl) (by kernel_rfl) ?_ (fun hHeld => ?_)
    ·(try dsimp only)
     exact ⟨gc2, cta, t5⟩
    refine tk 0 (bs 14 1) (v := ?_) ?_ ?_; rotate_left 2
    refine tk 1 (bs 14 3) (v := ?_) ?_ ?_; rotate_left 2
    refine tk 2 (bs 14 7) (v := ?_) ?_ ?_; rotate_left 2
    refine tk 3 (bs 14 15) (v := ?_) ?_ ?_; rotate_left 2
    refine tk 4 (bs 14 31) (v := ?_) ?_ ?_; rotate_left 2
    refine tk 5 (bs 14 63) (v := ?_) ?_ ?_; rotate_left 2
    refine tk 6 (bs 14 127) (v := ?_) ?_ ?_; rotate_left 2
    refine tk 7 (bs 14 255) (v := ?_) ?_ ?_; rotate_left 2
    refine tk 8 (bs 14 511) (v := ?_) ?_ ?_; rotate_left 2
    refine tk 9 (bs 14 1023) (v := ?_) ?_ ?_; rotate_left 2
    rotate_left
    iterate 10 (rotate_left; focus (intro w hSw; (try dsimp only at hSw); obtain ⟨hS0', hS1', hS2'⟩ := hSw; go_simp; with_reducible rfl))
    try simp only [Act.put, p1, p2, p3, p4, p5, p6]
    refine wpAnyN_step (i := 10) (listed' := (bs 14 2047)) (by kernel_rfl) rfl (by kernel_rfl) (fun K hK => ?_)
    refine step_bsI rfl _ (by rfl) (la) (by rfl) ?_
    refine hK.out _ _ ?_ (fun hHeld => ?_)
    ·(try dsimp only)
     exact fun _ => ⟨(zw _ _ _ hl0).trans (hHeld.1), (zw _ _ _ hl1).trans (hHeld.2.1), (zw _ _ _ hl2).trans (hHeld.2.2)⟩
    clear hK K
    replace hHeld := hHeld rfl
    try simp only [Act.put, p1, p2, p3, p4, p5, p6]
    refine wpAnyN_step (i := 11) (listed' := (bs 14 4095)) (by kernel_rfl) rfl (by kernel_rfl) (fun K hK => ?_)
    refine step_appI rfl _ _ (by rfl) w.heap.size (.slice A3 ys.length c3) ys (by rfl) (HR2.out.alloc _) (la) ⟨wy.heap.size, 0, none⟩ 1 (by rfl) (by exact (zm wy 3 #[.int .i64 (la)]).cell 0) hyl (by rw [World.size_alloc]; exact Nat.le_succ_of_le hzr) ?_
    intro gg cap w5 hown hgrow hor
    have z0 := (hgrow.cell_far (⟨g, 2, none⟩) (lt_al hl0 _) hne0).trans (hHeld.1)
    have zf := (hgrow.frozen_far (⟨g, 2, none⟩) (lt_al hl0 _) hne0).trans ((zx (zo _ _ _ hl0)).trans gf2)
    have HO := zh hown
    have HG := zh hgrow
    have HOR := zh hor
    clear hown hor
    refine hK.out _ _ ?_ (fun hHeld => ?_)
    ·(try dsimp only)
     exact fun _ => ⟨(hgrow.cell_far (⟨g, 2, none⟩) (lt_al hl0 _) hne0).trans (hHeld.1), (hgrow.cell_far (⟨L.b, 0, none⟩) (lt_al hl1 _) hne1).trans (hHeld.2.1), (hgrow.cell_far (⟨gt, j * 13 + 4, none⟩) (lt_al hl2 _) hne2).trans (hHeld.2.2)⟩
    clear hK K
    replace hHeld := hHeld rfl
    try simp only [Act.put, p1, p2, p3, p4, p5, p6]
    refine tk 12 (bs 14 8191) (v := ?_) ?_ ?_; rotate_left 2
    rotate_left
    iterate 1 (rotate_left; focus (intro w hSw; (try dsimp only at hSw); obtain ⟨hS0', hS1', hS2'⟩ := hSw; go_simp; with_reducible rfl))
    try simp only [Act.put, p1, p2, p3, p4, p5, p6]
    refine wpAnyN_step (i := 13) (listed' := (bs 14 16383)) (by kernel_rfl) rfl (by kernel_rfl) (fun K hK => ?_)
    refine step_storeI rfl _ _ (by rfl) (by rfl) (by rfl) z0 zf ?_
    refine hK.out _ _ ?_ (fun hHeld => ?_)
    ·exact fun h => absurd h (by decide)
    clear hK K
    try simp only [Act.put, p1, p2, p3]
    refine wpAnyN_done (by kernel_rfl) ?_ _
    clear hgrow
    have a1 := HRS.out.push3 HO.out (grown_drew HG.out) HOR.out
    have RS2 := zh a1
    clear a1 z0 zf hHeld hl0 hl1 hl2 hne0 hne1 hne2 gc2 gf2 t5 cta hneG hneL hneT HR2 hgr hLr hgtr
    go_wp2_with fail
    go_roundg (r.tasks.length - (j + 1))
    case measure => omega
    case rel => exact ⟨j + 1, _, _, by omega, by go_num, by rw [E2.out, E3.out]; exact RS2.out, zl _⟩
   ·have hge : ¬ (j : Int) < r.tasks.length := by omega
    have hjl : j = r.tasks.length := by omega
    subst hjl
    have HF : Hid (RS w wr g (.slice A1 r.out.length c1) V2 V3 r.out (r.tasks.map (·.state)) (r.tasks.map (·.last)) r.ticks r.ops) := by
     show RS _ _ _ _ _ _ _ _ _ _ _
     have q := HRS.out
     rw [List.take_of_length_le (by simp), List.take_of_length_le (by simp)] at q
     exact q
    obtain ⟨A2, c2, e2, -, -⟩ := row_slice HF.out.r2
    obtain ⟨A3, c3, e3, -, -⟩ := row_slice HF.out.r3
    rw [List.length_map] at e2 e3
    subst e2 e3
    have g0 := HF.out.wh.cell 0
    have g1 := HF.out.wh.cell 1
    have g2 := HF.out.wh.cell 2
    have g3 := HF.out.wh.cell 3
    have g4 := HF.out.wh.cell 4
    have s0 := HF.out.rb.cell 0
    have s1 := HF.out.rb.cell 1
    have s2 := HF.out.rb.cell 2
    have s3 := HF.out.rb.cell 3
    have s4 := HF.out.rb.cell 4
    have f0 := HF.out.rb.frozen 0
    have f1 := HF.out.rb.frozen 1
    have f2 := HF.out.rb.frozen 2
    have f3 := HF.out.rb.frozen 3
    have f4 := HF.out.rb.frozen 4
    simp at g0 g1 g2 g3 g4 s0 s1 s2 s3 s4
    have hfw := ((((HF.out.rb.put 0 (.slice A1 r.out.length c1)).put 1 (.slice A2 r.tasks.length c2)).put 2 (.slice A3 r.tasks.length c3)).put 3 (.int .i64 r.ticks)).put 4 (.int .i64 r.ops)
    have HFW := zh hfw
    clear hfw HRS
    go_wp2_with fail
    refine bodyPost_ret (v := .agg #[.slice A1 r.out.length c1, .slice A2 r.tasks.length c2, .slice A3 r.tasks.length c3, .int .i64 r.ticks, .int .i64 r.ops]) (results_cell_row rfl _ _ w.heap.size 36 _ (0, 0) _ rfl HFW.out Try.underlying36 rfl (by kernel_rfl)) rfl ⟨A1, c1, A2, c2, A3, c3, rfl, ?_, ?_, ?_, ?_⟩
    ·have nb : (Value.slice A1 r.out.length c1).ownBlock ≠ some w.heap.size := row_whole_ne HF.out.r1 HF.out.rb (by decide)
     exact ownsRow_setCell_other (ownsRow_setCell_other (ownsRow_setCell_other (ownsRow_setCell_other (ownsRow_setCell_other HF.out.r1 (a := ⟨w.heap.size, 0, none⟩) nb _) (a := ⟨w.heap.size, 1, none⟩) nb _) (a := ⟨w.heap.size, 2, none⟩) nb _) (a := ⟨w.heap.size, 3, none⟩) nb _) (a := ⟨w.heap.size, 4, none⟩) nb _
    ·have nb := HF.out.nb2
     have q := ownsRow_setCell_other (ownsRow_setCell_other (ownsRow_setCell_other (ownsRow_setCell_other (ownsRow_setCell_other HF.out.r2 (a := ⟨w.heap.size, 0, none⟩) nb (.slice A1 r.out.length c1)) (a := ⟨w.heap.size, 1, none⟩) nb (.slice A2 r.tasks.length c2)) (a := ⟨w.heap.size, 2, none⟩) nb (.slice A3 r.tasks.length c3)) (a := ⟨w.heap.size, 3, none⟩) nb (.int .i64 r.ticks)) (a := ⟨w.heap.size, 4, none⟩) nb (.int .i64 r.ops)
     first
     | exact q
     | (rw [List.length_map] at q; exact q)
     | (rw [List.length_map]; rw [List.length_map] at q; exact q)
    ·have nb := HF.out.nb3
     have q := ownsRow_setCell_other (ownsRow_setCell_other (ownsRow_setCell_other (ownsRow_setCell_other (ownsRow_setCell_other HF.out.r3 (a := ⟨w.heap.size, 0, none⟩) nb (.slice A1 r.out.length c1)) (a := ⟨w.heap.size, 1, none⟩) nb (.slice A2 r.tasks.length c2)) (a := ⟨w.heap.size, 2, none⟩) nb (.slice A3 r.tasks.length c3)) (a := ⟨w.heap.size, 3, none⟩) nb (.int .i64 r.ticks)) (a := ⟨w.heap.size, 4, none⟩) nb (.int .i64 r.ops)
     first
     | exact q
     | (rw [List.length_map] at q; exact q)
     | (rw [List.length_map]; rw [List.length_map] at q; exact q)
    ·exact ((((HF.out.bl.setCell (p := ⟨w.heap.size, 0, none⟩) (zl _) _).setCell (p := ⟨w.heap.size, 1, none⟩) (zl _) _).setCell (p := ⟨w.heap.size, 2, none⟩) (zl _) _).setCell (p := ⟨w.heap.size, 3, none⟩) (zl _) _).setCell (p := ⟨w.heap.size, 4, none⟩) (zl _) _
end Rk
end Go.Proofs.Ytncbgnpoffolcaa
namespace Go.Proofs.Ytncbgnpoffolcaa
namespace Rk
theorem getD_mod {l : List (List Int)} {q p : Nat} {f : List Int → List Int} (hp : p < l.length) : (l.modify q f).getD p [] = if q = p then f (l.getD p []) else l.getD p [] := by
 rw [zd, List.getElem?_modify, zd, List.getElem?_eq_getElem hp]
 by_cases e : q = p <;> simp [e]
theorem getD_far {l : List (List Int)} {q p : Nat} {f : List Int → List Int} (hp : q ≠ p) : (l.modify q f).getD p [] = l.getD p [] := by
 rw [zd, List.getElem?_modify, zd]
 simp [hp]
theorem rows_same : ∀ (l : List Kn.Task) (i : Nat) (a b : List (List Int)) (p : Nat), p < a.length → p < b.length → a.getD p [] = b.getD p [] → (rowsOf l i a).getD p [] = (Kn.rowsOf l i b).getD p []
 | [], _, _, _, _, _, _, h => h
 | x :: l, i, a, b, p, ha, hb, h => by
   show (rowsOf l (i + 1) _).getD p [] = (Kn.rowsOf l (i + 1) _).getD p []
   refine rows_same l (i + 1) _ _ p (by simpa using ha) (by simpa using hb) ?_
   rw [getD_mod ha, getD_mod hb, h]
theorem rows_far : ∀ (l : List Kn.Task) (i : Nat) (a : List (List Int)) (p : Nat), (∀ x ∈ l, x.prio.toNat ≠ p) → (rowsOf l i a).getD p [] = a.getD p []
 | [], _, _, _, _ => rfl
 | x :: l, i, a, p, h => by
   show (rowsOf l (i + 1) _).getD p [] = _
   rw [rows_far l (i + 1) _ p (fun y hy => h y (.tail _ hy)), getD_far (h x (.head _))]
theorem krows_far : ∀ (l : List Kn.Task) (i : Nat) (a : List (List Int)) (p : Nat), (∀ x ∈ l, x.prio.toNat ≠ p) → (Kn.rowsOf l i a).getD p [] = a.getD p []
 | [], _, _, _, _ => rfl
 | x :: l, i, a, p, h => by
   show (Kn.rowsOf l (i + 1) _).getD p [] = _
   rw [krows_far l (i + 1) _ p (fun y hy => h y (.tail _ hy)), getD_far (h x (.head _))]
theorem rows_lens : ∀ (l : List Kn.Task) (i : Nat) (a : List (List Int)), (rowsOf l i a).length = a.length
 | [], _, _ => rfl
 | x :: l, i, a => by
   show (rowsOf l (i + 1) _).length = _
   rw [rows_lens l (i + 1)]
   simp
theorem nil_of (n p : Nat) : (List.replicate n ([] : List Int)).getD p [] = [] := by
 rw [zd, List.getElem?_replicate]
 split <;> rfl
theorem begin_rel {t : Kn.Table} (hf : t.fits = true) : Rel (fun _ => 0) (Kn.begin t) (begin t) := by
 have hp : ∀ x ∈ t.tasks, x.prio.toNat < 32 := fun x hx => by have := task_of_fits hf hx; omega
 have hi : ∀ i, i < (Kn.begin t).tasks.length → ∃ x, (Kn.begin t).ti i = newT x ∧ (begin t).ti i = mkT x := fun i hi => by
  have hl : i < t.tasks.length := by simpa [Kn.begin] using hi
  refine ⟨t.tasks[i], ?_, ?_⟩
  ·rw [Kn.ti_get hi]
   simp [Kn.begin, newT]
  ·rw [ti_get' (by simpa [begin] using hl)]
   simp [begin, mkT]
 refine ⟨by simp [begin, Kn.begin], fun i h => ?_, ?_, fun p h => ?_, fun i h => ?_, rfl, rfl, rfl, rfl, rfl, rfl, fun i h => ?_, fun x _ h2 => ?_⟩
 ·obtain ⟨x, e1, e2⟩ := hi i h
  rw [e1, e2]
  exact ⟨rfl, rfl, rfl, rfl, rfl, rfl, rfl, fun e => absurd (show (0 : Int) = 1 from e) (by decide), fun e => absurd (show (0 : Int) = 1 from e) (by decide), fun _ => rfl, fun e => absurd (show (0 : Int) = 1 from e) (by decide)⟩
 ·show (rowsOf t.tasks 0 (List.replicate 40 [])).length = 40
  rw [rows_lens]; rfl
 ·exact rows_same t.tasks 0 _ _ p (by simp; omega) (by simp; omega) (by rw [nil_of, nil_of])
 ·show (rowsOf t.tasks 0 (List.replicate 40 [])).getD (32 + i) [] = (Kn.rowsOf t.tasks 0 (List.replicate 72 [])).getD (48 + i) []
  rw [rows_far _ _ _ _ (fun x hx => by have := hp x hx; omega), krows_far _ _ _ _ (fun x hx => by have := hp x hx; omega), nil_of, nil_of]
 ·obtain ⟨x, _, e2⟩ := hi i h
  rw [e2]
  exact zl _
 ·have e : (Kn.begin t).l x = [] := by
   show (Kn.rowsOf t.tasks 0 (List.replicate 72 [])).getD x [] = []
   rw [krows_far _ _ _ _ (fun y hy => by have := hp y hy; omega), nil_of]
  rw [e]
  exact List.Pairwise.nil
theorem begin_up {t : Kn.Table} (hf : t.fits = true) (ticks ops : Nat) : Up ticks ops (ticks + ops + t.tasks.length + 1) (begin t) (Kn.begin t) (begin t) (ticks + ops + t.tasks.length + 1) :=
 ⟨begin_rel hf, Kn.begin_ok hf, by have := (Kn.Table.fits_parts hf).1; rw [Kn.begin_len]; omega, Nat.zero_le _, Nat.zero_le _, zl _, zl _, rfl, Kn.begin_rest t ticks ops⟩
theorem runT_rel {t : Kn.Table} (hf : t.fits = true) (ticks ops : Nat) : ∃ τ, Rel τ (Kn.runT t ticks ops) (runT t ticks ops) := (begin_rel hf).run ticks ops _ _ _ (Kn.begin_ok hf)
end Rk
end Go.Proofs.Ytncbgnpoffolcaa
