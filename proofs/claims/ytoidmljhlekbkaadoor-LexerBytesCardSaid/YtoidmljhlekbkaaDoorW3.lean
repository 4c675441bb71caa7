/-
  The walk of the lexer's put: a token more.
-/
import Derived.Test.YtoidmljhlekbkaaDoorW2
import Derived.Deep.AppendLies
import Derived.Deep.RegionLaw
import Derived.Deep.RegionHeld3
namespace Go.Proofs.YtoidmljhlekbkaaDoor
open Go.RowKit
theorem info28 : (Tryd.prog.info? 28).map (fun i => (i.zero, i.size, i.bytes)) = some (some (.agg #[.int .i64 0, .string ByteArray.empty, .int .i64 0, .int .i64 0, .int .i64 0]), 5, 48) := by kernel_rfl
section
variable {w : World} {B T p : Nat} {s : ByteArray} {x : Lx.St} {L O : Value} {D : Option Addr}
set_option maxHeartbeats 1000000 in
theorem put_any (kind n a b : Int) (text : List UInt8) (h : Lex w B T p s x L O D) (hn : x.out.length ≤ 65536) :
    Calls Tryd.prog 20 #[.pointer (some ⟨p, 0, none⟩), .int .i64 kind, .string ⟨text.toArray⟩, .int .i64 n, .agg #[.int .i64 a, .int .i64 b]] w
      fun e w' => e = .returned (.tuple #[]) ∧ ∃ O', Lex w' B w'.heap.size p s (x.put kind text n a b) L O' D ∧ Below B w w' := by
  have c5 := h.cell 5
  have fz := h.frozen 5
  have hp := h.lt
  simp at c5
  have hBw : B ≤ w.heap.size := by have := h.hB; omega
  have hne := row_whole_ne h.toks h.blk (by decide)
  obtain ⟨i0, hi, hz0, hz1, hz2⟩ := info_parts info28
  go_enter Tryd.func20, Tryd.ntmps20
  go_wp2
  go_region_law (first | (refine step_append_lies _ (by rfl) _ _ _ (by rfl) B 28 i0 _ 5 48 Tryd.underlying23 hi hz0 hz1 hz2 rfl (by omega) O x.out.length (toksCells x.out) (by rfl) (((h.toks.alloc _).alloc _).drew) ⟨w.heap.size + 1, 0, none⟩ 1 1 [.int .i64 kind, .string ⟨text.toArray⟩, .int .i64 n, .int .i64 a, .int .i64 b] (by rfl) (by rfl) (World.news_of_block (cs := #[.int .i64 kind, .string ⟨text.toArray⟩, .int .i64 n, .int .i64 a, .int .i64 b]) (t := 28) (fr := (0, 0)) (alloc2_new _ _ _)) (by simp [Value.oneCell']) (by omega) (by unfold maxLen; omega) (by omega) (by simp; omega) (w.heap.size + 2) (by simp) ?_; intro gg cap w1 hown1 hgrow hat hlt1; have b1 := Whole.grown ((h.blk.alloc _).alloc _).drew hgrow hne; have k5 := b1.cell 5; have f5 := b1.frozen 5; simp at k5))
  all_goals
    go_wp2
    go_end0
    refine ⟨rfl, .slice (some ⟨gg, 0, none⟩) (x.out.length + 1) cap, h.outs rfl rfl ?_ ?_ (b1.put 5 _) ?_⟩
    · exact (((((Below.refl B w).alloc hBw _).alloc (by simp; omega) _).drew).grown hgrow (by simp; omega) (fun k hk => (h.toks.lt k hk).1)).setCell h.hB _
    · intro k hk h1 h2
      have h3 := h.hT
      rw [Below.heap_setCell _ _ _ _ h1, hgrow.block k (by simp; omega) (fun e => h2 e.symm)]
      exact (Below.heap_alloc _ _ _ (by simp; omega)).trans (Below.heap_alloc _ _ _ (by omega))
    · have hr := row_same (w' := w1.setCell ⟨p, 5, none⟩ (.slice (some ⟨gg, 0, none⟩) (x.out.length + 1) cap)) hown1 fun k hk => Below.heap_setCell _ _ _ _ fun e => row_whole_ne hown1 b1 (by decide) (by rw [hk, e])
      simpa [Lx.St.put, toksCells, tokCells] using hr
end
end Go.Proofs.YtoidmljhlekbkaaDoor
