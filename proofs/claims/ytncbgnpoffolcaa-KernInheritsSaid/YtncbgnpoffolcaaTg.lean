/-
  A table that a literal made, to which a law appends tasks.
-/
import Derived.Test.YtncbgnpoffolcaaOq
namespace Go.Proofs.Ytncbgnpoffolcaa
open Go.RowKit
structure TG (w0 : World) (b B : Nat) (W : World) (V V2 V3 : Value) (mu : Int) (l : List (Kn.Task × Option Addr × Nat)) : Prop where
  blk : Whole W b 26 #[V, V2, .int .i64 mu, V3]
  row : W.ownsRow B 29 2 V l.length (tkC l)
  ops : ∀ x ∈ l, OpsLie W x
  bel : Below w0.heap.size w0 W
  hB : w0.heap.size ≤ B
  hb : w0.heap.size ≤ b
section
variable {w0 W W' w5 : World} {b B : Nat} {V V' V2 V3 : Value} {mu : Int} {l : List (Kn.Task × Option Addr × Nat)} {x : Kn.Task × Option Addr × Nat}
theorem TG.keep (h : TG w0 b B W V V2 V3 mu l) (hb : Below W.heap.size W W') : TG w0 b B W' V V2 V3 mu l :=
  ⟨h.blk.same (hb.block _ h.blk.lt), row_same h.row fun k hk => hb.block k (h.row.lt k hk).2, fun x hx => (h.ops x hx).below hb, h.bel.trans (hb.mono h.bel.size), h.hB, h.hb⟩
theorem TG.push (h : TG w0 b B W V V2 V3 mu l) (hx : OpsLie W x) (hown : w5.ownsRow B 29 2 V' (l.length + 1) (tkC l ++ [.int .i64 x.1.prio, .slice x.2.1 x.1.ops.length x.2.2])) (hgrow : W.grownBy w5 V.ownBlock) :
    TG w0 b B (w5.setCell ⟨b, 0, none⟩ V') V' V2 V3 mu (l ++ [x]) := by
  have hne : V.ownBlock ≠ some b := own_block h.row h.blk (by decide)
  have h5 := h.blk.grown hgrow hne
  have ho : ∀ y, OpsLie W y → OpsLie (w5.setCell ⟨b, 0, none⟩ V') y := fun y hy => ⟨hy.1, hy.2.imp id fun ⟨g, cur, e, hw, ht⟩ =>
    ⟨g, cur, e, (hw.grown hgrow (own_block h.row hw (by decide))).far (hw.kind h.blk (by decide)) V', ht⟩⟩
  refine ⟨h5.put 0 V', ?_, fun y hy => ?_, ?_, h.hB, h.hb⟩
  · have e : tkC (l ++ [x]) = tkC l ++ [.int .i64 x.1.prio, .slice x.2.1 x.1.ops.length x.2.2] := by
      unfold tkC
      rw [List.flatMap_append]
      rfl
    rw [e, List.length_append, List.length_singleton]
    exact row_same hown fun k hk => Below.heap_setCell _ _ _ _ (fun q => own_block hown h5 (by decide) (by rw [hk]; exact congrArg some q))
  · rcases List.mem_append.1 hy with hy | hy
    · exact ho y (h.ops y hy)
    · rw [List.mem_singleton] at hy
      subst hy
      exact ho _ hx
  · exact (h.bel.grown hgrow h.bel.size (fun k hk => by have := (h.row.lt k hk).1; have := h.hB; omega)).setCell (p := ⟨b, 0, none⟩) h.hb V'
theorem TG.tab {A A2 A3 : Option Addr} {n c : Nat} {t : Kn.Table} (h : TG w0 b B W (.slice A n c) V2 V3 mu l) (ht : t.tasks = l.map (·.1)) (hs : Reads W W.heap.size 1 A2 t.sems.length (intV t.sems)) (hq : Reads W W.heap.size 1 A3 t.queues.length (intV t.queues))
    (l1 : l.length ≤ 1000) (l2 : t.sems.length ≤ 1000) (l3 : t.queues.length ≤ 1000) : TabRd W W.heap.size A A2 A3 t ∧ n = l.length := by
  have hm : (1000 : Nat) ≤ maxLen := by unfold maxLen; omega
  have hn : n = l.length := by
    rcases h.row.2 with ⟨e, e2⟩ | ⟨g, cap, cur, e, _⟩
    · injection e with _ e _
      have e2 : l.length = 0 := e2
      omega
    · injection e with _ e _
  subst hn
  exact ⟨TabRd.of_rows (l := l) (Reads.of_own h.row) ht (fun x hx => (h.ops x hx).reads) hs hq (Nat.le_trans l1 hm) (Nat.le_trans l2 hm) (Nat.le_trans l3 hm), rfl⟩
/-- Out of blocks that are whole. -/
theorem TG.of_whole {gT : Nat} {mu : Int} {l : List (Kn.Task × Option Addr × Nat)} (hw : Whole W b 26 #[.slice (some ⟨gT, 0, none⟩) l.length l.length, V2, .int .i64 mu, V3]) (hT : Whole W gT 29 (tkC l).toArray) (hl : l.length ≤ 1000) (ho : ∀ x ∈ l, OpsLie W x) (hbel : Below w0.heap.size w0 W) (hB : w0.heap.size ≤ gT) (hb : w0.heap.size ≤ b) :
    TG w0 b gT W (.slice (some ⟨gT, 0, none⟩) l.length l.length) V2 V3 mu l :=
  ⟨hw, ⟨tkC_len l, .inr ⟨gT, l.length, _, rfl, Nat.le_refl _, hT, Nat.le_refl _, by unfold maxLen; omega, by rw [List.size_toArray, tkC_len], by rw [← tkC_len]; simp⟩⟩, ho, hbel, hB, hb⟩
end
end Go.Proofs.Ytncbgnpoffolcaa
