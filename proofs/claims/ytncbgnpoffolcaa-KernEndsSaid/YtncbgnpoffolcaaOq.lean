/-
  Two tasks whose operations a law appends: their rows lie apart.
-/
import Derived.Test.YtncbgnpoffolcaaOl
namespace Go.Proofs.Ytncbgnpoffolcaa
open Go.RowKit
theorem disj_next {W : World} {V V2 pr2 : Value} {b2 N2 gg H c n : Nat} {l2 : List Kn.Op} (hd : ∀ k, V2.ownBlock = some k → V.ownBlock ≠ some k) (hq : OL W b2 N2 pr2 V2 l2) (hH : W.heap.size = H) (hat : V.ownBlock = some gg ∨ gg = H) :
    ∀ k, V2.ownBlock = some k → (Value.slice (some ⟨gg, 0, none⟩) n c).ownBlock ≠ some k := by
  intro k hk e
  have e : gg = k := by simpa [Value.ownBlock] using e
  subst e
  rcases hat with h | h
  · exact hd _ hk h
  · have := (hq.row.lt _ hk).2
    omega
theorem disj_symm {V V2 : Value} (hd : ∀ k, V2.ownBlock = some k → V.ownBlock ≠ some k) : ∀ k, V.ownBlock = some k → V2.ownBlock ≠ some k := fun k hk e => hd k e hk
theorem info32' : (Try.prog.info? 32).map (fun i => (i.zero, i.size, i.bytes)) = some (some (.agg #[.int .i64 0, .int .i64 0, .int .i64 0]), 3, 24) := by kernel_rfl
theorem OL.far {W : World} {b b2 N2 i : Nat} {pr2 V2 u : Value} {l2 : List Kn.Op} {cs : Array Value} (h : OL W b2 N2 pr2 V2 l2) (hx : Whole W b 29 cs) (hb : b2 ≠ b) : OL (W.setCell ⟨b, i, none⟩ u) b2 N2 pr2 V2 l2 :=
  ⟨h.blk.far hb u, row_same h.row fun k hk => Below.heap_setCell _ _ _ _ (fun q => own_block h.row hx (by decide) (by rw [hk]; exact congrArg some q))⟩
theorem OpsLie.reads {W : World} {x : Kn.Task × Option Addr × Nat} (h : OpsLie W x) : Reads W W.heap.size 3 x.2.1 x.1.ops.length (opsC x.1.ops) ∧ x.1.ops.length ≤ maxLen := by
  obtain ⟨h1, h2⟩ := h
  refine ⟨?_, Nat.le_trans h1 (by unfold maxLen; omega)⟩
  rcases h2 with h2 | ⟨g, cur, e, hg, ht⟩
  · rw [h2]
    exact Reads.nil _
  · rw [e]
    refine ⟨opsC_len3 _, fun _ => ⟨_, rfl, hg.lt, fun j u hj => ?_⟩⟩
    rw [Addr.add_lit, Nat.zero_add, hg.cell j]
    rw [← ht] at hj
    have hlt := (List.getElem?_eq_some_iff.1 hj).1
    rw [List.length_take] at hlt
    rw [List.getElem?_take_of_lt (by omega)] at hj
    simpa using hj
end Go.Proofs.Ytncbgnpoffolcaa
