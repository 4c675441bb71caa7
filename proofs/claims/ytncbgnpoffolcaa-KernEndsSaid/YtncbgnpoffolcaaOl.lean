/-
  A task whose operations a law appends one by one.
-/
import Derived.Test.YtncbgnpoffolcaaTl
namespace Go.Proofs.Ytncbgnpoffolcaa
open Go.RowKit
structure OL (W : World) (b N : Nat) (pr V : Value) (l : List Kn.Op) : Prop where
  blk : Whole W b 29 #[pr, V]
  row : W.ownsRow N 32 3 V l.length (opsC l)
section
variable {W W' w5 w1 : World} {b b2 N N2 : Nat} {pr pr2 V V' V2 : Value} {l l2 m : List Kn.Op}
theorem OL.start (h : Whole W b 29 #[pr, .slice none 0 0]) : OL W b N pr (.slice none 0 0) [] := ⟨h, World.ownsRow_nil _ _ _ _⟩
theorem OL.keep (h : OL W b N pr V l) (hb : Below W.heap.size W W') : OL W' b N pr V l :=
  ⟨h.blk.same (hb.block _ h.blk.lt), row_same h.row fun k hk => hb.block k (h.row.lt k hk).2⟩
theorem OL.shape (h : OL W b N pr V l) : ∃ A c, V = .slice A l.length c := by
  rcases h.row.2 with ⟨e, e2⟩ | ⟨g, cap, cur, e, _⟩
  · exact ⟨none, 0, by rw [e, e2]⟩
  · exact ⟨_, _, e⟩
theorem opsC_app (l m : List Kn.Op) : opsC (l ++ m) = opsC l ++ opsC m := by
  unfold opsC
  rw [List.flatMap_append]
theorem OL.push (h : OL W b N pr V l) (hown : w5.ownsRow N 32 3 V' (l.length + m.length) (opsC l ++ opsC m)) (hgrow : W.grownBy w5 V.ownBlock) : OL (w5.setCell ⟨b, 1, none⟩ V') b N pr V' (l ++ m) := by
  have h5 := h.blk.grown hgrow (own_block h.row h.blk (by decide))
  refine ⟨h5.put 1 V', ?_⟩
  rw [opsC_app, List.length_append]
  exact row_same hown fun k hk => Below.heap_setCell _ _ _ _ (fun q => own_block hown h5 (by decide) (by rw [hk]; exact congrArg some q))
/-- Another one stays. -/
theorem OL.other (h : OL W b2 N2 pr2 V2 l2) (hx : Whole W b 29 #[pr, V]) (hrow : W.ownsRow N 32 3 V l.length (opsC l)) (hgrow : W.grownBy w5 V.ownBlock) (hne : ∀ k, V2.ownBlock = some k → V.ownBlock ≠ some k) (hb : b2 ≠ b) (u : Value) (i : Nat) : OL (w5.setCell ⟨b, i, none⟩ u) b2 N2 pr2 V2 l2 := by
  refine ⟨(h.blk.grown hgrow (own_block hrow h.blk (by decide))).far hb u, ?_⟩
  refine row_same h.row fun k hk => ?_
  have hlt := (h.row.lt k hk).2
  have hkb : k ≠ b := fun q => own_block h.row hx (by decide) (by rw [hk, q])
  exact (Below.heap_setCell _ _ _ _ hkb).trans (hgrow.block k hlt fun q => hne k hk q.symm)
theorem bel_push {B i : Nat} (h : Below B w1 W) (hgrow : W.grownBy w5 V.ownBlock) (hB : B ≤ w1.heap.size) (hr : ∀ k, V.ownBlock = some k → B ≤ k) (hb : B ≤ b) (u : Value) : Below B w1 (w5.setCell ⟨b, i, none⟩ u) :=
  (h.grown hgrow (Nat.le_trans hB h.size) hr).setCell (p := ⟨b, i, none⟩) hb u
/-- Its priority is turned. -/
theorem OL.prio (h : OL W b N pr V l) (p : Value) : OL (W.setCell ⟨b, 0, none⟩ p) b N p V l :=
  ⟨h.blk.put 0 p, row_same h.row fun k hk => Below.heap_setCell _ _ _ _ (fun q => own_block h.row h.blk (by decide) (by rw [hk]; exact congrArg some q))⟩
theorem OL.opsLie {p : Int} {A : Option Addr} {c : Nat} (h : OL W b N pr (.slice A l.length c) l) (h1 : l.length ≤ 1000) : OpsLie W (⟨p, l⟩, A, c) := .of_own h1 h.row
end
end Go.Proofs.Ytncbgnpoffolcaa
