/-
  A table whose tasks a law appends one by one.
-/
import Derived.Test.YtncbgnpoffolcaaAlv
import Derived.Test.YtncbgnpoffolcaaVw
import Derived.Deep.AppendLies
import Derived.Deep.RegionHeld3
import Derived.Deep.LoopGhost
import Derived.Laws.OwnMore
namespace Go.Proofs.Ytncbgnpoffolcaa
open Go.RowKit
theorem info29 : (Try.prog.info? 29).map (fun i => (i.zero, i.size, i.bytes)) = some (some (.agg #[.int .i64 0, .slice none 0 0]), 2, 32) := by kernel_rfl
theorem Reads.intAt' {w : World} {B : Nat} {A : Option Addr} {n : Nat} {l : List Int} (h : Reads w B 1 A n (intV l)) (hn : n = l.length) {k : Nat} (hk : k < l.length) : ∃ ad, A = some ad ∧ ad.block < B ∧ w.cell? (ad.add k) = some (.int .i64 l[k]) := by
  subst hn
  exact h.intAt hk
/-- What a task's operations lie in. -/
def OpsLie (W : World) (x : Kn.Task × Option Addr × Nat) : Prop := x.1.ops.length ≤ 1000 ∧ (x.1.ops = [] ∨ ∃ g cur, x.2.1 = some ⟨g, 0, none⟩ ∧ Whole W g 32 cur ∧ cur.toList.take (x.1.ops.length * 3) = opsC x.1.ops)
theorem opsC_len3 (l : List Kn.Op) : (opsC l).length = l.length * 3 := flat_len (f := opC) (n := 3) (fun _ => rfl) l
theorem OpsLie.of_whole {W : World} {x : Kn.Task × Option Addr × Nat} {g : Nat} (h1 : x.1.ops.length ≤ 1000) (e : x.2.1 = some ⟨g, 0, none⟩) (h : Whole W g 32 (opsC x.1.ops).toArray) : OpsLie W x :=
  ⟨h1, .inr ⟨g, _, e, h, by rw [← opsC_len3]; simp⟩⟩
theorem OpsLie.of_own {W : World} {p : Int} {ops : List Kn.Op} {A : Option Addr} {n c B : Nat} (h1 : ops.length ≤ 1000) (h : W.ownsRow B 32 3 (.slice A n c) ops.length (opsC ops)) : OpsLie W (⟨p, ops⟩, A, c) := by
  refine ⟨h1, ?_⟩
  rcases h.2 with ⟨e, e2⟩ | ⟨g, cap, cur, e, _, hg, _, _, _, ht⟩
  · exact .inl (List.eq_nil_of_length_eq_zero e2)
  · injection e with e _ _
    exact .inr ⟨g, cur, e, hg, ht⟩
structure TL (w1 W : World) (V V2 V3 : Value) (mu : Int) (l : List (Kn.Task × Option Addr × Nat)) : Prop where
  blk : Whole W w1.heap.size 26 #[V, V2, .int .i64 mu, V3]
  row : W.ownsRow (w1.heap.size + 1) 29 2 V l.length (tkC l)
  ops : ∀ x ∈ l, OpsLie W x
  bel : Below w1.heap.size w1 W
section
variable {w1 W W' w5 : World} {V V' V2 V3 : Value} {mu : Int} {l : List (Kn.Task × Option Addr × Nat)} {x : Kn.Task × Option Addr × Nat}
theorem OpsLie.below (h : OpsLie W x) (hb : Below W.heap.size W W') : OpsLie W' x :=
  ⟨h.1, h.2.imp id fun ⟨g, cur, e, hw, ht⟩ => ⟨g, cur, e, hw.same (hb.block _ hw.lt), ht⟩⟩
theorem TL.nil (w1 : World) (V2 V3 : Value) (mu : Int) : TL w1 (w1.alloc (.cells #[.slice none 0 0, V2, .int .i64 mu, V3] 26)) (.slice none 0 0) V2 V3 mu [] :=
  ⟨Whole.made w1 26 _, World.ownsRow_nil _ _ _ _, fun _ h => (by cases h), (Below.refl _ _).alloc (Nat.le_refl _) _⟩
theorem TL.keep (h : TL w1 W V V2 V3 mu l) (hb : Below W.heap.size W W') : TL w1 W' V V2 V3 mu l :=
  ⟨h.blk.same (hb.block _ h.blk.lt), row_same h.row fun k hk => hb.block k (h.row.lt k hk).2, fun x hx => (h.ops x hx).below hb, h.bel.trans (hb.mono h.bel.size)⟩
/-- Whose block it is. -/
theorem own_block {e : TypeId} {B size n : Nat} {v : Value} {xs : List Value} (h : W.ownsRow B e size v n xs) {g t : Nat} {cs : Array Value} (hw : Whole W g t cs) (hne : e ≠ t) : v.ownBlock ≠ some g := by
  intro hk
  rcases h.2 with ⟨rfl, _⟩ | ⟨g1, cap, cur, rfl, _, hg, _⟩
  · simp [Value.ownBlock] at hk
  · simp [Value.ownBlock] at hk
    subst hk
    unfold Whole at hw
    rw [hg] at hw
    injection hw with hw
    injection hw with _ hw
    exact hne hw
theorem TL.push (h : TL w1 W V V2 V3 mu l) (hx : OpsLie W x) (hown : w5.ownsRow (w1.heap.size + 1) 29 2 V' (l.length + 1) (tkC l ++ [.int .i64 x.1.prio, .slice x.2.1 x.1.ops.length x.2.2])) (hgrow : W.grownBy w5 V.ownBlock) :
    TL w1 (w5.setCell ⟨w1.heap.size, 0, none⟩ V') V' V2 V3 mu (l ++ [x]) := by
  have hne : V.ownBlock ≠ some w1.heap.size := own_block h.row h.blk (by decide)
  have hb5 := hown.lt
  have ho : ∀ y, OpsLie W y → OpsLie (w5.setCell ⟨w1.heap.size, 0, none⟩ V') y := fun y hy => ⟨hy.1, hy.2.imp id fun ⟨g, cur, e, hw, ht⟩ =>
    ⟨g, cur, e, (hw.grown hgrow (own_block h.row hw (by decide))).far (hw.kind h.blk (by decide)) V', ht⟩⟩
  refine ⟨(h.blk.grown hgrow hne).put 0 V', ?_, fun y hy => ?_, ?_⟩
  · have e : tkC (l ++ [x]) = tkC l ++ [.int .i64 x.1.prio, .slice x.2.1 x.1.ops.length x.2.2] := by
      unfold tkC
      rw [List.flatMap_append]
      rfl
    rw [e, List.length_append, List.length_singleton]
    exact row_same hown fun k hk => Below.heap_setCell _ _ _ _ (fun q => by have := (hb5 k hk).1; have q : k = w1.heap.size := q; omega)
  · rcases List.mem_append.1 hy with hy | hy
    · exact ho y (h.ops y hy)
    · rw [List.mem_singleton] at hy
      subst hy
      exact ho _ hx
  · exact (h.bel.grown hgrow h.bel.size (fun k hk => by have := (h.row.lt k hk).1; omega)).setCell (p := ⟨w1.heap.size, 0, none⟩) (Nat.le_refl _) V'
theorem TL.tab {A A2 A3 : Option Addr} {n c : Nat} {t : Kn.Table} (h : TL w1 W (.slice A n c) V2 V3 mu l) (ht : t.tasks = l.map (·.1)) (hs : Reads W W.heap.size 1 A2 t.sems.length (intV t.sems)) (hq : Reads W W.heap.size 1 A3 t.queues.length (intV t.queues))
    (l1 : l.length ≤ 1000) (l2 : t.sems.length ≤ 1000) (l3 : t.queues.length ≤ 1000) : TabRd W W.heap.size A A2 A3 t ∧ n = l.length := by
  have hm : (1000 : Nat) ≤ maxLen := by unfold maxLen; omega
  have hn : n = l.length := by
    rcases h.row.2 with ⟨e, e2⟩ | ⟨g, cap, cur, e, _⟩
    · injection e with _ e _
      have e2 : l.length = 0 := e2
      omega
    · injection e with _ e _
  subst hn
  refine ⟨TabRd.of_rows (l := l) (Reads.of_own h.row) ht (fun x hx => ?_) hs hq (Nat.le_trans l1 hm) (Nat.le_trans l2 hm) (Nat.le_trans l3 hm), rfl⟩
  obtain ⟨h1, h2⟩ := h.ops x hx
  refine ⟨?_, Nat.le_trans h1 hm⟩
  rcases h2 with h2 | ⟨g, cur, e, hg, ht⟩
  · rw [h2]
    exact Reads.nil _
  · rw [e]
    refine ⟨opsC_len3 _, fun _ => ⟨_, rfl, hg.lt, fun j u hj => ?_⟩⟩
    rw [Addr.add_lit, Nat.zero_add, hg.cell j]
    rw [← ht] at hj
    have hlt := (List.getElem?_eq_some_iff.1 hj).1
    rw [List.length_take] at hlt
    rw [List.getElem?_take_of_lt (by omega)] at hj
    simpa using hj
theorem TL.shape (h : TL w1 W V V2 V3 mu l) : ∃ A c, V = .slice A l.length c := by
  rcases h.row.2 with ⟨e, e2⟩ | ⟨g, cap, cur, e, _⟩
  · exact ⟨none, 0, by rw [e, e2]⟩
  · exact ⟨_, _, e⟩
theorem TL.start (h : Whole W w1.heap.size 26 #[.slice none 0 0, V2, .int .i64 mu, V3]) (hb : Below w1.heap.size w1 W) : TL w1 W (.slice none 0 0) V2 V3 mu [] :=
  ⟨h, World.ownsRow_nil _ _ _ _, fun _ h => (by cases h), hb⟩
end
end Go.Proofs.Ytncbgnpoffolcaa
