/-
  A table in memory of the call's own, and what happens to it as a line is read.
-/
import Derived.Test.YtadcfedjmofjjaaDoorC3
namespace Go.Proofs.YtadcfedjmofjjaaDoor
open Go.RowKit
def taskC (x : Tk.Task × Value) : List Value := [.int .i64 x.1.prio, x.2]
theorem taskC_len (l : List (Tk.Task × Value)) : (l.flatMap taskC).length = l.length * 2 := flat_len (f := taskC) (n := 2) (fun _ => rfl) l
theorem taskC_at (l : List (Tk.Task × Value)) (k j : Nat) (hk : k < l.length) (hj : j < 2) : (l.flatMap taskC)[k * 2 + j]? = (taskC l[k])[j]? := flat_at (f := taskC) (n := 2) (fun _ => rfl) l k j hk hj
/-- Two tasks' rows of operations lie apart. -/
def Apart (a b : Tk.Task × Value) : Prop := ∀ k, a.2.ownBlock = some k → b.2.ownBlock ≠ some k
/-- Tasks in memory of one's own. -/
structure Tasks (w : World) (B : Nat) (V : Value) (l : List (Tk.Task × Value)) : Prop where
  row : w.ownsRow B 32 2 V l.length (l.flatMap taskC)
  ops : ∀ x ∈ l, w.ownsRow B 34 3 x.2 x.1.ops.length (opsC x.1.ops)
  apart : l.Pairwise Apart
/-- A table in memory of one's own, from block B on. -/
structure Tab (w : World) (B : Nat) (V1 V2 V3 : Value) (t : Tk.Table) : Prop where
  tasks : ∃ l : List (Tk.Task × Value), l.map Prod.fst = t.tasks ∧ Tasks w B V1 l
  sems : w.ownsRow B 3 1 V2 t.sems.length (intV t.sems)
  queues : w.ownsRow B 3 1 V3 t.queues.length (intV t.queues)
theorem row_kind {w : World} {base1 base2 : Nat} {e1 e2 : TypeId} {s1 s2 n1 n2 : Nat} {v1 v2 : Value} {x1 x2 : List Value} (h1 : w.ownsRow base1 e1 s1 v1 n1 x1) (h2 : w.ownsRow base2 e2 s2 v2 n2 x2) (hne : e1 ≠ e2) :
    ∀ k, v1.ownBlock = some k → v2.ownBlock ≠ some k := by
  intro k hk1 hk2
  rcases h1.2 with ⟨rfl, _⟩ | ⟨g1, _, _, rfl, _, hg1, _⟩
  · simp [Value.ownBlock] at hk1
  rcases h2.2 with ⟨rfl, _⟩ | ⟨g2, _, _, rfl, _, hg2, _⟩
  · simp [Value.ownBlock] at hk2
  simp [Value.ownBlock] at hk1 hk2
  rw [hk1] at hg1
  rw [hk2, hg1] at hg2
  injection hg2 with hg2
  injection hg2 with _ hg2
  exact hne hg2
section
variable {w w' : World} {B : Nat} {V V1 V2 V3 : Value} {t : Tk.Table} {l : List (Tk.Task × Value)}
theorem Tasks.same (h : Tasks w B V l) (hs : ∀ k, B ≤ k → k < w.heap.size → w'.heap[k]? = w.heap[k]?) : Tasks w' B V l :=
  ⟨row_same h.row fun k hk => hs k (h.row.lt k hk).1 (h.row.lt k hk).2, fun x hx => row_same (h.ops x hx) fun k hk => hs k ((h.ops x hx).lt k hk).1 ((h.ops x hx).lt k hk).2, h.apart⟩
theorem Tab.same (h : Tab w B V1 V2 V3 t) (hs : ∀ k, B ≤ k → k < w.heap.size → w'.heap[k]? = w.heap[k]?) : Tab w' B V1 V2 V3 t := by
  obtain ⟨l, e, hl⟩ := h.tasks
  exact ⟨⟨l, e, hl.same hs⟩, row_same h.sems fun k hk => hs k (h.sems.lt k hk).1 (h.sems.lt k hk).2, row_same h.queues fun k hk => hs k (h.queues.lt k hk).1 (h.queues.lt k hk).2⟩
theorem Tab.below (h : Tab w B V1 V2 V3 t) {B' : Nat} (hb : Below B' w w') (hB : w.heap.size ≤ B') : Tab w' B V1 V2 V3 t := h.same fun k _ hk => hb.block k (by omega)
theorem Tab.far (h : Tab w B V1 V2 V3 t) {p : Addr} (hp : p.block < B) (u : Value) : Tab (w.setCell p u) B V1 V2 V3 t := h.same fun k hk _ => Below.heap_setCell _ _ _ _ (by omega)
theorem Tab.nil (w : World) (B : Nat) : Tab w B (.slice none 0 0) (.slice none 0 0) (.slice none 0 0) Tk.Table.none :=
  ⟨⟨[], rfl, World.ownsRow_nil _ _ _ _, fun x hx => by simp at hx, List.Pairwise.nil⟩, World.ownsRow_nil _ _ _ _, World.ownsRow_nil _ _ _ _⟩
theorem Tab.len (h : Tab w B V1 V2 V3 t) : ∃ A c, V1 = .slice A t.tasks.length c ∧ t.tasks.length ≤ c ∧ c ≤ maxLen := by
  obtain ⟨l, e, hl⟩ := h.tasks
  obtain ⟨A, c, h1, h2, h3⟩ := row_slice hl.row
  have el : l.length = t.tasks.length := by rw [← e, List.length_map]
  rw [el] at h1 h2
  exact ⟨A, c, h1, h2, h3⟩
/-- A table of one's own can be read. -/
theorem Tab.reads {A1 A2 A3 : Option Addr} {n1 n2 n3 c1 c2 c3 : Nat} (h : Tab w B (.slice A1 n1 c1) (.slice A2 n2 c2) (.slice A3 n3 c3) t) : TabRd w w.heap.size A1 A2 A3 t ∧ n1 = t.tasks.length ∧ n2 = t.sems.length ∧ n3 = t.queues.length := by
  obtain ⟨l, e, hl⟩ := h.tasks
  have el : l.length = t.tasks.length := by rw [← e, List.length_map]
  obtain ⟨a1, d1, q1, p1, m1⟩ := row_slice hl.row
  obtain ⟨a2, d2, q2, p2, m2⟩ := row_slice h.sems
  obtain ⟨a3, d3, q3, p3, m3⟩ := row_slice h.queues
  injection q1 with q1 q1' q1''
  injection q2 with q2 q2' q2''
  injection q3 with q3 q3' q3''
  subst q1 q1' q1'' q2 q2' q2'' q3 q3' q3''
  refine ⟨⟨fun i hi => ?_, Reads.of_own h.sems, Reads.of_own h.queues, by omega, by omega, by omega⟩, el, rfl, rfl⟩
  have hi' : i < l.length := by omega
  have R := Reads.of_own hl.row
  obtain ⟨ad, eA, had, hc⟩ := R.2 (by omega)
  have hx : l[i] ∈ l := List.getElem_mem _
  have ho := hl.ops _ hx
  have et : t.tasks[i] = l[i].1 := by
    have : (l.map Prod.fst)[i]'(by simpa using hi') = t.tasks[i] := by congr 1
    rw [← this, List.getElem_map]
  obtain ⟨A, c, q, p, m⟩ := row_slice ho
  have c0 := hc (i * 2) _ (taskC_at l i 0 hi' (by omega))
  have c1 := hc (i * 2 + 1) _ (taskC_at l i 1 hi' (by omega))
  refine ⟨ad, A, c, eA, had, ?_, ?_, ?_, ?_⟩
  · rw [et]; exact c0
  · rw [et]; rw [c1, q]
  · rw [et]
    rw [q] at ho
    exact Reads.of_own ho
  · rw [et]; omega
/-- A task more. -/
theorem Tasks.push {w1 : World} {V' : Value} {pr : Int} (h : Tasks w B V l) (hr : w'.ownsRow B 32 2 V' (l.length + 1) (l.flatMap taskC ++ [.int .i64 pr, .slice none 0 0]))
    (hg : w1.grownBy w' V.ownBlock) (hs : ∀ k, k < w.heap.size → w1.heap[k]? = w.heap[k]?) (hz : w.heap.size ≤ w1.heap.size) : Tasks w' B V' (l ++ [(⟨pr, []⟩, .slice none 0 0)]) := by
  refine ⟨?_, ?_, ?_⟩
  · rw [List.length_append, List.flatMap_append]
    exact hr
  · intro x hx
    rcases List.mem_append.1 hx with hx | hx
    · refine row_same (h.ops x hx) fun k hk => ?_
      have hlt := ((h.ops x hx).lt k hk).2
      rw [hg.block k (by omega) (fun e => row_kind (h.ops x hx) h.row (by decide) k hk e.symm), hs k hlt]
    · rw [List.mem_singleton] at hx
      subst hx
      exact World.ownsRow_nil _ _ _ _
  · rw [List.pairwise_append]
    refine ⟨h.apart, List.pairwise_singleton _ _, fun a _ b hb => ?_⟩
    rw [List.mem_singleton] at hb
    subst hb
    intro k _ hk
    simp [Value.ownBlock] at hk
/-- An operation more, of the last task. -/
theorem Tasks.op {w1 : World} {x : Tk.Task} {hv hv' : Value} {o : Tk.Op} {g c : Nat} (h : Tasks w B (.slice (some ⟨g, 0, none⟩) (l.length + 1) c) (l ++ [(x, hv)]))
    (hr : w'.ownsRow B 34 3 hv' (x.ops.length + 1) (opsC x.ops ++ opC o)) (hg : w1.grownBy w' hv.ownBlock) (hs : ∀ k, k < w.heap.size → w1.heap[k]? = w.heap[k]?) (hz : w.heap.size ≤ w1.heap.size)
    (hat : ∀ k, hv'.ownBlock = some k → hv.ownBlock = some k ∨ w.heap.size ≤ k) :
    Tasks (w'.setCell ⟨g, l.length * 2 + 1, none⟩ hv') B (.slice (some ⟨g, 0, none⟩) (l.length + 1) c) (l ++ [({ x with ops := x.ops ++ [o] }, hv')]) := by
  have hrow := h.row
  rw [List.length_append, List.length_singleton, List.flatMap_append] at hrow
  have hlast : (x, hv) ∈ l ++ [(x, hv)] := by simp
  have hold := h.ops _ hlast
  have hgo : (Value.slice (some ⟨g, 0, none⟩) (l.length + 1) c).ownBlock = some g := rfl
  have hgl := (hrow.lt g hgo).2
  have hne : hv.ownBlock ≠ some g := fun e => row_kind hold hrow (by decide) g e rfl
  have hrow' : w'.ownsRow B 32 2 (.slice (some ⟨g, 0, none⟩) (l.length + 1) c) (l.length + 1) (l.flatMap taskC ++ [(x, hv)].flatMap taskC) := by
    refine row_same hrow fun k hk => ?_
    obtain rfl : g = k := by rw [hgo] at hk; exact Option.some.inj hk
    rw [hg.block g (by omega) (fun e => hne e.symm), hs g hgl]
  have hne' : ∀ k, hv'.ownBlock = some k → k ≠ g := fun k hk e => by
    subst e
    rcases hat k hk with h1 | h1
    · exact hne h1
    · omega
  refine ⟨?_, ?_, ?_⟩
  · have hst := (hrow'.stored (l.length * 2 + 1) hv').1
    rw [List.length_append, List.length_singleton, List.flatMap_append]
    have e : (l.flatMap taskC ++ [(x, hv)].flatMap taskC).set (l.length * 2 + 1) hv' = l.flatMap taskC ++ [(({ x with ops := x.ops ++ [o] } : Tk.Task), hv')].flatMap taskC := by
      rw [List.set_append_right _ _ (by rw [taskC_len]; omega), taskC_len]
      have : l.length * 2 + 1 - l.length * 2 = 1 := by omega
      rw [this]
      rfl
    rw [← e]
    exact hst
  · intro y hy
    rcases List.mem_append.1 hy with hy | hy
    · have hyo := h.ops y (List.mem_append.2 (.inl hy))
      refine row_same hyo fun k hk => ?_
      have hlt := (hyo.lt k hk).2
      have ap : hv.ownBlock ≠ some k := by
        have := h.apart
        rw [List.pairwise_append] at this
        exact this.2.2 y hy (x, hv) (by simp) k hk
      have hkg : k ≠ g := fun e => by
        subst e
        exact row_kind hyo hrow (by decide) k hk rfl
      rw [Below.heap_setCell _ _ _ _ hkg, hg.block k (by omega) (fun e => ap e.symm), hs k hlt]
    · rw [List.mem_singleton] at hy
      subst hy
      have e : opsC (x.ops ++ [o]) = opsC x.ops ++ opC o := by simp [opsC, List.flatMap_append]
      show World.ownsRow _ B 34 3 hv' (x.ops ++ [o]).length (opsC (x.ops ++ [o]))
      rw [e, List.length_append, List.length_singleton]
      exact row_same hr fun k hk => Below.heap_setCell _ _ _ _ (hne' k hk)
  · have := h.apart
    rw [List.pairwise_append] at this ⊢
    refine ⟨this.1, List.pairwise_singleton _ _, fun a ha b hb => ?_⟩
    rw [List.mem_singleton] at hb
    subst hb
    intro k hk hk'
    have hao := h.ops a (List.mem_append.2 (.inl ha))
    rcases hat k hk' with h1 | h1
    · exact this.2.2 a ha (x, hv) (by simp) k hk h1
    · have := (hao.lt k hk).2
      omega
end
end Go.Proofs.YtadcfedjmofjjaaDoor
