/-
  The order in which ready tasks go; how a kernel without mutexes begins.
-/
import Derived.Test.YtncbgnpoffolcaaVw
namespace Go.Proofs.Ytncbgnpoffolcaa
namespace Kn
theorem flatMap_congr' {α β : Type} {f g : α → List β} : ∀ {l : List α}, (∀ a ∈ l, f a = g a) → l.flatMap f = l.flatMap g
  | [], _ => rfl
  | a :: l, h => by
    rw [List.flatMap_cons, List.flatMap_cons, h a List.mem_cons_self, flatMap_congr' fun b hb => h b (List.mem_cons_of_mem _ hb)]
/-- All ready tasks, in the order in which they go. -/
def order (ls : Nat → List Int) : List Int := (List.range 32).flatMap ls
theorem flatMap_nil' (ls : Nat → List Int) : ∀ l : List Nat, l.flatMap ls = [] → ∀ q ∈ l, ls q = []
  | [], _, q, hq => by cases hq
  | a :: l, h, q, hq => by
    rw [List.flatMap_cons, List.append_eq_nil_iff] at h
    rcases List.mem_cons.1 hq with rfl | hq
    · exact h.1
    · exact flatMap_nil' ls l h.2 q hq
theorem order_nil {ls : Nat → List Int} (h : order ls = []) : ∀ q, q < 32 → ls q = [] := fun q hq => flatMap_nil' ls _ h q (List.mem_range.2 hq)
theorem flatMap_cons_at (ls : Nat → List Int) {z : Int} {rest : List Int} : ∀ (d i : Nat), (List.range' i d).flatMap ls = z :: rest →
    ∃ p r, i ≤ p ∧ p < i + d ∧ (∀ q, i ≤ q → q < p → ls q = []) ∧ ls p = z :: r ∧ (List.range' i d).flatMap (upd ls p r) = rest
  | 0, i, h => by simp at h
  | d + 1, i, h => by
    rw [List.range'_succ, List.flatMap_cons] at h
    cases e : ls i with
    | nil =>
      rw [e, List.nil_append] at h
      obtain ⟨p, r, h1, h2, h3, h4, h5⟩ := flatMap_cons_at ls d (i + 1) h
      refine ⟨p, r, by omega, by omega, fun q hq hq2 => ?_, h4, ?_⟩
      · rcases Nat.lt_or_ge i q with h6 | h6
        · exact h3 q h6 hq2
        · rw [show q = i by omega, e]
      · rw [List.range'_succ, List.flatMap_cons, upd_ne _ _ (by omega), e, List.nil_append]
        exact h5
    | cons a r =>
      rw [e, List.cons_append] at h
      injection h with h1 h2
      subst h1
      refine ⟨i, r, Nat.le_refl _, by omega, fun q hq hq2 => by omega, e, ?_⟩
      rw [List.range'_succ, List.flatMap_cons, upd_at, ← h2]
      congr 1
      refine flatMap_congr' fun q hq => ?_
      have := List.mem_range'_1.1 hq
      exact upd_ne _ _ (by omega)
theorem order_cons {ls : Nat → List Int} {z : Int} {rest : List Int} (h : order ls = z :: rest) : ∃ p r, p < 32 ∧ (∀ q, q < p → ls q = []) ∧ ls p = z :: r ∧ order (upd ls p r) = rest := by
  unfold order at h ⊢
  rw [List.range_eq_range'] at h ⊢
  obtain ⟨p, r, _, h2, h3, h4, h5⟩ := flatMap_cons_at ls 32 0 h
  exact ⟨p, r, by omega, fun q hq => h3 q (Nat.zero_le _) hq, h4, h5⟩
theorem order_far {ls : Nat → List Int} {x : Nat} {v : List Int} (h : 32 ≤ x) : order (upd ls x v) = order ls := by
  unfold order
  refine flatMap_congr' fun q hq => ?_
  have := List.mem_range.1 hq
  exact upd_ne _ _ (by omega)
theorem mem_order {ls : Nat → List Int} {z : Int} : z ∈ order ls ↔ ∃ y, y < 32 ∧ z ∈ ls y := by
  unfold order
  rw [List.mem_flatMap]
  exact ⟨fun ⟨y, h1, h2⟩ => ⟨y, List.mem_range.1 h1, h2⟩, fun ⟨y, h1, h2⟩ => ⟨y, List.mem_range.2 h1, h2⟩⟩
/-- Each one in a row is a task of that priority. -/
def M.RowOk (m : M) : Prop := ∀ y, y < 32 → ∀ z ∈ m.ls y, ∃ i, i < m.n ∧ z = (i : Int) ∧ (m.ts i).prio = y
/-- Rows by priority. -/
def rowOf (pr : Nat → Int) (n y : Nat) : List Int := ((List.range n).filter fun i => decide ((pr i).toNat = y)).map Int.ofNat
theorem rowOf_succ (pr : Nat → Int) (n y : Nat) : rowOf pr (n + 1) y = rowOf pr n y ++ if (pr n).toNat = y then [(n : Int)] else [] := by
  unfold rowOf
  rw [List.range_succ, List.filter_append, List.map_append]
  congr 1
  by_cases h : (pr n).toNat = y
  · simp [h]
  · simp [h]
theorem mem_rowOf {pr : Nat → Int} {n y : Nat} {z : Int} : z ∈ rowOf pr n y ↔ ∃ i, i < n ∧ z = (i : Int) ∧ (pr i).toNat = y := by
  unfold rowOf
  rw [List.mem_map]
  constructor
  · rintro ⟨i, hi, rfl⟩
    rw [List.mem_filter, List.mem_range, decide_eq_true_eq] at hi
    exact ⟨i, hi.1, rfl, hi.2⟩
  · rintro ⟨i, hi, rfl, hp⟩
    exact ⟨i, by rw [List.mem_filter, List.mem_range, decide_eq_true_eq]; exact ⟨hi, hp⟩, rfl⟩
theorem rowOf_nodup (pr : Nat → Int) (n y : Nat) : (rowOf pr n y).Nodup := by
  unfold rowOf
  have h : ((List.range n).filter fun i => decide ((pr i).toNat = y)).Nodup := List.nodup_range.sublist (List.filter_sublist)
  exact List.Pairwise.map _ (fun a b (hab : a ≠ b) e => hab (Int.ofNat.inj e)) h
theorem order_rowOf_nodup (pr : Nat → Int) (n : Nat) : (order (rowOf pr n)).Nodup := by
  unfold order
  refine List.pairwise_flatMap.2 ⟨fun y _ => rowOf_nodup pr n y, ?_⟩
  refine List.Pairwise.imp ?_ List.nodup_range
  intro a b hab z hz z' hz' ezz
  subst ezz
  obtain ⟨i, _, e, h1⟩ := mem_rowOf.1 hz
  obtain ⟨j, _, e2, h2⟩ := mem_rowOf.1 hz'
  have : i = j := by omega
  subst this
  exact hab (h1.symm.trans h2)
theorem idx_append (x : Task) (y : Nat) : ∀ (l : List Task) (i : Nat), idx (l ++ [x]) i y = idx l i y ++ if x.prio.toNat = y then [((i + l.length : Nat) : Int)] else []
  | [], i => by
    simp [idx]
  | a :: l, i => by
    rw [List.cons_append, idx_cons, idx_cons, idx_append x y l (i + 1)]
    rw [show i + 1 + l.length = i + (a :: l).length by simp; omega]
    split
    · rw [List.cons_append]
    · rfl
theorem idx_range (f : Nat → Task) (y : Nat) : ∀ n, idx ((List.range n).map f) 0 y = rowOf (fun i => (f i).prio) n y
  | 0 => rfl
  | n + 1 => by
    rw [List.range_succ, List.map_append, List.map_singleton, idx_append, idx_range f y n, rowOf_succ]
    simp
/-- How it begins. -/
def M.of (n : Nat) (f : Nat → Task) (s z : List Int) : M :=
  { n := n, ts := fun i => ⟨(f i).ops, (f i).prio, (f i).prio, 0, 0, 0, (f i).ops.map fun _ => 0, none, 0, 0⟩, ls := fun y => if y < 32 then rowOf (fun i => (f i).prio) n y else [], s := s, z := z, o := [], tk := 0, op := 0 }
theorem begin_M {n : Nat} {f : Nat → Task} {s z : List Int} (hf : ({ tasks := (List.range n).map f, sems := s, mutexes := 0, queues := z } : Table).fits = true) : begin { tasks := (List.range n).map f, sems := s, mutexes := 0, queues := z } = (M.of n f s z).k := by
  obtain ⟨_, _, _, h4⟩ := Table.fits_parts hf
  have hp : ∀ i, i < n → 0 ≤ (f i).prio ∧ (f i).prio ≤ 31 := fun i hi => by
    have := (h4 i (by simpa using hi)).1
    simp only [List.getElem_map, List.getElem_range] at this
    omega
  unfold begin M.of M.k
  congr 1
  · rw [List.map_map]
    rfl
  · apply List.ext_getElem?
    intro x
    by_cases hx : x < 72
    · have h := rowsOf_row x ((List.range n).map f) 0 (List.replicate 72 []) (by simpa using hx)
      rw [List.getD_eq_getElem?_getD, List.getElem?_eq_getElem (by rw [rowsOf_lst]; simpa using hx)] at h
      rw [List.getElem?_eq_getElem (by rw [rowsOf_lst]; simpa using hx)]
      rw [Option.getD_some] at h
      rw [h, idx_range]
      rw [List.getElem?_map, List.getElem?_range hx]
      simp only [Option.map_some]
      congr 1
      have e0 : (List.replicate 72 ([] : List Int)).getD x [] = [] := by
        rw [List.getD_eq_getElem?_getD, List.getElem?_replicate, if_pos hx]
        rfl
      rw [e0, List.nil_append]
      by_cases h32 : x < 32
      · rw [if_pos h32]
      · rw [if_neg h32]
        rw [List.eq_nil_iff_forall_not_mem]
        intro w hw
        obtain ⟨i, hi, _, hp2⟩ := mem_rowOf.1 hw
        have := hp i hi
        omega
    · rw [List.getElem?_eq_none (by rw [rowsOf_lst]; simp; omega), List.getElem?_eq_none (by simp; omega)]
theorem M.of_flat {n : Nat} {f : Nat → Task} {s z : List Int} : (M.of n f s z).flat := fun _ _ => rfl
theorem M.of_rowOk {n : Nat} {f : Nat → Task} {s z : List Int} (hp : ∀ i, i < n → 0 ≤ (f i).prio) : (M.of n f s z).RowOk := by
  intro y hy w hw
  have hw : w ∈ (if y < 32 then rowOf (fun i => (f i).prio) n y else []) := hw
  rw [if_pos hy] at hw
  obtain ⟨i, hi, e, h⟩ := mem_rowOf.1 hw
  refine ⟨i, hi, e, ?_⟩
  show (f i).prio = y
  have := hp i hi
  omega
theorem M.of_order {n : Nat} {f : Nat → Task} {s z : List Int} : order (M.of n f s z).ls = order (rowOf (fun i => (f i).prio) n) := by
  unfold order
  refine flatMap_congr' fun q hq => ?_
  exact if_pos (List.mem_range.1 hq)
end Kn
end Go.Proofs.Ytncbgnpoffolcaa
