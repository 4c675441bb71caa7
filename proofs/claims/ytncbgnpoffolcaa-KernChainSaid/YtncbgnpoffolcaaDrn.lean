/-
  Ready tasks that go one behind the other and come back no more; a tick, task by task.
-/
import Derived.Test.YtncbgnpoffolcaaFstP
namespace Go.Proofs.Ytncbgnpoffolcaa
namespace Kn
theorem order_congr {f g : Nat → List Int} (h : ∀ y, y < 32 → f y = g y) : order f = order g := flatMap_congr' fun y hy => h y (List.mem_range.1 hy)
theorem row_nodup {ls : Nat → List Int} (h : (order ls).Nodup) {p : Nat} (hp : p < 32) : (ls p).Nodup := (List.pairwise_flatMap.1 h).1 p (List.mem_range.2 hp)
structure DP (X : List Int → M → Prop) (m0 : M) (l : List Int) (m : M) : Prop where
  n : m.n = m0.n
  ord : order m.ls = l
  flat : m.flat
  row : m.RowOk
  todo : ∀ i : Nat, (i : Int) ∈ l → m.ts i = m0.ts i
  rest : ∀ i : Nat, i < m0.n → (i : Int) ∉ order m0.ls → m.ts i = m0.ts i
  done : ∃ d, order m0.ls = d ++ l ∧ X d m
/-- All ready ones go, each once. -/
theorem drain_X {X : List Int → M → Prop} {ticks ops : Nat} {m0 : M}
    (macr : ∀ (d rest : List Int) (i p : Nat) (r : List Int) (m : M), order m0.ls = d ++ (i : Int) :: rest → X d m → m.n = m0.n → m.flat → i < m.n → p < 32 → (∀ q, q < p → m.ls q = []) → m.ls p = (i : Int) :: r → (m.ts i).prio = p → m.ts i = m0.ts i → m.RowOk → (m.ls p).Nodup →
      ∃ m1 : M, Steps ticks ops m.k m1.k ∧ m1.n = m.n ∧ m1.flat ∧ (∀ y, y < 32 → m1.ls y = upd m.ls p r y) ∧ (∀ j, j ≠ i → m1.ts j = m.ts j) ∧ X (d ++ [(i : Int)]) m1)
    (h0 : X [] m0) (hf : m0.flat) (hr : m0.RowOk) (hnd : (order m0.ls).Nodup) :
    ∃ m' : M, Steps ticks ops m0.k m'.k ∧ m'.n = m0.n ∧ m'.flat ∧ order m'.ls = [] ∧ (∀ i : Nat, i < m0.n → (i : Int) ∉ order m0.ls → m'.ts i = m0.ts i) ∧ X (order m0.ls) m' := by
  have key : ∀ z rest m, DP X m0 (z :: rest) m → ∃ m' : M, Steps ticks ops m.k m'.k ∧ DP X m0 rest m' := by
    intro z rest m h
    obtain ⟨p, r, hp, hz, hl, hor⟩ := order_cons h.ord
    obtain ⟨i, hi, rfl, hpr⟩ := h.row p hp z (by rw [hl]; exact List.mem_cons_self)
    obtain ⟨d, hd, hX⟩ := h.done
    have hn1 : (i : Int) ∉ rest := by
      rw [hd] at hnd
      exact (List.nodup_cons.1 (List.nodup_append.1 hnd).2.1).1
    have hin : (i : Int) ∈ order m0.ls := by rw [hd]; exact List.mem_append_right _ List.mem_cons_self
    obtain ⟨m1, s1, e1, f1, l1, t1, x1⟩ := macr d rest i p r m hd hX h.n h.flat hi hp hz hl hpr (h.todo i List.mem_cons_self) h.row (row_nodup (by rw [h.ord]; rw [hd] at hnd; exact (List.nodup_append.1 hnd).2.1) hp)
    refine ⟨m1, s1, e1.trans h.n, (order_congr l1).trans hor, f1, ?_, fun j hj => ?_, fun j hj hm => ?_, d ++ [(i : Int)], by rw [hd]; simp, x1⟩
    · intro y hy w hw
      rw [l1 y hy] at hw
      have hw' : w ∈ m.ls y := by
        have hw1 := hw
        unfold upd at hw1
        split at hw1
        · rename_i e
          rw [e, hl]
          exact List.mem_cons_of_mem _ hw1
        · exact hw1
      obtain ⟨j, hj, e, hjp⟩ := h.row y hy w hw'
      refine ⟨j, by rw [e1]; exact hj, e, ?_⟩
      rw [t1 j]
      · exact hjp
      · intro q
        subst q
        subst e
        exact hn1 (by rw [← hor]; exact mem_order.2 ⟨y, hy, hw⟩)
    · rw [t1 j (fun q => hn1 (by rw [← q]; exact hj))]
      exact h.todo j (List.mem_cons_of_mem _ hj)
    · rw [t1 j (fun q => hm (by rw [q]; exact hin))]
      exact h.rest j hj hm
  obtain ⟨m', hs, h⟩ := drain key (order m0.ls) m0 ⟨rfl, rfl, hf, hr, fun _ _ => rfl, fun _ _ _ => rfl, [], rfl, h0⟩
  obtain ⟨d, hd, hX⟩ := h.done
  rw [List.append_nil] at hd
  exact ⟨m', hs, h.n, h.flat, h.ord, h.rest, by rw [hd]; exact hX⟩
/-! A tick. -/
/-- What a tick makes of a task. -/
def tickT (t : T) : T := if t.state ≠ 1 ∨ t.left = 0 then t else if 0 < t.left - 1 then { t with left := t.left - 1 } else { t with state := 0, answer := if t.on = none then 0 else 1, on := none, left := 0 }
/-- Does it wake? -/
def wakes (t : T) : Bool := decide (t.state = 1 ∧ t.left ≠ 0 ∧ ¬ 0 < t.left - 1)
def offs (t : T) (i : Nat) (ls : Nat → List Int) : Nat → List Int := match t.on with
  | some x => upd ls x ((ls x).erase i)
  | none => ls
theorem M.wake {m : M} {i : Nat} (hi : i < m.n) (a : Int) : m.k.wake i a = M.k { m with ts := upd m.ts i { m.ts i with state := 0, answer := a, on := none, left := 0 }, ls := upd (offs (m.ts i) i m.ls) (m.ts i).prio.toNat (offs (m.ts i) i m.ls (m.ts i).prio.toNat ++ [(i : Int)]) } := by
  have fin : ∀ ls : Nat → List Int, (let k2 := (M.k { m with ls := ls }).setT i fun t => { t with state := 0, answer := a, on := none, left := 0 }; k2.setL (k2.t i).prio.toNat (· ++ [(i : Int)])) = M.k { m with ts := upd m.ts i { m.ts i with state := 0, answer := a, on := none, left := 0 }, ls := upd ls (m.ts i).prio.toNat (ls (m.ts i).prio.toNat ++ [(i : Int)]) } := by
    intro ls
    simp only [M.setT]
    rw [M.t_ (m := { m with ls := ls, ts := upd m.ts i { m.ts i with state := 0, answer := a, on := none, left := 0 } }) hi, M.setL]
    simp only [upd_at]
  unfold K.wake offs
  rw [M.t_ hi]
  cases (m.ts i).on with
  | none => exact fin m.ls
  | some x =>
    simp only [M.setL]
    exact fin _
def M.tick1 (m : M) (i : Nat) : M :=
  { m with ts := upd m.ts i (tickT (m.ts i)), ls := if wakes (m.ts i) then upd (offs (m.ts i) i m.ls) (m.ts i).prio.toNat (offs (m.ts i) i m.ls (m.ts i).prio.toNat ++ [(i : Int)]) else m.ls }
theorem M.upd_self {m : M} {i : Nat} : M.k { m with ts := upd m.ts i (m.ts i) } = m.k :=
  M.congr rfl (fun j _ => by show upd m.ts i (m.ts i) j = _; unfold upd; split; · rename_i e; rw [e]
                             · rfl) (fun _ _ => rfl) rfl rfl rfl rfl rfl
theorem M.tickOne {m : M} {i : Nat} (hi : i < m.n) :
    (if (m.k.t i).state ≠ 1 ∨ (m.k.t i).left = 0 then m.k
      else if 0 < (m.k.t i).left - 1 then m.k.setT i fun t => { t with left := t.left - 1 } else (m.k.setT i fun t => { t with left := t.left - 1 }).wake i (if (m.k.t i).on = none then 0 else 1)) = (m.tick1 i).k := by
  rw [M.t_ hi]
  by_cases h1 : (m.ts i).state ≠ 1 ∨ (m.ts i).left = 0
  · rw [if_pos h1]
    unfold M.tick1
    have hw : wakes (m.ts i) = false := decide_eq_false fun ⟨a, b, _⟩ => by rcases h1 with h | h; exact h a; exact b h
    have ht : tickT (m.ts i) = m.ts i := if_pos h1
    rw [hw, ht]
    exact M.upd_self.symm
  · rw [if_neg h1]
    by_cases h2 : 0 < (m.ts i).left - 1
    · rw [if_pos h2]
      unfold M.tick1
      have hw : wakes (m.ts i) = false := decide_eq_false fun ⟨_, _, c⟩ => c h2
      have ht : tickT (m.ts i) = { m.ts i with left := (m.ts i).left - 1 } := by unfold tickT; rw [if_neg h1, if_pos h2]
      rw [hw, ht, M.setT]
      rfl
    · rw [if_neg h2, M.setT]
      have h1' : (m.ts i).state = 1 ∧ (m.ts i).left ≠ 0 := by
        refine ⟨Decidable.byContradiction fun q => h1 (.inl q), fun q => h1 (.inr q)⟩
      have hw : wakes (m.ts i) = true := decide_eq_true ⟨h1'.1, h1'.2, h2⟩
      have ht : tickT (m.ts i) = { m.ts i with state := 0, answer := if (m.ts i).on = none then 0 else 1, on := none, left := 0 } := by unfold tickT; rw [if_neg h1, if_neg h2]
      unfold M.tick1
      rw [hw, ht]
      rw [M.wake (m := { m with ts := upd m.ts i { m.ts i with left := (m.ts i).left - 1 } }) hi]
      simp only [upd_at]
      refine M.congr rfl (fun j _ => ?_) (fun _ _ => rfl) rfl rfl rfl rfl rfl
      show upd (upd m.ts i _) i _ j = upd m.ts i _ j
      unfold upd
      split <;> rfl
theorem M.tickAt : ∀ (d i : Nat) (m : M), i + d = m.n → K.tickAt d i m.k = ((List.range' i d).foldl M.tick1 m).k
  | 0, _, _, _ => rfl
  | d + 1, i, m, h => by
    rw [List.range'_succ, List.foldl_cons, ← M.tickAt d (i + 1) (m.tick1 i) (by show i + 1 + d = m.n; omega), ← M.tickOne (show i < m.n by omega)]
    rfl
theorem tick_n : ∀ (l : List Nat) (m : M), (l.foldl M.tick1 m).n = m.n
  | [], _ => rfl
  | i :: l, m => tick_n l (m.tick1 i)
theorem tick_rest : ∀ (l : List Nat) (m : M), (l.foldl M.tick1 m).s = m.s ∧ (l.foldl M.tick1 m).z = m.z ∧ (l.foldl M.tick1 m).o = m.o ∧ (l.foldl M.tick1 m).tk = m.tk ∧ (l.foldl M.tick1 m).op = m.op
  | [], _ => ⟨rfl, rfl, rfl, rfl, rfl⟩
  | i :: l, m => tick_rest l (m.tick1 i)
theorem tick_ts : ∀ (d i : Nat) (m : M) (j : Nat), ((List.range' i d).foldl M.tick1 m).ts j = if i ≤ j ∧ j < i + d then tickT (m.ts j) else m.ts j
  | 0, i, m, j => by rw [if_neg (by omega)]; rfl
  | d + 1, i, m, j => by
    rw [List.range'_succ, List.foldl_cons, tick_ts d (i + 1) (m.tick1 i) j]
    have e : (m.tick1 i).ts j = upd m.ts i (tickT (m.ts i)) j := rfl
    rw [e]
    unfold upd
    by_cases h : j = i
    · subst h
      rw [if_neg (by omega), if_pos rfl, if_pos (by omega)]
    · rw [if_neg h]
      by_cases h2 : i ≤ j ∧ j < i + (d + 1)
      · rw [if_pos h2, if_pos (by omega)]
      · rw [if_neg h2, if_neg (by omega)]
theorem offs_row {t : T} {i y : Nat} {ls : Nat → List Int} (h : ∀ x, t.on = some x → 32 ≤ x) (hy : y < 32) : offs t i ls y = ls y := by
  unfold offs
  cases hon : t.on with
  | none => rfl
  | some x =>
    have := h x hon
    exact upd_ne _ _ (by omega)
theorem tick_ls (y : Nat) (hy : y < 32) : ∀ (d i : Nat) (m : M), (∀ j x, i ≤ j → j < i + d → wakes (m.ts j) = true → (m.ts j).on = some x → 32 ≤ x) →
    ((List.range' i d).foldl M.tick1 m).ls y = m.ls y ++ ((List.range' i d).filter fun j => wakes (m.ts j) && decide ((m.ts j).prio.toNat = y)).map Int.ofNat
  | 0, i, m, _ => by simp
  | d + 1, i, m, h => by
    have h' : ∀ j x, i + 1 ≤ j → j < i + 1 + d → wakes ((m.tick1 i).ts j) = true → ((m.tick1 i).ts j).on = some x → 32 ≤ x := fun j x h1 h2 h4 h3 => by
      have e : (m.tick1 i).ts j = m.ts j := upd_ne _ _ (by omega)
      rw [e] at h3 h4
      exact h j x (by omega) (by omega) h4 h3
    rw [List.range'_succ, List.foldl_cons, tick_ls y hy d (i + 1) (m.tick1 i) h', List.filter_cons]
    have ef : (List.range' (i + 1) d).filter (fun j => wakes ((m.tick1 i).ts j) && decide (((m.tick1 i).ts j).prio.toNat = y)) = (List.range' (i + 1) d).filter fun j => wakes (m.ts j) && decide ((m.ts j).prio.toNat = y) := by
      refine List.filter_congr fun j hj => ?_
      have := List.mem_range'_1.1 hj
      have e : (m.tick1 i).ts j = m.ts j := upd_ne _ _ (by omega)
      rw [e]
    rw [ef]
    have el : (m.tick1 i).ls y = m.ls y ++ if wakes (m.ts i) && decide ((m.ts i).prio.toNat = y) then [(i : Int)] else [] := by
      show (if wakes (m.ts i) then upd (offs (m.ts i) i m.ls) (m.ts i).prio.toNat (offs (m.ts i) i m.ls (m.ts i).prio.toNat ++ [(i : Int)]) else m.ls) y = _
      cases hw : wakes (m.ts i) with
      | false => simp
      | true =>
        have ho := offs_row (i := i) (ls := m.ls) (fun x hx => h i x (Nat.le_refl _) (by omega) hw hx) hy
        rw [if_pos rfl, Bool.true_and]
        by_cases hp : (m.ts i).prio.toNat = y
        · rw [hp, upd_at, ho, decide_eq_true rfl, if_pos rfl]
        · rw [upd_ne _ _ (fun q => hp q.symm), ho, decide_eq_false hp]
          simp
    rw [el]
    by_cases hc : (wakes (m.ts i) && decide ((m.ts i).prio.toNat = y)) = true
    · simp [hc]
    · simp [hc]
/-- A tick of a kernel whose rows are empty. -/
theorem M.tick {m : M} (hf : m.flat) (h0 : ∀ y, y < 32 → m.ls y = []) (hon : ∀ j x, j < m.n → wakes (m.ts j) = true → (m.ts j).on = some x → 32 ≤ x) :
    ∃ m' : M, m.k.tick = m'.k ∧ m'.n = m.n ∧ m'.flat ∧ (∀ j, j < m.n → m'.ts j = tickT (m.ts j)) ∧ (∀ y, y < 32 → m'.ls y = ((List.range m.n).filter fun j => wakes (m.ts j) && decide ((m.ts j).prio.toNat = y)).map Int.ofNat) ∧
      m'.s = m.s ∧ m'.z = m.z ∧ m'.o = m.o ∧ m'.tk = m.tk + 1 ∧ m'.op = m.op := by
  let m1 : M := { m with tk := m.tk + 1 }
  have hts : ∀ j, j < m.n → ((List.range' 0 m.n).foldl M.tick1 m1).ts j = tickT (m.ts j) := fun j hj => by
    rw [tick_ts m.n 0 m1 j, if_pos (by omega)]
  have hr := tick_rest (List.range' 0 m.n) m1
  have hff : M.flat ((List.range' 0 m.n).foldl M.tick1 m1) := by
    intro j hj
    rw [tick_n] at hj
    rw [hts j hj]
    have := hf j hj
    unfold tickT
    split
    · exact this
    · split
      · exact this
      · exact this
  refine ⟨(List.range' 0 m.n).foldl M.tick1 m1, ?_, tick_n _ _, hff, hts, fun y hy => ?_, hr.1, hr.2.1, hr.2.2.1, hr.2.2.2.1, hr.2.2.2.2⟩
  · unfold K.tick
    rw [show K.tickAt m.k.tasks.length 0 { m.k with ticks := m.k.ticks + 1 } = K.tickAt m.n 0 m1.k by rw [M.tasks_len]; rfl, M.tickAt m.n 0 m1 (Nat.zero_add _)]
    exact M.anew hff (-1)
  · rw [tick_ls y hy m.n 0 m1 (fun j x _ hj h1 h2 => hon j x (by omega) h1 h2), List.range_eq_range']
    show m.ls y ++ _ = _
    rw [h0 y hy, List.nil_append]
end Kn
end Go.Proofs.Ytncbgnpoffolcaa
