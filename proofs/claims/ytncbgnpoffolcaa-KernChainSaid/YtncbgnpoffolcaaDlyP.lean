/-
  KernDelays: what its table writes, and at which tick it stops.
-/
import Derived.Test.YtncbgnpoffolcaaDrn
namespace Go.Proofs.Ytncbgnpoffolcaa
namespace Kn
/-- A task whose last operation writes. -/
theorem M.r_putend {m : M} {ticks ops i p : Nat} {r : List Int} {a : Int} (hf : m.flat) (hi : i < m.n) (hp : p < 32) (h0 : ∀ q, q < p → m.ls q = []) (h : m.ls p = (i : Int) :: r) (hpr : (m.ts i).prio = p) (ho : m.op + 1 < ops)
    (hop : (m.ts i).ops[(m.ts i).place]? = some ⟨0, a, 0⟩) (hl : (m.ts i).ops.length = (m.ts i).place + 1) :
    ∃ m1 : M, Steps ticks ops m.k m1.k ∧ m1.n = m.n ∧ m1.flat ∧ (∀ y, y < 32 → m1.ls y = upd m.ls p r y) ∧ (∀ j, j ≠ i → m1.ts j = m.ts j) ∧ (m1.ts i).state = 2 ∧ m1.o = m.o ++ [UInt8.ofNat a.toNat] ∧ m1.op = m.op + 1 ∧ m1.tk = m.tk ∧ m1.s = m.s ∧ m1.z = m.z ∧ (∀ y, 32 ≤ y → m1.ls y = m.ls y) := by
  let m1 : M := { m with op := m.op + 1, ts := upd m.ts i { m.ts i with place := (m.ts i).place + 1 }, o := m.o ++ [UInt8.ofNat a.toNat] }
  have f1 : m1.flat := M.flat_upd (m := { m with op := m.op + 1, o := m.o ++ [UInt8.ofNat a.toNat] }) hf (hf i hi)
  have r1 : m.k.round ticks ops = some m1.k := by
    refine M.r_do (o := ⟨0, a, 0⟩) hi hp h0 h (by omega) hop ?_ f1
    rw [act0]
    rfl
  have t1 : m1.ts i = { m.ts i with place := (m.ts i).place + 1 } := upd_at _ _ _
  have r2 := M.r_end (m := m1) (ticks := ticks) (ops := ops) f1 hi hp h0 h (by rw [t1]; exact hpr) (by show m.op + 1 < ops; omega) (by rw [t1]; exact Nat.le_of_eq hl)
  refine ⟨_, (Steps.one r1).trans (Steps.one r2), rfl, M.flat_upd (m := { m1 with ls := upd m.ls p r }) f1 (f1 i hi), fun _ _ => rfl, fun j hj => ?_, ?_, rfl, rfl, rfl, rfl, rfl, fun y hy => ?_⟩
  · show upd (upd m.ts i _) i _ j = _
    rw [upd_ne _ _ hj, upd_ne _ _ hj]
  · show (upd (upd m.ts i _) i _ i).state = 2
    rw [upd_at]
  · exact upd_ne _ _ (by omega)
def delayF (d pr : Nat → Int) (i : Nat) : Task := ⟨pr i, [⟨2, d i, 0⟩, ⟨0, 97 + i, 0⟩]⟩
def delayT (d pr : Nat → Int) (n : Nat) : Table := { tasks := (List.range n).map (delayF d pr), sems := [], mutexes := 0, queues := [] }
/-- Of the tasks that wake at a tick, those of one priority. -/
def rowAt (d pr : Nat → Int) (n k y : Nat) : List Int := ((List.range n).filter fun i => decide (d i = k) && decide ((pr i).toNat = y)).map Int.ofNat
theorem mem_rowAt {d pr : Nat → Int} {n k y : Nat} {z : Int} : z ∈ rowAt d pr n k y ↔ ∃ i, i < n ∧ z = (i : Int) ∧ d i = k ∧ (pr i).toNat = y := by
  unfold rowAt
  rw [List.mem_map]
  constructor
  · rintro ⟨i, hi, rfl⟩
    rw [List.mem_filter, List.mem_range, Bool.and_eq_true, decide_eq_true_eq, decide_eq_true_eq] at hi
    exact ⟨i, hi.1, rfl, hi.2⟩
  · rintro ⟨i, hi, rfl, hp⟩
    exact ⟨i, by rw [List.mem_filter, List.mem_range, Bool.and_eq_true, decide_eq_true_eq, decide_eq_true_eq]; exact ⟨hi, hp⟩, rfl⟩
theorem map_filter_nodup (n : Nat) (c : Nat → Bool) : (((List.range n).filter c).map Int.ofNat).Nodup := by
  have h : ((List.range n).filter c).Nodup := List.nodup_range.sublist List.filter_sublist
  exact List.Pairwise.map _ (fun a b (hab : a ≠ b) e => hab (Int.ofNat.inj e)) h
theorem order_rowAt_nodup (d pr : Nat → Int) (n k : Nat) : (order (rowAt d pr n k)).Nodup := by
  unfold order
  refine List.pairwise_flatMap.2 ⟨fun y _ => map_filter_nodup n _, ?_⟩
  refine List.Pairwise.imp ?_ List.nodup_range
  intro a b hab z hz z' hz' ezz
  subst ezz
  obtain ⟨i, _, e, _, h1⟩ := mem_rowAt.1 hz
  obtain ⟨j, _, e2, _, h2⟩ := mem_rowAt.1 hz'
  have : i = j := by omega
  subst this
  exact hab (h1.symm.trans h2)
/-- Who has gone by a tick, in order. -/
def gone (d pr : Nat → Int) (n k : Nat) : List Int := (List.range k).flatMap fun j => order (rowAt d pr n (j + 1))
theorem gone_succ (d pr : Nat → Int) (n k : Nat) : gone d pr n (k + 1) = gone d pr n k ++ order (rowAt d pr n (k + 1)) := by
  unfold gone
  rw [List.range_succ, List.flatMap_append]
  simp
theorem mem_order_rowAt {d pr : Nat → Int} {n k : Nat} {z : Int} (h : z ∈ order (rowAt d pr n k)) : ∃ i, i < n ∧ z = (i : Int) ∧ d i = k := by
  obtain ⟨y, _, hy⟩ := mem_order.1 h
  obtain ⟨i, hi, e, hd, _⟩ := mem_rowAt.1 hy
  exact ⟨i, hi, e, hd⟩
theorem gone_len (d pr : Nat → Int) (n k : Nat) : (gone d pr n k).length ≤ n := by
  refine nodup_len n _ ?_ fun z hz => ?_
  · unfold gone
    refine List.pairwise_flatMap.2 ⟨fun j _ => order_rowAt_nodup d pr n _, ?_⟩
    refine List.Pairwise.imp ?_ List.nodup_range
    intro a b hab z hz z' hz' ezz
    subst ezz
    obtain ⟨i, _, e, h1⟩ := mem_order_rowAt hz
    obtain ⟨j, _, e2, h2⟩ := mem_order_rowAt hz'
    have : i = j := by omega
    subst this
    omega
  · unfold gone at hz
    obtain ⟨j, _, hj⟩ := List.mem_flatMap.1 hz
    obtain ⟨i, hi, rfl, _⟩ := mem_order_rowAt hj
    omega
/-- One that sleeps. -/
def sleepT (d pr : Nat → Int) (k i : Nat) : T := ⟨(delayF d pr i).ops, pr i, pr i, 1, 1, 0, [0, 0], none, d i - k, 0⟩
structure DS (d pr : Nat → Int) (n k : Nat) (m : M) : Prop where
  hn : m.n = n
  flat : m.flat
  idle : ∀ y, y < 32 → m.ls y = []
  done : ∀ i, i < n → d i ≤ k → (m.ts i).state = 2
  wait : ∀ i, i < n → (k : Int) < d i → m.ts i = sleepT d pr k i
  out : m.o = (gone d pr n k).map byt
  op : m.op ≤ n + (gone d pr n k).length
  tk : m.tk = k
section
variable {d pr : Nat → Int} {n : Nat}
theorem delay_start (hn : n ≤ 20) (hd : ∀ i, i < n → 1 ≤ d i) (hpr : ∀ i, i < n → 0 ≤ pr i ∧ pr i ≤ 31) : ∃ m : M, Steps 1000 1000 (M.of n (delayF d pr) [] []).k m.k ∧ DS d pr n 0 m := by
  have hall : order (M.of n (delayF d pr) [] []).ls = order (rowOf pr n) := M.of_order
  have hnd : (order (M.of n (delayF d pr) [] []).ls).Nodup := by rw [hall]; exact order_rowOf_nodup _ _
  have hlen : (order (M.of n (delayF d pr) [] []).ls).length ≤ n := by
    refine nodup_len n _ hnd fun z hz => ?_
    rw [hall] at hz
    obtain ⟨y, _, hy⟩ := mem_order.1 hz
    obtain ⟨i, hi, rfl, _⟩ := mem_rowOf.1 hy
    omega
  obtain ⟨m', hs, hn', hf', ho', hr', hX⟩ := drain_X (ticks := 1000) (ops := 1000) (m0 := M.of n (delayF d pr) [] [])
    (X := fun dn m => (∀ i : Nat, (i : Int) ∈ dn → m.ts i = sleepT d pr 0 i) ∧ m.o = [] ∧ m.op = dn.length ∧ m.tk = 0) (by
      rintro dn rest i p r m hall2 ⟨x1, x2, x3, x4⟩ hmn hmf hi hp h0 hl hpi hti _ _
      have hin : i < n := by rw [hmn] at hi; exact hi
      have hlt : dn.length < n := by
        rw [hall2, List.length_append, List.length_cons] at hlen
        omega
      let m1 : M := { m with op := m.op + 1, ts := upd m.ts i (sleepT d pr 0 i), ls := upd m.ls p r }
      have f1 : m1.flat := M.flat_upd (m := { m with op := m.op + 1, ls := upd m.ls p r }) hmf rfl
      have hti' : m.ts i = freshT (delayF d pr i) := hti
      have r1 : m.k.round 1000 1000 = some m1.k := by
        refine M.r_do (o := ⟨2, d i, 0⟩) hi hp h0 hl (by omega) (by rw [hti']; rfl) ?_ f1
        rw [act2]
        unfold K.delay
        have := hd i hin
        rw [if_neg (by show ¬ d i = 0; omega)]
        unfold K.wait
        rw [M.leave (m := { m with op := m.op + 1, ts := upd m.ts i { m.ts i with place := (m.ts i).place + 1 } }) (p := p) hi (by show (upd m.ts i _ i).prio = _; rw [upd_at]; exact hpi), M.setT]
        simp only [upd_at]
        rw [hl, List.erase_cons_head]
        refine M.congr rfl (fun j _ => ?_) (fun _ _ => rfl) rfl rfl rfl rfl rfl
        show upd (upd m.ts i _) i _ j = upd m.ts i _ j
        unfold upd
        split
        · rw [hti']
          show (⟨_, _, _, _, _, _, _, _, d i, _⟩ : T) = ⟨_, _, _, _, _, _, _, _, d i - 0, _⟩
          rw [Int.sub_zero]
          rfl
        · rfl
      refine ⟨m1, Steps.one r1, rfl, f1, fun _ _ => rfl, fun j hj => upd_ne _ _ hj, fun j hj => ?_, x2, ?_, x4⟩
      · show upd m.ts i _ j = _
        by_cases e : j = i
        · subst e
          exact upd_at _ _ _
        · rw [upd_ne _ _ e]
          rcases List.mem_append.1 hj with hj | hj
          · exact x1 j hj
          · rw [List.mem_singleton] at hj
            exact absurd (Int.ofNat.inj hj) e
      · show m.op + 1 = _
        rw [x3, List.length_append]
        rfl) ⟨fun i hi => (by cases hi), rfl, rfl, rfl⟩ M.of_flat (M.of_rowOk fun i hi => (hpr i hi).1) hnd
  have hin : ∀ i, i < n → (i : Int) ∈ order (M.of n (delayF d pr) [] []).ls := fun i hi => by
    rw [hall]
    exact mem_order.2 ⟨(pr i).toNat, by have := hpr i hi; omega, mem_rowOf.2 ⟨i, hi, rfl, rfl⟩⟩
  refine ⟨m', hs, hn', hf', order_nil ho', fun i hi hle => ?_, fun i hi _ => hX.1 i (hin i hi), hX.2.1, ?_, hX.2.2.2⟩
  · have := hd i hi
    omega
  · rw [hX.2.2.1]
    omega
theorem delay_tick {k : Nat} {m : M} (hn : n ≤ 20) (_hd : ∀ i, i < n → 1 ≤ d i) (hpr : ∀ i, i < n → 0 ≤ pr i ∧ pr i ≤ 31) (hk : k < 1000) (hx : ∃ i, i < n ∧ (k : Int) < d i) (h : DS d pr n k m) : ∃ m' : M, Steps 1000 1000 m.k m'.k ∧ DS d pr n (k + 1) m' := by
  obtain ⟨i0, hi0, hd0⟩ := hx
  have hst : ∀ i, i < m.n → ((m.ts i).state = 2 ∧ d i ≤ k) ∨ (m.ts i = sleepT d pr k i ∧ (k : Int) < d i) := fun i hi => by
    have hi : i < n := by rw [← h.hn]; exact hi
    by_cases q : d i ≤ k
    · exact .inl ⟨h.done i hi q, q⟩
    · exact .inr ⟨h.wait i hi (by omega), by omega⟩
  obtain ⟨m1, e1, n1, f1, t1, l1, s1, z1, o1, k1, p1⟩ := M.tick h.flat h.idle (fun j x hj hw hon => by
    rcases hst j hj with ⟨q, _⟩ | ⟨q, _⟩
    · have := of_decide_eq_true hw
      omega
    · rw [q] at hon
      cases hon)
  have hr0 := M.r_tick (ops := 1000) h.idle (i := i0) (ticks := 1000) (by rw [h.hn]; exact hi0) (by rw [h.wait i0 hi0 hd0]; rfl) (by rw [h.wait i0 hi0 hd0]; show 0 < d i0 - k; omega) (by rw [h.tk]; exact hk)
  rw [e1] at hr0
  have hwk : ∀ i, i < m.n → (wakes (m.ts i) = decide (d i = (k + 1 : Nat))) ∧ (wakes (m.ts i) = true → (m.ts i).prio = pr i) := fun i hi => by
    rcases hst i hi with ⟨q, q2⟩ | ⟨q, q2⟩
    · have hw : wakes (m.ts i) = false := decide_eq_false fun ⟨a, _⟩ => by omega
      rw [hw]
      exact ⟨(decide_eq_false (by omega)).symm, fun q => by cases q⟩
    · rw [q]
      refine ⟨decide_eq_decide.2 ?_, fun _ => rfl⟩
      show (1 : Int) = 1 ∧ d i - k ≠ 0 ∧ ¬ 0 < d i - k - 1 ↔ _
      omega
  have hrow : ∀ y, y < 32 → m1.ls y = rowAt d pr n (k + 1) y := fun y hy => by
    rw [l1 y hy, h.hn]
    unfold rowAt
    congr 1
    refine List.filter_congr fun i hi => ?_
    have hi' : i < m.n := by rw [h.hn]; exact List.mem_range.1 hi
    obtain ⟨a, b⟩ := hwk i hi'
    cases hw : wakes (m.ts i) with
    | false => rw [← a, hw, Bool.false_and, Bool.false_and]
    | true => rw [b hw, ← a, hw]
  have hord : order m1.ls = order (rowAt d pr n (k + 1)) := order_congr hrow
  have hrk : m1.RowOk := by
    intro y hy z hz
    rw [hrow y hy] at hz
    obtain ⟨i, hi, e, hdi, hp⟩ := mem_rowAt.1 hz
    refine ⟨i, by rw [n1, h.hn]; exact hi, e, ?_⟩
    rw [t1 i (by rw [h.hn]; exact hi), h.wait i hi (by omega)]
    have := hpr i hi
    unfold tickT
    split
    · show pr i = y; omega
    · split
      · show pr i = y; omega
      · show pr i = y; omega
  have hlen : (gone d pr n (k + 1)).length ≤ n := gone_len _ _ _ _
  rw [gone_succ, List.length_append] at hlen
  obtain ⟨m', hs, hn', hf', ho', hr', hX⟩ := drain_X (ticks := 1000) (ops := 1000) (m0 := m1)
    (X := fun dn m' => (∀ i : Nat, (i : Int) ∈ dn → (m'.ts i).state = 2) ∧ m'.o = (gone d pr n k).map byt ++ dn.map byt ∧ m'.op = m.op + dn.length ∧ m'.tk = k + 1) (by
      rintro dn rest i p r m2 hall2 ⟨x1, x2, x3, x4⟩ hmn hmf hi hp h0 hl hpi hti _ _
      rw [hord] at hall2
      have hmem : (i : Int) ∈ order (rowAt d pr n (k + 1)) := by rw [hall2]; exact List.mem_append_right _ List.mem_cons_self
      obtain ⟨i', hi', e, hdi⟩ := mem_order_rowAt hmem
      have e : i = i' := by omega
      subst e
      have hlt : (gone d pr n k).length + dn.length + 1 ≤ n := by
        rw [hall2, List.length_append, List.length_cons] at hlen
        omega
      have hopb := h.op
      have ht2 : m2.ts i = tickT (sleepT d pr k i) := by
        rw [hti, t1 i (by rw [h.hn]; exact hi'), h.wait i hi' (by omega)]
      have ht3 : tickT (sleepT d pr k i) = { sleepT d pr k i with state := 0, answer := 0, on := none, left := 0 } := by
        unfold tickT
        rw [if_neg (by show ¬ ((1 : Int) ≠ 1 ∨ d i - k = 0); omega), if_neg (by show ¬ 0 < d i - k - 1; omega)]
        rfl
      rw [ht3] at ht2
      obtain ⟨m3, a1, a2, a3, a4, a5, a6, a7, a8, a9, _⟩ := M.r_putend (ticks := 1000) (ops := 1000) (a := 97 + i) hmf hi hp h0 hl hpi (by omega) (by rw [ht2]; rfl) (by rw [ht2]; rfl)
      refine ⟨m3, a1, a2, a3, a4, a5, fun j hj => ?_, ?_, ?_, a9.trans x4⟩
      · by_cases e : j = i
        · rw [e]
          exact a6
        · rw [a5 j e]
          rcases List.mem_append.1 hj with hj | hj
          · exact x1 j hj
          · rw [List.mem_singleton] at hj
            exact absurd (Int.ofNat.inj hj) e
      · rw [a7, x2, List.map_append, List.append_assoc]
        rfl
      · rw [a8, x3, List.length_append]
        rfl) ⟨fun i hi => (by cases hi), by rw [o1, h.out]; simp, p1, by rw [k1, h.tk]⟩ f1 hrk (by rw [hord]; exact order_rowAt_nodup _ _ _ _)
  rw [hord] at hX hr'
  refine ⟨m', (Steps.one hr0).trans hs, hn'.trans (n1.trans h.hn), hf', order_nil ho', fun i hi hle => ?_, fun i hi hlt => ?_, ?_, ?_, hX.2.2.2⟩
  · by_cases e : (i : Int) ∈ order (rowAt d pr n (k + 1))
    · exact hX.1 i e
    · rw [hr' i (by rw [n1, h.hn]; exact hi) e, t1 i (by rw [h.hn]; exact hi)]
      have hk2 : d i ≤ k := by
        refine Decidable.byContradiction fun q => e ?_
        have := hpr i hi
        exact mem_order.2 ⟨(pr i).toNat, by omega, mem_rowAt.2 ⟨i, hi, rfl, by omega, rfl⟩⟩
      have h2 := h.done i hi hk2
      unfold tickT
      rw [if_pos (.inl (by omega))]
      exact h2
  · have hni : (i : Int) ∉ order (rowAt d pr n (k + 1)) := fun q => by
      obtain ⟨j, _, e, hj⟩ := mem_order_rowAt q
      have : i = j := by omega
      subst this
      omega
    rw [hr' i (by rw [n1, h.hn]; exact hi) hni, t1 i (by rw [h.hn]; exact hi), h.wait i hi (by omega)]
    unfold tickT
    rw [if_neg (by show ¬ ((1 : Int) ≠ 1 ∨ d i - k = 0); omega), if_pos (by show 0 < d i - k - 1; omega)]
    show (⟨_, _, _, _, _, _, _, _, d i - k - 1, _⟩ : T) = ⟨_, _, _, _, _, _, _, _, d i - (k + 1 : Nat), _⟩
    rw [show d i - k - 1 = d i - (k + 1 : Nat) by omega]
    rfl
  · rw [hX.2.1, gone_succ, List.map_append]
  · rw [hX.2.2.1, gone_succ, List.length_append]
    have := h.op
    omega
theorem delay_run (hf : (delayT d pr n).fits = true) (hn : n ≤ 20) (hd : ∀ i, i < n → 1 ≤ d i) {last : Nat} (hl : last ≤ 1000) (hle : ∀ i, i < n → d i ≤ last) (hex : ∃ i, i < n ∧ d i = last) :
    (runT (delayT d pr n) 1000 1000).out = (gone d pr n last).map byt ∧ (runT (delayT d pr n) 1000 1000).ticks = last := by
  have hpr : ∀ i, i < n → 0 ≤ pr i ∧ pr i ≤ 31 := fun i hi => by
    have h1 := ((Table.fits_parts hf).2.2.2 i (by simpa [delayT] using hi)).1
    simp only [delayT, List.getElem_map, List.getElem_range] at h1
    have h2 : 0 ≤ pr i ∧ pr i ≤ 31 := ⟨h1.1, h1.2.1⟩
    exact h2
  have e0 := begin_M (f := delayF d pr) (n := n) (s := []) (z := []) hf
  have key : ∀ k, k ≤ last → ∃ m : M, Steps 1000 1000 (M.of n (delayF d pr) [] []).k m.k ∧ DS d pr n k m := by
    intro k
    induction k with
    | zero => exact fun _ => delay_start hn hd hpr
    | succ k ih =>
      intro hk
      obtain ⟨m, s1, h1⟩ := ih (by omega)
      obtain ⟨i, hi, hdi⟩ := hex
      obtain ⟨m', s2, h2⟩ := delay_tick hn hd hpr (by omega) ⟨i, hi, by omega⟩ h1
      exact ⟨m', s1.trans s2, h2⟩
  obtain ⟨m, hs, h⟩ := key last (Nat.le_refl _)
  have hr : runT (delayT d pr n) 1000 1000 = m.k := by
    refine runT_eq hf ?_ ?_
    · show Steps 1000 1000 (begin { tasks := (List.range n).map (delayF d pr), sems := [], mutexes := 0, queues := [] }) m.k
      rw [e0]
      exact hs
    · refine M.r_idle h.idle (.inr fun i hi => ?_)
      rw [h.hn] at hi
      have := h.done i hi (hle i hi)
      omega
  rw [hr]
  exact ⟨h.out, h.tk⟩
end
end Kn
end Go.Proofs.Ytncbgnpoffolcaa
