/-
  KernTimes: how many ticks go by, and that nothing is written.
-/
import Derived.Test.YtncbgnpoffolcaaDlyP
namespace Go.Proofs.Ytncbgnpoffolcaa
namespace Kn
/-- A task that has done all. -/
theorem M.r_fin {m : M} {ticks ops i p : Nat} {r : List Int} (hf : m.flat) (hi : i < m.n) (hp : p < 32) (h0 : ∀ q, q < p → m.ls q = []) (h : m.ls p = (i : Int) :: r) (hpr : (m.ts i).prio = p) (ho : m.op < ops) (hpl : (m.ts i).ops.length ≤ (m.ts i).place) :
    ∃ m1 : M, Steps ticks ops m.k m1.k ∧ m1.n = m.n ∧ m1.flat ∧ (∀ y, y < 32 → m1.ls y = upd m.ls p r y) ∧ (∀ j, j ≠ i → m1.ts j = m.ts j) ∧ m1.ts i = { m.ts i with state := 2 } ∧ m1.o = m.o ∧ m1.op = m.op ∧ m1.tk = m.tk ∧ m1.s = m.s ∧ m1.z = m.z :=
  ⟨_, Steps.one (M.r_end hf hi hp h0 h hpr ho hpl), rfl, M.flat_upd (m := { m with ls := upd m.ls p r }) hf (hf i hi), fun _ _ => rfl, fun _ hj => upd_ne _ _ hj, upd_at _ _ _, rfl, rfl, rfl, rfl, rfl⟩
def timesPr (ns i : Nat) : Int := if i < ns then (i : Int) else 31
def timesF (D : Nat → Int) (ns i : Nat) : Task := ⟨timesPr ns i, if i < ns then [⟨2, D i, 0⟩] else [⟨3, 0, D i⟩]⟩
def timesT (D : Nat → Int) (ns n : Nat) : Table := { tasks := (List.range n).map (timesF D ns), sems := [0], mutexes := 0, queues := [] }
structure TWaits (D : Nat → Int) (ns k i : Nat) (t : T) : Prop where
  state : t.state = 1
  left : t.left = D i - k
  all : t.ops.length ≤ t.place
  prio : t.prio = timesPr ns i
  on : t.on = none ∨ t.on = some 32
structure TS (D : Nat → Int) (ns n k : Nat) (m : M) : Prop where
  hn : m.n = n
  flat : m.flat
  idle : ∀ y, y < 32 → m.ls y = []
  done : ∀ i, i < n → D i ≤ k → (m.ts i).state = 2
  wait : ∀ i, i < n → (k : Int) < D i → TWaits D ns k i (m.ts i)
  out : m.o = []
  op : m.op ≤ n
  tk : m.tk = k
section
variable {D : Nat → Int} {ns n limit : Nat}
theorem timesPr_ok (h : ns ≤ 31) (i : Nat) : 0 ≤ timesPr ns i ∧ timesPr ns i ≤ 31 := by
  unfold timesPr
  split <;> omega
structure TX (D : Nat → Int) (ns n : Nat) (dn : List Int) (m : M) : Prop where
  did : ∀ i : Nat, i < n → (i : Int) ∈ dn → (D i = 0 → (m.ts i).state = 2) ∧ (0 < D i → TWaits D ns 0 i (m.ts i))
  out : m.o = []
  op : m.op = dn.length
  tk : m.tk = 0
  s : m.s = [0]
  pr : ∀ i, i < n → (m.ts i).prio = timesPr ns i
theorem times_one {dn : List Int} {i p : Nat} {r : List Int} {m : M} (hn : n ≤ 30) (_hns : ns ≤ n) (hD : 0 ≤ D i) (hlt : dn.length < n) (x : TX D ns n dn m) (hmn : m.n = n) (hmf : m.flat) (hi : i < n) (hp : p < 32) (h0 : ∀ q, q < p → m.ls q = []) (hl : m.ls p = (i : Int) :: r)
    (hpi : (m.ts i).prio = p) (hti : m.ts i = freshT (timesF D ns i)) (hrow : m.RowOk) (hnd : (m.ls p).Nodup) :
    ∃ m1 : M, Steps limit 1000 m.k m1.k ∧ m1.n = m.n ∧ m1.flat ∧ (∀ y, y < 32 → m1.ls y = upd m.ls p r y) ∧ (∀ j, j ≠ i → m1.ts j = m.ts j) ∧ TX D ns n (dn ++ [(i : Int)]) m1 := by
  have him : i < m.n := by rw [hmn]; exact hi
  have xop := x.op
  have fin : ∀ m1 : M, Steps limit 1000 m.k m1.k → m1.n = m.n → m1.flat → (∀ y, y < 32 → m1.ls y = upd m.ls p r y) → (∀ j, j ≠ i → m1.ts j = m.ts j) → m1.o = m.o → m1.op = m.op + 1 → m1.tk = m.tk → m1.s = m.s → (m1.ts i).prio = timesPr ns i →
      ((D i = 0 → (m1.ts i).state = 2) ∧ (0 < D i → TWaits D ns 0 i (m1.ts i))) → ∃ m1 : M, Steps limit 1000 m.k m1.k ∧ m1.n = m.n ∧ m1.flat ∧ (∀ y, y < 32 → m1.ls y = upd m.ls p r y) ∧ (∀ j, j ≠ i → m1.ts j = m.ts j) ∧ TX D ns n (dn ++ [(i : Int)]) m1 := by
    intro m1 a1 a2 a3 a4 a5 a6 a7 a8 a9 a10 a11
    refine ⟨m1, a1, a2, a3, a4, a5, fun j hj hm => ?_, a6.trans x.out, ?_, a8.trans x.tk, a9.trans x.s, fun j hj => ?_⟩
    · by_cases e : j = i
      · subst e
        exact a11
      · rw [a5 j e]
        rcases List.mem_append.1 hm with hm | hm
        · exact x.did j hj hm
        · rw [List.mem_singleton] at hm
          exact absurd (Int.ofNat.inj hm) e
    · rw [a7, x.op, List.length_append]
      rfl
    · by_cases e : j = i
      · subst e
        exact a10
      · rw [a5 j e]
        exact x.pr j hj
  have hpr : timesPr ns i = p := by rw [← x.pr i hi]; exact hpi
  by_cases hs : i < ns
  · have hop : m.ts i = ⟨[⟨2, D i, 0⟩], timesPr ns i, timesPr ns i, 0, 0, 0, [0], none, 0, 0⟩ := by
      rw [hti]
      unfold freshT timesF
      simp only [if_pos hs, List.map_cons, List.map_nil]
    by_cases hz : D i = 0
    · -- it yields, alone in its row, and ends
      have hr : r = [] := by
        rw [List.eq_nil_iff_forall_not_mem]
        intro z hzr
        obtain ⟨j, hj, rfl, hjp⟩ := hrow p hp z (by rw [hl]; exact List.mem_cons_of_mem _ hzr)
        rw [hmn] at hj
        have hji : j ≠ i := by
          rintro rfl
          rw [hl] at hnd
          exact (List.nodup_cons.1 hnd).1 hzr
        rw [x.pr j hj] at hjp
        unfold timesPr at hjp hpr
        rw [if_pos hs] at hpr
        split at hjp <;> omega
      subst hr
      let m1 : M := { m with op := m.op + 1, ts := upd m.ts i ⟨[⟨2, D i, 0⟩], timesPr ns i, timesPr ns i, 0, 1, 0, [0], none, 0, 0⟩ }
      have f1 : m1.flat := M.flat_upd (m := { m with op := m.op + 1 }) hmf rfl
      have r1 : m.k.round limit 1000 = some m1.k := by
        refine M.r_do (o := ⟨2, D i, 0⟩) him hp h0 hl (by omega) (by rw [hop]; rfl) ?_ f1
        rw [act2]
        unfold K.delay
        rw [if_pos (by exact hz)]
        unfold K.yield K.say
        rw [M.leave (m := { m with op := m.op + 1, ts := upd m.ts i { m.ts i with place := (m.ts i).place + 1 } }) (p := p) him (by show (upd m.ts i _ i).prio = _; rw [upd_at]; exact hpi), M.t_ (m := { m with op := m.op + 1, ts := upd m.ts i { m.ts i with place := (m.ts i).place + 1 } }) him]
        simp only [upd_at]
        rw [hpi, Int.toNat_natCast, M.setL, M.setT]
        simp only [upd_at]
        refine M.congr rfl (fun j _ => ?_) (fun y _ => ?_) rfl rfl rfl rfl rfl
        · show upd (upd m.ts i _) i _ j = upd m.ts i _ j
          unfold upd
          split
          · rw [hop, ← hpr]
          · rfl
        · show upd (upd m.ls p _) p _ y = m.ls y
          unfold upd
          split
          · rename_i e
            rw [e, hl, List.erase_cons_head]
            rfl
          · rfl
      have t1 : m1.ts i = ⟨[⟨2, D i, 0⟩], timesPr ns i, timesPr ns i, 0, 1, 0, [0], none, 0, 0⟩ := upd_at _ _ _
      obtain ⟨m2, b1, b2, b3, b4, b5, b6, b7, b8, b9, b10, _⟩ := M.r_fin (m := m1) (ticks := limit) (ops := 1000) f1 him hp h0 hl (by rw [t1]; exact hpr) (by show m.op + 1 < 1000; omega) (by rw [t1]; exact Nat.le_refl _)
      exact fin m2 ((Steps.one r1).trans b1) b2 b3 b4 (fun j hj => (b5 j hj).trans (upd_ne _ _ hj)) b7 b8 b9 b10 (by rw [b6, t1]) ⟨fun _ => by rw [b6], fun q => by omega⟩
    · let m1 : M := { m with op := m.op + 1, ls := upd m.ls p r, ts := upd m.ts i ⟨[⟨2, D i, 0⟩], timesPr ns i, timesPr ns i, 1, 1, 0, [0], none, D i, 0⟩ }
      have f1 : m1.flat := M.flat_upd (m := { m with op := m.op + 1, ls := upd m.ls p r }) hmf rfl
      have r1 : m.k.round limit 1000 = some m1.k := by
        refine M.r_do (o := ⟨2, D i, 0⟩) him hp h0 hl (by omega) (by rw [hop]; rfl) ?_ f1
        rw [act2]
        unfold K.delay
        rw [if_neg (by exact hz)]
        unfold K.wait
        rw [M.leave (m := { m with op := m.op + 1, ts := upd m.ts i { m.ts i with place := (m.ts i).place + 1 } }) (p := p) him (by show (upd m.ts i _ i).prio = _; rw [upd_at]; exact hpi), M.setT]
        simp only [upd_at]
        rw [hl, List.erase_cons_head]
        refine M.congr rfl (fun j _ => ?_) (fun _ _ => rfl) rfl rfl rfl rfl rfl
        show upd (upd m.ts i _) i _ j = upd m.ts i _ j
        unfold upd
        split
        · rw [hop]
        · rfl
      have t1 : m1.ts i = ⟨[⟨2, D i, 0⟩], timesPr ns i, timesPr ns i, 1, 1, 0, [0], none, D i, 0⟩ := upd_at _ _ _
      exact fin m1 (Steps.one r1) rfl f1 (fun _ _ => rfl) (fun j hj => upd_ne _ _ hj) rfl rfl rfl rfl (by rw [t1]) ⟨fun q => absurd q hz, fun _ => by rw [t1]; exact ⟨rfl, by show D i = D i - (0 : Nat); omega, Nat.le_refl _, rfl, .inl rfl⟩⟩
  · have hop : m.ts i = ⟨[⟨3, 0, D i⟩], timesPr ns i, timesPr ns i, 0, 0, 0, [0], none, 0, 0⟩ := by
      rw [hti]
      unfold freshT timesF
      simp only [if_neg hs, List.map_cons, List.map_nil]
    by_cases hz : D i = 0
    · let m1 : M := { m with op := m.op + 1, ts := upd m.ts i ⟨[⟨3, 0, D i⟩], timesPr ns i, timesPr ns i, 0, 1, 1, [0], none, 0, 0⟩ }
      have f1 : m1.flat := M.flat_upd (m := { m with op := m.op + 1 }) hmf rfl
      have r1 : m.k.round limit 1000 = some m1.k := by
        refine M.r_do (o := ⟨3, 0, D i⟩) him hp h0 hl (by omega) (by rw [hop]; rfl) ?_ f1
        rw [act3]
        unfold K.take
        rw [if_neg (by show ¬ m.s.length ≤ 0; rw [x.s]; decide), if_neg (by show ¬ 0 < m.s.getD 0 0; rw [x.s]; decide), if_pos (by exact hz)]
        unfold K.say
        rw [M.setT]
        simp only [upd_at]
        refine M.congr rfl (fun j _ => ?_) (fun _ _ => rfl) rfl rfl rfl rfl rfl
        show upd (upd m.ts i _) i _ j = upd m.ts i _ j
        unfold upd
        split
        · rw [hop]
        · rfl
      have t1 : m1.ts i = ⟨[⟨3, 0, D i⟩], timesPr ns i, timesPr ns i, 0, 1, 1, [0], none, 0, 0⟩ := upd_at _ _ _
      obtain ⟨m2, b1, b2, b3, b4, b5, b6, b7, b8, b9, b10, _⟩ := M.r_fin (m := m1) (ticks := limit) (ops := 1000) f1 him hp h0 hl (by rw [t1]; exact hpr) (by show m.op + 1 < 1000; omega) (by rw [t1]; exact Nat.le_refl _)
      exact fin m2 ((Steps.one r1).trans b1) b2 b3 b4 (fun j hj => (b5 j hj).trans (upd_ne _ _ hj)) b7 b8 b9 b10 (by rw [b6, t1]) ⟨fun _ => by rw [b6], fun q => by omega⟩
    · let m1 : M := { m with op := m.op + 1, ls := upd (upd m.ls p r) 32 (m.ls 32 ++ [(i : Int)]), ts := upd m.ts i ⟨[⟨3, 0, D i⟩], timesPr ns i, timesPr ns i, 1, 1, 0, [0], some 32, D i, 0⟩ }
      have f1 : m1.flat := M.flat_upd (m := { m with op := m.op + 1, ls := upd (upd m.ls p r) 32 (m.ls 32 ++ [(i : Int)]) }) hmf rfl
      have r1 : m.k.round limit 1000 = some m1.k := by
        refine M.r_do (o := ⟨3, 0, D i⟩) him hp h0 hl (by omega) (by rw [hop]; rfl) ?_ f1
        rw [act3]
        unfold K.take
        rw [if_neg (by show ¬ m.s.length ≤ 0; rw [x.s]; decide), if_neg (by show ¬ 0 < m.s.getD 0 0; rw [x.s]; decide), if_neg (by exact hz), if_pos (by exact hD)]
        unfold K.wait
        rw [M.leave (m := { m with op := m.op + 1, ts := upd m.ts i { m.ts i with place := (m.ts i).place + 1 } }) (p := p) him (by show (upd m.ts i _ i).prio = _; rw [upd_at]; exact hpi), M.setT]
        simp only [upd_at, M.setL]
        rw [hl, List.erase_cons_head]
        refine M.congr rfl (fun j _ => ?_) (fun y _ => ?_) rfl rfl rfl rfl rfl
        · show upd (upd m.ts i _) i _ j = upd m.ts i _ j
          unfold upd
          split
          · rw [hop]
            rfl
          · rfl
        · show upd (upd m.ls p r) 32 (upd m.ls p r 32 ++ [(i : Int)]) y = upd (upd m.ls p r) 32 (m.ls 32 ++ [(i : Int)]) y
          rw [upd_ne m.ls r (show 32 ≠ p by omega)]
      have t1 : m1.ts i = ⟨[⟨3, 0, D i⟩], timesPr ns i, timesPr ns i, 1, 1, 0, [0], some 32, D i, 0⟩ := upd_at _ _ _
      exact fin m1 (Steps.one r1) rfl f1 (fun y hy => upd_ne _ _ (by omega)) (fun j hj => upd_ne _ _ hj) rfl rfl rfl rfl (by rw [t1]) ⟨fun q => absurd q hz, fun _ => by rw [t1]; exact ⟨rfl, by show D i = D i - (0 : Nat); omega, Nat.le_refl _, rfl, .inr rfl⟩⟩
theorem times_start (hn : n ≤ 30) (hns : ns ≤ n) (hD : ∀ i, i < n → 0 ≤ D i) : ∃ m : M, Steps limit 1000 (M.of n (timesF D ns) [0] []).k m.k ∧ TS D ns n 0 m := by
  have hall : order (M.of n (timesF D ns) [0] []).ls = order (rowOf (timesPr ns) n) := M.of_order
  have hnd : (order (M.of n (timesF D ns) [0] []).ls).Nodup := by rw [hall]; exact order_rowOf_nodup _ _
  have hlen : (order (M.of n (timesF D ns) [0] []).ls).length ≤ n := by
    refine nodup_len n _ hnd fun z hz => ?_
    rw [hall] at hz
    obtain ⟨y, _, hy⟩ := mem_order.1 hz
    obtain ⟨i, hi, rfl, _⟩ := mem_rowOf.1 hy
    omega
  obtain ⟨m', hs, hn', hf', ho', hr', hX⟩ := drain_X (ticks := limit) (ops := 1000) (m0 := M.of n (timesF D ns) [0] []) (X := TX D ns n) (by
      rintro dn rest i p r m hall2 x hmn hmf hi hp h0 hl hpi hti hrow hnd2
      have hin : i < n := by rw [hmn] at hi; exact hi
      have hlt : dn.length < n := by
        rw [hall2, List.length_append, List.length_cons] at hlen
        omega
      exact times_one hn hns (hD i hin) hlt x hmn hmf hin hp h0 hl hpi hti hrow hnd2)
    ⟨fun i _ hi => (by cases hi), rfl, rfl, rfl, rfl, fun _ _ => rfl⟩ M.of_flat (M.of_rowOk fun i _ => (timesPr_ok (by omega) i).1) hnd
  have hin : ∀ i, i < n → (i : Int) ∈ order (M.of n (timesF D ns) [0] []).ls := fun i hi => by
    rw [hall]
    have := timesPr_ok (ns := ns) (by omega) i
    exact mem_order.2 ⟨(timesPr ns i).toNat, by omega, mem_rowOf.2 ⟨i, hi, rfl, rfl⟩⟩
  refine ⟨m', hs, hn', hf', order_nil ho', fun i hi hle => ?_, fun i hi hlt => ?_, hX.out, ?_, hX.tk⟩
  · have := hD i hi
    exact (hX.did i hi (hin i hi)).1 (by omega)
  · exact (hX.did i hi (hin i hi)).2 (by omega)
  · rw [hX.op]
    exact hlen
theorem times_tick {k : Nat} {m : M} (hn : n ≤ 30) (hns : ns ≤ n) (hk : k < limit) (hx : ∃ i, i < n ∧ (k : Int) < D i) (h : TS D ns n k m) : ∃ m' : M, Steps limit 1000 m.k m'.k ∧ TS D ns n (k + 1) m' := by
  obtain ⟨i0, hi0, hd0⟩ := hx
  have hst : ∀ i, i < m.n → ((m.ts i).state = 2 ∧ D i ≤ k) ∨ (TWaits D ns k i (m.ts i) ∧ (k : Int) < D i) := fun i hi => by
    have hi : i < n := by rw [← h.hn]; exact hi
    by_cases q : D i ≤ k
    · exact .inl ⟨h.done i hi q, q⟩
    · exact .inr ⟨h.wait i hi (by omega), by omega⟩
  obtain ⟨m1, e1, n1, f1, t1, l1, s1, z1, o1, k1, p1⟩ := M.tick h.flat h.idle (fun j x hj hw hon => by
    rcases hst j hj with ⟨q, _⟩ | ⟨q, _⟩
    · have := of_decide_eq_true hw
      omega
    · rcases q.on with q | q
      · rw [q] at hon
        cases hon
      · rw [q] at hon
        cases hon
        exact Nat.le_refl _)
  have w0 := h.wait i0 hi0 hd0
  have hr0 := M.r_tick (ops := 1000) h.idle (i := i0) (ticks := limit) (by rw [h.hn]; exact hi0) w0.state (by rw [w0.left]; omega) (by rw [h.tk]; exact hk)
  rw [e1] at hr0
  have hwk : ∀ i, i < m.n → wakes (m.ts i) = decide (D i = (k + 1 : Nat)) := fun i hi => by
    rcases hst i hi with ⟨q, q2⟩ | ⟨q, q2⟩
    · have hw : wakes (m.ts i) = false := decide_eq_false fun ⟨a, _⟩ => by omega
      rw [hw]
      exact (decide_eq_false (by omega)).symm
    · refine decide_eq_decide.2 ?_
      rw [q.state, q.left]
      omega
  have htk : ∀ i, i < n → (k : Int) < D i → tickT (m.ts i) = if D i = (k + 1 : Nat) then { m.ts i with state := 0, answer := if (m.ts i).on = none then 0 else 1, on := none, left := 0 } else { m.ts i with left := (m.ts i).left - 1 } := fun i hi hlt => by
    have q := h.wait i hi hlt
    unfold tickT
    rw [if_neg (by rw [q.state, q.left]; omega)]
    by_cases e : D i = (k + 1 : Nat)
    · rw [if_pos e, if_neg (by rw [q.left]; omega)]
    · rw [if_neg e, if_pos (by rw [q.left]; omega)]
  have hmem : ∀ y, y < 32 → ∀ z ∈ m1.ls y, ∃ i, i < n ∧ z = (i : Int) ∧ D i = (k + 1 : Nat) ∧ (timesPr ns i).toNat = y := fun y hy z hz => by
    rw [l1 y hy, List.mem_map] at hz
    obtain ⟨i, hi, rfl⟩ := hz
    rw [List.mem_filter, List.mem_range, Bool.and_eq_true, decide_eq_true_eq, h.hn] at hi
    obtain ⟨hi1, hi2, hi3⟩ := hi
    rw [hwk i (by rw [h.hn]; exact hi1), decide_eq_true_eq] at hi2
    exact ⟨i, hi1, rfl, hi2, by rw [← (h.wait i hi1 (by omega)).prio]; exact hi3⟩
  have hrk : m1.RowOk := by
    intro y hy z hz
    obtain ⟨i, hi, e, hdi, hp⟩ := hmem y hy z hz
    refine ⟨i, by rw [n1, h.hn]; exact hi, e, ?_⟩
    rw [t1 i (by rw [h.hn]; exact hi), htk i hi (by omega), if_pos hdi]
    show (m.ts i).prio = y
    rw [(h.wait i hi (by omega)).prio]
    have := timesPr_ok (ns := ns) (by omega) i
    omega
  have hnd : (order m1.ls).Nodup := by
    unfold order
    refine List.pairwise_flatMap.2 ⟨fun y hy => by rw [l1 y (List.mem_range.1 hy)]; exact map_filter_nodup _ _, ?_⟩
    refine List.Pairwise.imp_of_mem ?_ List.nodup_range
    intro a b ha hb hab z hz z' hz' ezz
    subst ezz
    obtain ⟨i, _, e, _, h1⟩ := hmem a (List.mem_range.1 ha) z hz
    obtain ⟨j, _, e2, _, h2⟩ := hmem b (List.mem_range.1 hb) z hz'
    have : i = j := by omega
    subst this
    exact hab (h1.symm.trans h2)
  obtain ⟨m', hs, hn', hf', ho', hr', hX⟩ := drain_X (ticks := limit) (ops := 1000) (m0 := m1)
    (X := fun dn m' => (∀ i : Nat, (i : Int) ∈ dn → (m'.ts i).state = 2) ∧ m'.o = [] ∧ m'.op = m.op ∧ m'.tk = k + 1) (by
      rintro dn rest i p r m2 hall2 ⟨x1, x2, x3, x4⟩ hmn hmf hi hp h0 hl hpi hti _ _
      have hmo : (i : Int) ∈ order m1.ls := by rw [hall2]; exact List.mem_append_right _ List.mem_cons_self
      obtain ⟨y, hy, hmy⟩ := mem_order.1 hmo
      obtain ⟨i', hi', e, hdi, _⟩ := hmem y hy _ hmy
      have e : i = i' := by omega
      subst e
      have hopb := h.op
      have ht2 : m2.ts i = { m.ts i with state := 0, answer := if (m.ts i).on = none then 0 else 1, on := none, left := 0 } := by
        rw [hti, t1 i (by rw [h.hn]; exact hi'), htk i hi' (by omega), if_pos hdi]
      obtain ⟨m3, a1, a2, a3, a4, a5, a6, a7, a8, a9, _⟩ := M.r_fin (ticks := limit) (ops := 1000) hmf hi hp h0 hl hpi (by omega) (by rw [ht2]; exact (h.wait i hi' (by omega)).all)
      refine ⟨m3, a1, a2, a3, a4, a5, fun j hj => ?_, a7.trans x2, a8.trans x3, a9.trans x4⟩
      by_cases e : j = i
      · rw [e, a6]
      · rw [a5 j e]
        rcases List.mem_append.1 hj with hj | hj
        · exact x1 j hj
        · rw [List.mem_singleton] at hj
          exact absurd (Int.ofNat.inj hj) e) ⟨fun i hi => (by cases hi), by rw [o1, h.out], p1, by rw [k1, h.tk]⟩ f1 hrk hnd
  refine ⟨m', (Steps.one hr0).trans hs, hn'.trans (n1.trans h.hn), hf', order_nil ho', fun i hi hle => ?_, fun i hi hlt => ?_, hX.2.1, by rw [hX.2.2.1]; exact h.op, hX.2.2.2⟩
  · by_cases e : (i : Int) ∈ order m1.ls
    · exact hX.1 i e
    · rw [hr' i (by rw [n1, h.hn]; exact hi) e, t1 i (by rw [h.hn]; exact hi)]
      have hk2 : D i ≤ k := by
        refine Decidable.byContradiction fun q => e ?_
        have := timesPr_ok (ns := ns) (by omega) i
        refine mem_order.2 ⟨(timesPr ns i).toNat, by omega, ?_⟩
        rw [l1 _ (by omega), List.mem_map]
        refine ⟨i, ?_, rfl⟩
        rw [List.mem_filter, List.mem_range, Bool.and_eq_true, decide_eq_true_eq, h.hn, hwk i (by rw [h.hn]; exact hi), decide_eq_true_eq]
        exact ⟨hi, by omega, by rw [(h.wait i hi (by omega)).prio]⟩
      have h2 := h.done i hi hk2
      unfold tickT
      rw [if_pos (.inl (by omega))]
      exact h2
  · have hni : (i : Int) ∉ order m1.ls := fun q => by
      obtain ⟨y, hy, hmy⟩ := mem_order.1 q
      obtain ⟨j, _, e, hj, _⟩ := hmem y hy _ hmy
      have : i = j := by omega
      subst this
      omega
    have q := h.wait i hi (by omega)
    rw [hr' i (by rw [n1, h.hn]; exact hi) hni, t1 i (by rw [h.hn]; exact hi), htk i hi (by omega), if_neg (by omega)]
    exact ⟨q.state, by show (m.ts i).left - 1 = _; rw [q.left]; omega, q.all, q.prio, q.on⟩
theorem times_run {limit : Nat} (hf : (timesT D ns n).fits = true) (hn : n ≤ 30) (hns : ns ≤ n) (hD : ∀ i, i < n → 0 ≤ D i) {last : Nat} (hle : ∀ i, i < n → D i ≤ last) (hex : last = 0 ∨ ∃ i, i < n ∧ D i = last) :
    (runT (timesT D ns n) limit 1000).out = [] ∧ (runT (timesT D ns n) limit 1000).ticks = min last limit := by
  have e0 := begin_M (f := timesF D ns) (n := n) (s := [0]) (z := []) hf
  have key : ∀ k, k ≤ min last limit → ∃ m : M, Steps limit 1000 (M.of n (timesF D ns) [0] []).k m.k ∧ TS D ns n k m := by
    intro k
    induction k with
    | zero => exact fun _ => times_start hn hns hD
    | succ k ih =>
      intro hk
      obtain ⟨m, s1, h1⟩ := ih (by omega)
      rcases hex with q | ⟨i, hi, hdi⟩
      · omega
      · obtain ⟨m', s2, h2⟩ := times_tick (limit := limit) hn hns (by omega) ⟨i, hi, by omega⟩ h1
        exact ⟨m', s1.trans s2, h2⟩
  obtain ⟨m, hs, h⟩ := key (min last limit) (Nat.le_refl _)
  have hr : runT (timesT D ns n) limit 1000 = m.k := by
    refine runT_eq hf ?_ ?_
    · show Steps limit 1000 (begin { tasks := (List.range n).map (timesF D ns), sems := [0], mutexes := 0, queues := [] }) m.k
      rw [e0]
      exact hs
    · by_cases q : limit ≤ last
      · exact M.r_idle h.idle (.inl (by rw [h.tk]; omega))
      · refine M.r_idle h.idle (.inr fun i hi => ?_)
        rw [h.hn] at hi
        have := h.done i hi (by have := hle i hi; omega)
        omega
  rw [hr]
  exact ⟨h.out, h.tk⟩
end
end Kn
end Go.Proofs.Ytncbgnpoffolcaa
