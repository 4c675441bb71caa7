/-
  KernLate: what its table writes.
-/
import Derived.Test.YtncbgnpoffolcaaSemP
namespace Go.Proofs.Ytncbgnpoffolcaa
namespace Kn
/-- Who waits for a thing, behind a tick. -/
theorem tick_far (y : Nat) (hy : 32 ≤ y) : ∀ (d i : Nat) (m : M), (∀ j, i ≤ j → j < i + d → (m.ts j).prio.toNat < 32) →
    ((List.range' i d).foldl M.tick1 m).ls y = (List.range' i d).foldl (fun l j => if wakes (m.ts j) = true ∧ (m.ts j).on = some y then l.erase (j : Int) else l) (m.ls y)
  | 0, _, _, _ => rfl
  | d + 1, i, m, h => by
    have e : ∀ j, i + 1 ≤ j → (m.tick1 i).ts j = m.ts j := fun j hj => upd_ne _ _ (by omega)
    have hp := h i (Nat.le_refl _) (by omega)
    rw [List.range'_succ, List.foldl_cons, List.foldl_cons, tick_far y hy d (i + 1) (m.tick1 i) (fun j h1 h2 => by rw [e j h1]; exact h j (by omega) (by omega))]
    have el : (m.tick1 i).ls y = if wakes (m.ts i) = true ∧ (m.ts i).on = some y then (m.ls y).erase (i : Int) else m.ls y := by
      show (if wakes (m.ts i) then upd (offs (m.ts i) i m.ls) (m.ts i).prio.toNat (offs (m.ts i) i m.ls (m.ts i).prio.toNat ++ [(i : Int)]) else m.ls) y = _
      cases hw : wakes (m.ts i) with
      | false => simp
      | true =>
        rw [if_pos rfl, upd_ne _ _ (by omega)]
        unfold offs
        cases hon : (m.ts i).on with
        | none => simp
        | some x =>
          by_cases q : x = y
          · subst q
            simp [upd_at]
          · have q2 : y ≠ x := fun e => q e.symm
            simp [upd_ne _ _ q2, q]
    rw [el]
    have efold : ∀ (l : List Nat) (a : List Int), (∀ j ∈ l, i + 1 ≤ j) → l.foldl (fun l j => if wakes ((m.tick1 i).ts j) = true ∧ ((m.tick1 i).ts j).on = some y then l.erase (j : Int) else l) a = l.foldl (fun l j => if wakes (m.ts j) = true ∧ (m.ts j).on = some y then l.erase (j : Int) else l) a := by
      intro l
      induction l with
      | nil => intro a _; rfl
      | cons b l ih =>
        intro a hl
        rw [List.foldl_cons, List.foldl_cons, e b (hl b List.mem_cons_self)]
        exact ih _ fun j hj => hl j (List.mem_cons_of_mem _ hj)
    exact efold _ _ fun j hj => (List.mem_range'_1.1 hj).1
/-- A tick of a kernel whose rows are empty, who waits for things told too. -/
theorem M.tick_all {m : M} (hf : m.flat) (h0 : ∀ y, y < 32 → m.ls y = []) (hon : ∀ j x, j < m.n → wakes (m.ts j) = true → (m.ts j).on = some x → 32 ≤ x) (hpr : ∀ j, j < m.n → (m.ts j).prio.toNat < 32) :
    ∃ m' : M, m.k.tick = m'.k ∧ m'.n = m.n ∧ m'.flat ∧ (∀ j, j < m.n → m'.ts j = tickT (m.ts j)) ∧ (∀ y, y < 32 → m'.ls y = ((List.range m.n).filter fun j => wakes (m.ts j) && decide ((m.ts j).prio.toNat = y)).map Int.ofNat) ∧
      m'.s = m.s ∧ m'.z = m.z ∧ m'.o = m.o ∧ m'.tk = m.tk + 1 ∧ m'.op = m.op ∧ (∀ y, 32 ≤ y → m'.ls y = (List.range m.n).foldl (fun l j => if wakes (m.ts j) = true ∧ (m.ts j).on = some y then l.erase (j : Int) else l) (m.ls y)) := by
  let m1 : M := { m with tk := m.tk + 1 }
  have hts : ∀ j, j < m.n → ((List.range' 0 m.n).foldl M.tick1 m1).ts j = tickT (m.ts j) := fun j hj => by
    rw [tick_ts m.n 0 m1 j, if_pos (by omega)]
  have hr := tick_rest (List.range' 0 m.n) m1
  have hff : M.flat ((List.range' 0 m.n).foldl M.tick1 m1) := by
    intro j hj
    rw [tick_n] at hj
    rw [hts j hj]
    have := hf j hj
    unfold tickT
    split
    · exact this
    · split
      · exact this
      · exact this
  refine ⟨(List.range' 0 m.n).foldl M.tick1 m1, ?_, tick_n _ _, hff, hts, fun y hy => ?_, hr.1, hr.2.1, hr.2.2.1, hr.2.2.2.1, hr.2.2.2.2, fun y hy => ?_⟩
  · unfold K.tick
    rw [show K.tickAt m.k.tasks.length 0 { m.k with ticks := m.k.ticks + 1 } = K.tickAt m.n 0 m1.k by rw [M.tasks_len]; rfl, M.tickAt m.n 0 m1 (Nat.zero_add _)]
    exact M.anew hff (-1)
  · rw [tick_ls y hy m.n 0 m1 (fun j x _ hj h1 h2 => hon j x (by omega) h1 h2), List.range_eq_range']
    show m.ls y ++ _ = _
    rw [h0 y hy, List.nil_append]
  · rw [tick_far y hy m.n 0 m1 (fun j _ hj => hpr j (by omega)), List.range_eq_range']
/-- A task that has done all; its lists told in full. -/
theorem M.r_end2 {m : M} {ticks ops i p : Nat} {r : List Int} (hf : m.flat) (hi : i < m.n) (hp : p < 32) (h0 : ∀ q, q < p → m.ls q = []) (h : m.ls p = (i : Int) :: r) (hpr : (m.ts i).prio = p) (ho : m.op < ops) (hpl : (m.ts i).ops.length ≤ (m.ts i).place) :
    ∃ m1 : M, Steps ticks ops m.k m1.k ∧ m1.n = m.n ∧ m1.flat ∧ (∀ y, m1.ls y = upd m.ls p r y) ∧ (∀ j, j ≠ i → m1.ts j = m.ts j) ∧ m1.ts i = { m.ts i with state := 2 } ∧ m1.o = m.o ∧ m1.op = m.op ∧ m1.tk = m.tk ∧ m1.s = m.s ∧ m1.z = m.z :=
  ⟨_, Steps.one (M.r_end hf hi hp h0 h hpr ho hpl), rfl, M.flat_upd (m := { m with ls := upd m.ls p r }) hf (hf i hi), fun _ => rfl, fun _ hj => upd_ne _ _ hj, upd_at _ _ _, rfl, rfl, rfl, rfl, rfl⟩
def lateF (w g : Int) (i : Nat) : Task := if i = 0 then ⟨1, [⟨3, 0, w⟩, ⟨9, 0, 0⟩]⟩ else ⟨2, [⟨2, g, 0⟩, ⟨4, 0, 0⟩]⟩
def lateT (w g : Int) : Table := { tasks := (List.range 2).map (lateF w g), sems := [0], mutexes := 0, queues := [] }
structure LS (r1 r2 q : List Int) (t0 t1 : T) (s : Int) (o : List UInt8) (m : M) : Prop where
  hn : m.n = 2
  e0 : m.ts 0 = t0
  e1 : m.ts 1 = t1
  r : ∀ y, y < 32 → m.ls y = if y = 1 then r1 else if y = 2 then r2 else []
  q : m.ls 32 = q
  s : m.s = [s]
  o : m.o = o
  p0 : t0.prio = 1 ∧ t0.base = 1
  p1 : t1.prio = 2 ∧ t1.base = 2
def a0 (w : Int) (pl : Nat) (st an : Int) (on : Option Nat) (l : Int) : T := ⟨[⟨3, 0, w⟩, ⟨9, 0, 0⟩], 1, 1, st, pl, an, [0, 0], on, l, 0⟩
def a1 (g : Int) (pl : Nat) (st an l : Int) : T := ⟨[⟨2, g, 0⟩, ⟨4, 0, 0⟩], 2, 2, st, pl, an, [0, 0], none, l, 0⟩
section
variable {r1 r2 q : List Int} {t0 t1 : T} {s : Int} {o : List UInt8} {m : M} {w g : Int}
theorem LS.flat (h : LS r1 r2 q t0 t1 s o m) : m.flat := by
  intro i hi
  rw [h.hn] at hi
  rcases (show i = 0 ∨ i = 1 by omega) with rfl | rfl
  · rw [h.e0, h.p0.1, h.p0.2]
  · rw [h.e1, h.p1.1, h.p1.2]
/-- A state made of a state: its tasks and lists turned. -/
theorem LS.make {r1' r2' q' : List Int} {t0' t1' : T} {s' : Int} {o' : List UInt8} {m' : M} (hn : m'.n = 2) (h0 : m'.ts 0 = t0') (h1 : m'.ts 1 = t1') (hr1 : m'.ls 1 = r1') (hr2 : m'.ls 2 = r2') (hr : ∀ y, y < 32 → y ≠ 1 → y ≠ 2 → m'.ls y = []) (hq : m'.ls 32 = q') (hs : m'.s = [s']) (ho : m'.o = o') (p0 : t0'.prio = 1 ∧ t0'.base = 1) (p1 : t1'.prio = 2 ∧ t1'.base = 2) : LS r1' r2' q' t0' t1' s' o' m' :=
  ⟨hn, h0, h1, fun y hy => by
    by_cases e : y = 1
    · rw [e, hr1, if_pos rfl]
    · by_cases e2 : y = 2
      · rw [e2, hr2, if_neg (by decide), if_pos rfl]
      · rw [if_neg e, if_neg e2]
        exact hr y hy e e2, hq, hs, ho, p0, p1⟩
theorem LS.l1 (h : LS r1 r2 q t0 t1 s o m) : m.ls 1 = r1 := (h.r 1 (by decide)).trans (if_pos rfl)
theorem LS.l2 (h : LS r1 r2 q t0 t1 s o m) : m.ls 2 = r2 := (h.r 2 (by decide)).trans rfl
theorem LS.lo (h : LS r1 r2 q t0 t1 s o m) {y : Nat} (hy : y < 32) (h1 : y ≠ 1) (h2 : y ≠ 2) : m.ls y = [] := by rw [h.r y hy, if_neg h1, if_neg h2]
/-- A tick while both, or one, sleep on. -/
theorem late_tick (h : LS [] [] q t0 t1 s o m) (hk : m.tk < 200) (hw : (t0.state = 1 ∧ 0 < t0.left) ∨ (t1.state = 1 ∧ 0 < t1.left)) (hon0 : t0.on = some 32 ∨ t0.on = none) (hon1 : t1.on = none) :
    ∃ m' : M, Steps 200 1000 m.k m'.k ∧ m'.tk = m.tk + 1 ∧ m'.op = m.op ∧ LS (if wakes t0 then [0] else []) (if wakes t1 then [1] else []) (if wakes t0 = true ∧ t0.on = some 32 then q.erase 0 else q) (tickT t0) (tickT t1) s o m' := by
  have h0 : ∀ y, y < 32 → m.ls y = [] := fun y hy => by
    rw [h.r y hy]
    split
    · rfl
    · split <;> rfl
  have hts : ∀ j, j < m.n → m.ts j = t0 ∧ j = 0 ∨ m.ts j = t1 ∧ j = 1 := fun j hj => by
    rw [h.hn] at hj
    rcases (show j = 0 ∨ j = 1 by omega) with rfl | rfl
    · exact .inl ⟨h.e0, rfl⟩
    · exact .inr ⟨h.e1, rfl⟩
  obtain ⟨m1, e1, n1, f1, tt, l1, s1, z1, o1, k1, p1, far⟩ := M.tick_all h.flat h0 (fun j x hj _ hx => by
    rcases hts j hj with ⟨e, _⟩ | ⟨e, _⟩
    · rw [e] at hx
      rcases hon0 with q | q
      · rw [q] at hx; cases hx; exact Nat.le_refl _
      · rw [q] at hx; cases hx
    · rw [e, hon1] at hx
      cases hx) (fun j hj => by
    rcases hts j hj with ⟨e, _⟩ | ⟨e, _⟩
    · rw [e, h.p0.1]; decide
    · rw [e, h.p1.1]; decide)
  have hr0 : m.k.round 200 1000 = some m.k.tick := by
    rcases hw with ⟨a, b⟩ | ⟨a, b⟩
    · exact M.r_tick h0 (i := 0) (by rw [h.hn]; decide) (by rw [h.e0]; exact a) (by rw [h.e0]; exact b) hk
    · exact M.r_tick h0 (i := 1) (by rw [h.hn]; decide) (by rw [h.e1]; exact a) (by rw [h.e1]; exact b) hk
  rw [e1] at hr0
  have er : ∀ y, y < 32 → m1.ls y = (if wakes t0 && decide (1 = y) then [(0 : Int)] else []) ++ (if wakes t1 && decide (2 = y) then [(1 : Int)] else []) := fun y hy => by
    rw [l1 y hy, h.hn]
    show (([0, 1] : List Nat).filter _).map Int.ofNat = _
    rw [List.filter_cons, List.filter_cons, List.filter_nil, h.e0, h.e1, h.p0.1, h.p1.1]
    show (if (wakes t0 && decide (1 = y)) = true then 0 :: (if (wakes t1 && decide (2 = y)) = true then [1] else []) else (if (wakes t1 && decide (2 = y)) = true then [1] else []) : List Nat).map Int.ofNat = _
    cases hA : wakes t0 && decide (1 = y) <;> cases hB : wakes t1 && decide (2 = y) <;> simp [hA, hB]
  refine ⟨m1, .one hr0, k1, p1, LS.make (n1.trans h.hn) (by rw [tt 0 (by rw [h.hn]; decide), h.e0]) (by rw [tt 1 (by rw [h.hn]; decide), h.e1]) ?_ ?_ ?_ ?_ (s1.trans h.s) (o1.trans h.o) ?_ ?_⟩
  · rw [er 1 (by decide)]
    cases wakes t0 <;> cases wakes t1 <;> rfl
  · rw [er 2 (by decide)]
    cases wakes t0 <;> cases wakes t1 <;> rfl
  · intro y hy a b
    rw [er y hy, decide_eq_false (fun e => a e.symm), decide_eq_false (fun e => b e.symm), Bool.and_false, Bool.and_false]
    rfl
  · rw [far 32 (Nat.le_refl _), h.hn]
    show ([0, 1] : List Nat).foldl _ _ = _
    rw [List.foldl_cons, List.foldl_cons, List.foldl_nil, h.e0, h.e1, h.q, hon1]
    simp
  · unfold tickT
    split
    · exact h.p0
    · split <;> exact h.p0
  · unfold tickT
    split
    · exact h.p1
    · split <;> exact h.p1
theorem late_take (hw : 0 < w) (h : LS [0] r2 [] (a0 w 0 0 0 none 0) t1 0 o m) (ho : m.op < 900) : ∃ m' : M, Steps 200 1000 m.k m'.k ∧ m'.tk = m.tk ∧ m'.op = m.op + 1 ∧ LS [] r2 [0] (a0 w 1 1 0 (some 32) w) t1 0 o m' := by
  have hi : 0 < m.n := by rw [h.hn]; decide
  let m1 : M := { m with op := m.op + 1, ls := upd (upd m.ls 1 []) 32 [0], ts := upd m.ts 0 (a0 w 1 1 0 (some 32) w) }
  have hls : LS [] r2 [0] (a0 w 1 1 0 (some 32) w) t1 0 o m1 := by
    refine LS.make h.hn (upd_at m.ts 0 _) ?_ ?_ ?_ (fun y hy a b => ?_) ?_ h.s h.o ⟨rfl, rfl⟩ h.p1
    · show upd m.ts 0 (a0 w 1 1 0 (some 32) w) 1 = t1
      rw [upd_ne _ _ (by decide)]; exact h.e1
    · show upd (upd m.ls 1 []) 32 [0] 1 = []
      rw [upd_ne _ _ (by decide), upd_at]
    · show upd (upd m.ls 1 []) 32 [0] 2 = r2
      rw [upd_ne _ _ (by decide), upd_ne _ _ (by decide)]; exact h.l2
    · show upd (upd m.ls 1 []) 32 [0] y = []
      rw [upd_ne _ _ (by omega), upd_ne _ _ a]; exact h.lo hy a b
    · show upd (upd m.ls 1 []) 32 [0] 32 = [0]
      rw [upd_at]
  refine ⟨m1, .one (M.r_do (o := ⟨3, 0, w⟩) hi (show 1 < 32 by decide) (fun y hy => h.lo (by omega) (by omega) (by omega)) h.l1 (by omega) (by rw [h.e0]; rfl) ?_ hls.flat), rfl, rfl, hls⟩
  rw [act3]
  unfold K.take
  rw [if_neg (by show ¬ m.s.length ≤ 0; rw [h.s]; simp), if_neg (by show ¬ 0 < m.s.getD 0 0; rw [h.s]; show ¬ (0 : Int) < 0; omega), if_neg (by show ¬ w = 0; omega), if_pos (by show 0 ≤ w; omega)]
  unfold K.wait
  rw [M.leave (m := { m with op := m.op + 1, ts := upd m.ts 0 { m.ts 0 with place := (m.ts 0).place + 1 } }) (p := 1) hi (by show (upd m.ts 0 _ 0).prio = _; rw [upd_at, h.e0]; rfl), M.setT]
  simp only [upd_at, M.setL]
  rw [h.l1]
  refine M.congr rfl (fun i _ => ?_) (fun y _ => ?_) rfl rfl rfl rfl rfl
  · show upd (upd m.ts 0 _) 0 _ i = upd m.ts 0 _ i
    unfold upd
    split
    · rw [h.e0]
      rfl
    · rfl
  · show upd (upd m.ls 1 _) 32 (upd m.ls 1 _ 32 ++ [(0 : Int)]) y = upd (upd m.ls 1 []) 32 [0] y
    rw [upd_ne m.ls _ (show 32 ≠ 1 by decide), h.q]
    rfl
theorem late_delay (hg : g ≠ 0) (h : LS [] [1] q t0 (a1 g 0 0 0 0) s o m) (ho : m.op < 900) : ∃ m' : M, Steps 200 1000 m.k m'.k ∧ m'.tk = m.tk ∧ m'.op = m.op + 1 ∧ LS [] [] q t0 (a1 g 1 1 0 g) s o m' := by
  have hi : 1 < m.n := by rw [h.hn]; decide
  let m1 : M := { m with op := m.op + 1, ls := upd m.ls 2 [], ts := upd m.ts 1 (a1 g 1 1 0 g) }
  have hls : LS [] [] q t0 (a1 g 1 1 0 g) s o m1 := by
    refine LS.make h.hn ?_ (upd_at m.ts 1 _) ?_ ?_ (fun y hy a b => ?_) ?_ h.s h.o h.p0 ⟨rfl, rfl⟩
    · show upd m.ts 1 (a1 g 1 1 0 g) 0 = t0
      rw [upd_ne _ _ (by decide)]; exact h.e0
    · show upd m.ls 2 [] 1 = []
      rw [upd_ne _ _ (by decide)]; exact h.l1
    · show upd m.ls 2 [] 2 = []
      rw [upd_at]
    · show upd m.ls 2 [] y = []
      rw [upd_ne _ _ b]; exact h.lo hy a b
    · show upd m.ls 2 [] 32 = q
      rw [upd_ne _ _ (by decide)]; exact h.q
  refine ⟨m1, .one (M.r_do (o := ⟨2, g, 0⟩) hi (show 2 < 32 by decide) (fun y hy => by
    rcases (show y = 0 ∨ y = 1 by omega) with rfl | rfl
    · exact h.lo (by decide) (by decide) (by decide)
    · exact h.l1) h.l2 (by omega) (by rw [h.e1]; rfl) ?_ hls.flat), rfl, rfl, hls⟩
  rw [act2]
  unfold K.delay
  rw [if_neg (by exact hg)]
  unfold K.wait
  rw [M.leave (m := { m with op := m.op + 1, ts := upd m.ts 1 { m.ts 1 with place := (m.ts 1).place + 1 } }) (p := 2) hi (by show (upd m.ts 1 _ 1).prio = _; rw [upd_at, h.e1]; rfl), M.setT]
  simp only [upd_at]
  rw [h.l2]
  refine M.congr rfl (fun i _ => ?_) (fun _ _ => rfl) rfl rfl rfl rfl rfl
  show upd (upd m.ts 1 _) 1 _ i = upd m.ts 1 _ i
  unfold upd
  split
  · rw [h.e1]
    rfl
  · rfl
theorem late_none (h : LS [0] r2 q (a0 0 0 0 0 none 0) t1 0 o m) (ho : m.op < 900) : ∃ m' : M, Steps 200 1000 m.k m'.k ∧ m'.tk = m.tk ∧ m'.op = m.op + 1 ∧ LS [0] r2 q (a0 0 1 0 1 none 0) t1 0 o m' := by
  have hi : 0 < m.n := by rw [h.hn]; decide
  let m1 : M := { m with op := m.op + 1, ts := upd m.ts 0 (a0 0 1 0 1 none 0) }
  have hls : LS [0] r2 q (a0 0 1 0 1 none 0) t1 0 o m1 := LS.make h.hn (upd_at m.ts 0 _) (by show upd m.ts 0 (a0 0 1 0 1 none 0) 1 = t1; rw [upd_ne _ _ (by decide)]; exact h.e1) h.l1 h.l2 (fun y hy a b => h.lo hy a b) h.q h.s h.o ⟨rfl, rfl⟩ h.p1
  refine ⟨m1, .one (M.r_do (o := ⟨3, 0, 0⟩) hi (show 1 < 32 by decide) (fun y hy => h.lo (by omega) (by omega) (by omega)) h.l1 (by omega) (by rw [h.e0]; rfl) ?_ hls.flat), rfl, rfl, hls⟩
  rw [act3]
  unfold K.take
  rw [if_neg (by show ¬ m.s.length ≤ 0; rw [h.s]; simp), if_neg (by show ¬ 0 < m.s.getD 0 0; rw [h.s]; show ¬ (0 : Int) < 0; omega), if_pos rfl]
  unfold K.say
  rw [M.setT]
  simp only [upd_at]
  refine M.congr rfl (fun i _ => ?_) (fun _ _ => rfl) rfl rfl rfl rfl rfl
  show upd (upd m.ts 0 _) 0 _ i = upd m.ts 0 _ i
  unfold upd
  split
  · rw [h.e0]
    rfl
  · rfl
theorem late_show {an : Int} (h : LS [0] r2 q (a0 w 1 0 an none 0) t1 s o m) (ho : m.op < 900) : ∃ m' : M, Steps 200 1000 m.k m'.k ∧ m'.tk = m.tk ∧ m'.op = m.op + 1 ∧ LS [] r2 q (a0 w 2 2 an none 0) t1 s (o ++ [UInt8.ofNat (97 + an.tmod 26).toNat]) m' := by
  have hi : 0 < m.n := by rw [h.hn]; decide
  let m1 : M := { m with op := m.op + 1, ts := upd m.ts 0 (a0 w 2 0 an none 0), o := m.o ++ [UInt8.ofNat (97 + an.tmod 26).toNat] }
  have hls : LS [0] r2 q (a0 w 2 0 an none 0) t1 s (o ++ [UInt8.ofNat (97 + an.tmod 26).toNat]) m1 := LS.make h.hn (upd_at m.ts 0 _) (by show upd m.ts 0 (a0 w 2 0 an none 0) 1 = t1; rw [upd_ne _ _ (by decide)]; exact h.e1) h.l1 h.l2 (fun y hy a b => h.lo hy a b) h.q h.s (by show m.o ++ _ = _; rw [h.o]) ⟨rfl, rfl⟩ h.p1
  have r1 : m.k.round 200 1000 = some m1.k := by
    refine M.r_do (o := ⟨9, 0, 0⟩) hi (show 1 < 32 by decide) (fun y hy => h.lo (by omega) (by omega) (by omega)) h.l1 (by omega) (by rw [h.e0]; rfl) ?_ hls.flat
    rw [act9]
    unfold K.show_
    rw [M.t_ (m := { m with op := m.op + 1, ts := upd m.ts 0 { m.ts 0 with place := (m.ts 0).place + 1 } }) hi]
    simp only [upd_at]
    rw [h.e0]
    rfl
  obtain ⟨m2, b1, b2, b3, b4, b5, b6, b7, b8, b9, b10, b11⟩ := M.r_end2 (m := m1) (ticks := 200) (ops := 1000) hls.flat hi (show 1 < 32 by decide) (fun y hy => hls.lo (by omega) (by omega) (by omega)) hls.l1 (by rw [hls.e0]; rfl) (by show m.op + 1 < 1000; omega) (by rw [hls.e0]; exact Nat.le_refl _)
  refine ⟨m2, (Steps.one r1).trans b1, b9, b8, LS.make (b2.trans h.hn) (by rw [b6, hls.e0]; rfl) (by rw [b5 1 (by decide)]; exact hls.e1) (by rw [b4, upd_at]) (by rw [b4, upd_ne _ _ (by decide)]; exact hls.l2) (fun y hy a b => by rw [b4, upd_ne _ _ a]; exact hls.lo hy a b) (by rw [b4, upd_ne _ _ (by decide)]; exact hls.q) (b10.trans hls.s) (b7.trans hls.o) ⟨rfl, rfl⟩ h.p1⟩
theorem late_end {an : Int} (h : LS [] [1] q t0 (a1 g 2 0 an 0) s o m) (ho : m.op < 900) : ∃ m' : M, Steps 200 1000 m.k m'.k ∧ m'.tk = m.tk ∧ m'.op = m.op ∧ LS [] [] q t0 (a1 g 2 2 an 0) s o m' := by
  have hi : 1 < m.n := by rw [h.hn]; decide
  obtain ⟨m2, b1, b2, b3, b4, b5, b6, b7, b8, b9, b10, b11⟩ := M.r_end2 (m := m) (ticks := 200) (ops := 1000) h.flat hi (show 2 < 32 by decide) (fun y hy => by
    rcases (show y = 0 ∨ y = 1 by omega) with rfl | rfl
    · exact h.lo (by decide) (by decide) (by decide)
    · exact h.l1) h.l2 (by rw [h.e1]; rfl) (by omega) (by rw [h.e1]; exact Nat.le_refl _)
  exact ⟨m2, b1, b9, b8, LS.make (b2.trans h.hn) (by rw [b5 0 (by decide)]; exact h.e0) (by rw [b6, h.e1]; rfl) (by rw [b4, upd_ne _ _ (by decide)]; exact h.l1) (by rw [b4, upd_at]) (fun y hy a b => by rw [b4, upd_ne _ _ b]; exact h.lo hy a b) (by rw [b4, upd_ne _ _ (by decide)]; exact h.q) (b10.trans h.s) (b7.trans h.o) h.p0 ⟨rfl, rfl⟩⟩
theorem late_say (h : LS [] [1] q t0 (a1 g 1 0 0 0) s o m) : (M.k { m with op := m.op + 1, ts := upd m.ts 1 { m.ts 1 with place := (m.ts 1).place + 1 } }).say (1 : Nat) 0 = M.k { m with op := m.op + 1, ts := upd m.ts 1 (a1 g 2 0 0 0) } := by
  unfold K.say
  rw [M.setT]
  simp only [upd_at]
  refine M.congr rfl (fun i _ => ?_) (fun _ _ => rfl) rfl rfl rfl rfl rfl
  show upd (upd m.ts 1 _) 1 _ i = upd m.ts 1 _ i
  unfold upd
  split
  · rw [h.e1]
    rfl
  · rfl
theorem late_give {l : Int} (h : LS [] [1] [0] (a0 w 1 1 0 (some 32) l) (a1 g 1 0 0 0) s o m) (ho : m.op < 900) : ∃ m' : M, Steps 200 1000 m.k m'.k ∧ m'.tk = m.tk ∧ m'.op = m.op + 1 ∧ LS [0] [1] [] (a0 w 1 0 0 none 0) (a1 g 2 0 0 0) s o m' := by
  have hi : 1 < m.n := by rw [h.hn]; decide
  let m0 : M := { m with op := m.op + 1, ts := upd m.ts 1 (a1 g 2 0 0 0) }
  have e00 : m0.ts 0 = a0 w 1 1 0 (some 32) l := by show upd m.ts 1 (a1 g 2 0 0 0) 0 = _; rw [upd_ne _ _ (by decide)]; exact h.e0
  let m1 : M := { m0 with ts := upd m0.ts 0 (a0 w 1 0 0 none 0), ls := upd (upd m.ls 32 []) 1 [0] }
  have hls : LS [0] [1] [] (a0 w 1 0 0 none 0) (a1 g 2 0 0 0) s o m1 := by
    refine LS.make h.hn (upd_at m0.ts 0 _) ?_ ?_ ?_ (fun y hy a b => ?_) ?_ h.s h.o ⟨rfl, rfl⟩ ⟨rfl, rfl⟩
    · show upd (upd m.ts 1 (a1 g 2 0 0 0)) 0 (a0 w 1 0 0 none 0) 1 = _
      rw [upd_ne _ _ (by decide), upd_at]
    · show upd (upd m.ls 32 []) 1 [0] 1 = [0]
      rw [upd_at]
    · show upd (upd m.ls 32 []) 1 [0] 2 = [1]
      rw [upd_ne _ _ (by decide), upd_ne _ _ (by decide)]; exact h.l2
    · show upd (upd m.ls 32 []) 1 [0] y = []
      rw [upd_ne _ _ a, upd_ne _ _ (by omega)]; exact h.lo hy a b
    · show upd (upd m.ls 32 []) 1 [0] 32 = []
      rw [upd_ne _ _ (by decide), upd_at]
  refine ⟨m1, .one (M.r_do (o := ⟨4, 0, 0⟩) hi (show 2 < 32 by decide) (fun y hy => by
    rcases (show y = 0 ∨ y = 1 by omega) with rfl | rfl
    · exact h.lo (by decide) (by decide) (by decide)
    · exact h.l1) h.l2 (by omega) (by rw [h.e1]; rfl) ?_ hls.flat), rfl, rfl, hls⟩
  rw [act4]
  unfold K.give
  rw [if_neg (by show ¬ m.s.length ≤ 0; rw [h.s]; simp), late_say h]
  show m0.k.give1 (1 : Nat) 0 (m0.k.best (m0.k.l 32)) = _
  rw [M.l_ (by decide)]
  show m0.k.give1 (1 : Nat) 0 (m0.k.best (m.ls 32)) = _
  rw [h.q, best_first _ (Int.le_refl 0) (fun z hz => by cases hz)]
  unfold K.give1
  rw [if_pos (Int.le_refl 0)]
  show m0.k.wake (0 : Nat) 0 = _
  rw [M.wake (by show 0 < m.n; rw [h.hn]; decide), e00]
  refine M.congr rfl (fun _ _ => rfl) (fun y _ => ?_) rfl rfl rfl rfl rfl
  have eo : offs (a0 w 1 1 0 (some 32) l) 0 m0.ls = upd m.ls 32 [] := by
    show upd m.ls 32 ((m.ls 32).erase ((0 : Nat) : Int)) = _
    rw [h.q]
    rfl
  show upd (offs (a0 w 1 1 0 (some 32) l) 0 m0.ls) 1 (offs (a0 w 1 1 0 (some 32) l) 0 m0.ls 1 ++ [(0 : Int)]) y = upd (upd m.ls 32 []) 1 [0] y
  rw [eo, upd_ne m.ls [] (show 1 ≠ 32 by decide), h.l1]
  rfl
theorem late_give0 (h : LS [] [1] [] t0 (a1 g 1 0 0 0) 0 o m) (ho : m.op < 900) : ∃ m' : M, Steps 200 1000 m.k m'.k ∧ m'.tk = m.tk ∧ m'.op = m.op + 1 ∧ LS [] [1] [] t0 (a1 g 2 0 0 0) 1 o m' := by
  have hi : 1 < m.n := by rw [h.hn]; decide
  let m0 : M := { m with op := m.op + 1, ts := upd m.ts 1 (a1 g 2 0 0 0) }
  let m1 : M := { m0 with s := [1] }
  have hls : LS [] [1] [] t0 (a1 g 2 0 0 0) 1 o m1 := by
    refine LS.make h.hn ?_ (upd_at m.ts 1 _) h.l1 h.l2 (fun y hy a b => h.lo hy a b) h.q rfl h.o h.p0 ⟨rfl, rfl⟩
    show upd m.ts 1 (a1 g 2 0 0 0) 0 = t0
    rw [upd_ne _ _ (by decide)]; exact h.e0
  refine ⟨m1, .one (M.r_do (o := ⟨4, 0, 0⟩) hi (show 2 < 32 by decide) (fun y hy => by
    rcases (show y = 0 ∨ y = 1 by omega) with rfl | rfl
    · exact h.lo (by decide) (by decide) (by decide)
    · exact h.l1) h.l2 (by omega) (by rw [h.e1]; rfl) ?_ hls.flat), rfl, rfl, hls⟩
  rw [act4]
  unfold K.give
  rw [if_neg (by show ¬ m.s.length ≤ 0; rw [h.s]; simp), late_say h]
  show m0.k.give1 (1 : Nat) 0 (m0.k.best (m0.k.l 32)) = _
  rw [M.l_ (by decide)]
  show m0.k.give1 (1 : Nat) 0 (m0.k.best (m.ls 32)) = _
  rw [h.q]
  show m0.k.give1 (1 : Nat) 0 (-1) = _
  unfold K.give1
  rw [if_neg (by decide), if_neg (by show ¬ 100 ≤ m.s.getD 0 0; rw [h.s]; show ¬ (100 : Int) ≤ 0; decide)]
  refine M.congr (m := { m0 with s := m.s.modify 0 (· + 1) }) rfl (fun _ _ => rfl) (fun _ _ => rfl) ?_ rfl rfl rfl rfl
  show m.s.modify 0 (· + 1) = _
  rw [h.s]
  rfl
/-- The end: all have ended. -/
theorem late_stop {w g an bn : Int} (h : LS [] [] q (a0 w 2 2 an none 0) (a1 g 2 2 bn 0) s o m) : m.k.round 200 1000 = none := by
  refine M.r_idle (fun y hy => ?_) (.inr fun i hi => ?_)
  · rw [h.r y hy]
    split
    · rfl
    · split <;> rfl
  · rw [h.hn] at hi
    rcases (show i = 0 ∨ i = 1 by omega) with rfl | rfl
    · rw [h.e0]
      rintro ⟨q, _⟩
      exact absurd (show (2 : Int) = 1 from q) (by decide)
    · rw [h.e1]
      rintro ⟨q, _⟩
      exact absurd (show (2 : Int) = 1 from q) (by decide)
/-- The giver alone sleeps on, gives, and ends. -/
theorem late_tail {an : Int} : ∀ (d : Nat) (m : M), LS [] [] [] (a0 w 2 2 an none 0) (a1 g 1 1 0 (d + 1 : Nat)) 0 o m → m.tk + d < 200 → m.op < 800 → ∃ m' : M, Steps 200 1000 m.k m'.k ∧ LS [] [] [] (a0 w 2 2 an none 0) (a1 g 2 2 0 0) 1 o m'
  | 0, m, h, hk, ho => by
    obtain ⟨m1, s1, k1, p1, h1⟩ := late_tick h (by omega) (.inr ⟨rfl, by show (0 : Int) < ((0 + 1 : Nat) : Int); omega⟩) (.inr rfl) rfl
    have h1 : LS [] [1] [] (a0 w 2 2 an none 0) (a1 g 1 0 0 0) 0 o m1 := h1
    obtain ⟨m2, s2, k2, p2, h2⟩ := late_give0 h1 (by omega)
    obtain ⟨m3, s3, k3, p3, h3⟩ := late_end h2 (by omega)
    exact ⟨m3, s1.trans (s2.trans s3), h3⟩
  | d + 1, m, h, hk, ho => by
    obtain ⟨m1, s1, k1, p1, h1⟩ := late_tick h (by omega) (.inr ⟨rfl, by show (0 : Int) < ((d + 1 + 1 : Nat) : Int); omega⟩) (.inr rfl) rfl
    have ew : wakes (a1 g 1 1 0 ((d + 1 + 1 : Nat) : Int)) = false := decide_eq_false fun ⟨_, _, c⟩ => c (by show (0 : Int) < ((d + 1 + 1 : Nat) : Int) - 1; omega)
    have et : tickT (a1 g 1 1 0 ((d + 1 + 1 : Nat) : Int)) = a1 g 1 1 0 ((d + 1 : Nat) : Int) := by
      unfold tickT
      rw [if_neg (by show ¬ ((1 : Int) ≠ 1 ∨ ((d + 1 + 1 : Nat) : Int) = 0); omega), if_pos (by show (0 : Int) < ((d + 1 + 1 : Nat) : Int) - 1; omega)]
      unfold a1
      rw [show ((d + 1 + 1 : Nat) : Int) - 1 = ((d + 1 : Nat) : Int) by omega]
    rw [ew, et] at h1
    have h1 : LS [] [] [] (a0 w 2 2 an none 0) (a1 g 1 1 0 ((d + 1 : Nat) : Int)) 0 o m1 := h1
    obtain ⟨m2, s2, h2⟩ := late_tail d m1 h1 (by omega) (by omega)
    exact ⟨m2, s1.trans s2, h2⟩
/-- Both sleep on. -/
theorem late_both : ∀ (d : Nat) (x y : Nat) (m : M), LS [] [] [0] (a0 w 1 1 0 (some 32) (x + d + 1 : Nat)) (a1 g 1 1 0 (y + d + 1 : Nat)) s o m → m.tk + d < 200 → ∃ m' : M, Steps 200 1000 m.k m'.k ∧ m'.tk = m.tk + d ∧ m'.op = m.op ∧ LS [] [] [0] (a0 w 1 1 0 (some 32) (x + 1 : Nat)) (a1 g 1 1 0 (y + 1 : Nat)) s o m'
  | 0, x, y, m, h, _ => ⟨m, .refl _, rfl, rfl, h⟩
  | d + 1, x, y, m, h, hk => by
    obtain ⟨m1, s1, k1, p1, h1⟩ := late_tick h (by omega) (.inr ⟨rfl, by show (0 : Int) < ((y + (d + 1) + 1 : Nat) : Int); omega⟩) (.inl rfl) rfl
    have ew0 : wakes (a0 w 1 1 0 (some 32) ((x + (d + 1) + 1 : Nat) : Int)) = false := decide_eq_false fun ⟨_, _, c⟩ => c (by show (0 : Int) < ((x + (d + 1) + 1 : Nat) : Int) - 1; omega)
    have ew1 : wakes (a1 g 1 1 0 ((y + (d + 1) + 1 : Nat) : Int)) = false := decide_eq_false fun ⟨_, _, c⟩ => c (by show (0 : Int) < ((y + (d + 1) + 1 : Nat) : Int) - 1; omega)
    have et0 : tickT (a0 w 1 1 0 (some 32) ((x + (d + 1) + 1 : Nat) : Int)) = a0 w 1 1 0 (some 32) ((x + d + 1 : Nat) : Int) := by
      unfold tickT
      rw [if_neg (by show ¬ ((1 : Int) ≠ 1 ∨ ((x + (d + 1) + 1 : Nat) : Int) = 0); omega), if_pos (by show (0 : Int) < ((x + (d + 1) + 1 : Nat) : Int) - 1; omega)]
      unfold a0
      rw [show ((x + (d + 1) + 1 : Nat) : Int) - 1 = ((x + d + 1 : Nat) : Int) by omega]
    have et1 : tickT (a1 g 1 1 0 ((y + (d + 1) + 1 : Nat) : Int)) = a1 g 1 1 0 ((y + d + 1 : Nat) : Int) := by
      unfold tickT
      rw [if_neg (by show ¬ ((1 : Int) ≠ 1 ∨ ((y + (d + 1) + 1 : Nat) : Int) = 0); omega), if_pos (by show (0 : Int) < ((y + (d + 1) + 1 : Nat) : Int) - 1; omega)]
      unfold a1
      rw [show ((y + (d + 1) + 1 : Nat) : Int) - 1 = ((y + d + 1 : Nat) : Int) by omega]
    rw [ew0, ew1, et0, et1] at h1
    have h1 : LS [] [] [0] (a0 w 1 1 0 (some 32) ((x + d + 1 : Nat) : Int)) (a1 g 1 1 0 ((y + d + 1 : Nat) : Int)) s o m1 := h1
    obtain ⟨m2, s2, k2, p2, h2⟩ := late_both d x y m1 h1 (by omega)
    exact ⟨m2, s1.trans s2, by omega, by omega, h2⟩
theorem late_fits {w g : Int} (h1 : 0 ≤ w) (h2 : w ≤ 50) (h3 : 1 ≤ g) (h4 : g ≤ 50) : (lateT w g).fits = true := by
  show (({ tasks := [⟨1, [⟨3, 0, w⟩, ⟨9, 0, 0⟩]⟩, ⟨2, [⟨2, g, 0⟩, ⟨4, 0, 0⟩]⟩], sems := [0], mutexes := 0, queues := [] } : Table)).fits = true
  simp [Table.fits, Task.fits, opsFit, Op.fits, bounds]
  omega
theorem late_run {w g : Nat} (h1 : w ≤ 50) (h3 : 1 ≤ g) (h4 : g ≤ 50) (hne : w ≠ g) : (runT (lateT w g) 200 1000).out = if g < w then [97] else [98] := by
  have hf := late_fits (w := w) (g := g) (by omega) (by omega) (by omega) (by omega)
  have e0 := begin_M (f := lateF w g) (n := 2) (s := [0]) (z := []) hf
  have hb : LS [0] [1] [] (a0 w 0 0 0 none 0) (a1 g 0 0 0 0) 0 [] (M.of 2 (lateF w g) [0] []) := by
    refine ⟨rfl, rfl, rfl, fun y hy => ?_, rfl, rfl, rfl, ⟨rfl, rfl⟩, ⟨rfl, rfl⟩⟩
    show (if y < 32 then rowOf (fun i => (lateF w g i).prio) 2 y else []) = _
    rw [if_pos hy, rowOf_succ, rowOf_succ]
    show ((rowOf _ 0 y ++ if (1 : Int).toNat = y then [(0 : Int)] else []) ++ if (2 : Int).toNat = y then [(1 : Int)] else []) = _
    by_cases q1 : y = 1
    · subst q1; rfl
    · by_cases q2 : y = 2
      · subst q2; rfl
      · rw [if_neg q1, if_neg q2, if_neg (fun e => q1 e.symm), if_neg (fun e => q2 e.symm)]
        rfl
  have fin : ∀ (o : List UInt8) (m : M) (an bn s : Int), Steps 200 1000 (M.of 2 (lateF w g) [0] []).k m.k → LS [] [] [] (a0 w 2 2 an none 0) (a1 g 2 2 bn 0) s o m → (runT (lateT w g) 200 1000).out = o := by
    intro o m an bn s hs h
    have hr : runT (lateT w g) 200 1000 = m.k := by
      refine runT_eq hf ?_ (late_stop h)
      show Steps 200 1000 (begin { tasks := (List.range 2).map (lateF w g), sems := [0], mutexes := 0, queues := [] }) m.k
      rw [e0]
      exact hs
    rw [hr]
    exact h.o
  by_cases hw : w = 0
  · subst hw
    obtain ⟨m1, s1, k1, p1, h1⟩ := late_none hb (by show 0 < 900; decide)
    obtain ⟨m2, s2, k2, p2, h2⟩ := late_show h1 (by rw [p1]; show 0 + 1 < 900; decide)
    obtain ⟨m3, s3, k3, p3, h3⟩ := late_delay (by omega) h2 (by rw [p2, p1]; show 0 + 1 + 1 < 900; decide)
    have e : (g : Int) = ((g - 1 + 1 : Nat) : Int) := by omega
    have h3' : LS [] [] [] (a0 (0 : Nat) 2 2 1 none 0) (a1 g 1 1 0 ((g - 1 + 1 : Nat) : Int)) 0 [98] m3 := by rw [← e]; exact h3
    have hk3 : m3.tk = 0 := by rw [k3, k2, k1]; rfl
    have hp3 : m3.op = 3 := by rw [p3, p2, p1]; rfl
    obtain ⟨m4, s4, h4⟩ := late_tail (g - 1) m3 h3' (by omega) (by omega)
    rw [if_neg (by omega)]
    exact fin _ m4 _ _ _ (s1.trans (s2.trans (s3.trans s4))) h4
  · obtain ⟨m1, s1, k1, p1, h1⟩ := late_take (by omega) hb (by show 0 < 900; decide)
    obtain ⟨m2, s2, k2, p2, h2⟩ := late_delay (by omega) h1 (by rw [p1]; show 0 + 1 < 900; decide)
    have hk2 : m2.tk = 0 := by rw [k2, k1]; rfl
    have hp2 : m2.op = 2 := by rw [p2, p1]; rfl
    by_cases hgw : g < w
    · have ew : (w : Int) = ((w - g + (g - 1) + 1 : Nat) : Int) := by omega
      have eg : (g : Int) = ((0 + (g - 1) + 1 : Nat) : Int) := by omega
      have h2' : LS [] [] [0] (a0 w 1 1 0 (some 32) ((w - g + (g - 1) + 1 : Nat) : Int)) (a1 g 1 1 0 ((0 + (g - 1) + 1 : Nat) : Int)) 0 [] m2 := by rw [← ew, ← eg]; exact h2
      obtain ⟨m3, s3, k3, p3, h3⟩ := late_both (g - 1) (w - g) 0 m2 h2' (by omega)
      obtain ⟨m4, s4, k4, p4, h4⟩ := late_tick h3 (by omega) (.inr ⟨rfl, by show (0 : Int) < ((0 + 1 : Nat) : Int); omega⟩) (.inl rfl) rfl
      have ew0 : wakes (a0 w 1 1 0 (some 32) ((w - g + 1 : Nat) : Int)) = false := decide_eq_false fun ⟨_, _, c⟩ => c (by show (0 : Int) < ((w - g + 1 : Nat) : Int) - 1; omega)
      have et0 : tickT (a0 w 1 1 0 (some 32) ((w - g + 1 : Nat) : Int)) = a0 w 1 1 0 (some 32) ((w - g : Nat) : Int) := by
        unfold tickT
        rw [if_neg (by show ¬ ((1 : Int) ≠ 1 ∨ ((w - g + 1 : Nat) : Int) = 0); omega), if_pos (by show (0 : Int) < ((w - g + 1 : Nat) : Int) - 1; omega)]
        unfold a0
        rw [show ((w - g + 1 : Nat) : Int) - 1 = ((w - g : Nat) : Int) by omega]
      rw [ew0, et0] at h4
      have h4 : LS [] [1] [0] (a0 w 1 1 0 (some 32) ((w - g : Nat) : Int)) (a1 g 1 0 0 0) 0 [] m4 := h4
      obtain ⟨m5, s5, k5, p5, h5⟩ := late_give h4 (by omega)
      obtain ⟨m6, s6, k6, p6, h6⟩ := late_show h5 (by omega)
      obtain ⟨m7, s7, k7, p7, h7⟩ := late_end h6 (by omega)
      rw [if_pos hgw]
      exact fin _ m7 _ _ _ (s1.trans (s2.trans (s3.trans (s4.trans (s5.trans (s6.trans s7)))))) h7
    · have ew : (w : Int) = ((0 + (w - 1) + 1 : Nat) : Int) := by omega
      have eg : (g : Int) = ((g - w + (w - 1) + 1 : Nat) : Int) := by omega
      have h2' : LS [] [] [0] (a0 w 1 1 0 (some 32) ((0 + (w - 1) + 1 : Nat) : Int)) (a1 g 1 1 0 ((g - w + (w - 1) + 1 : Nat) : Int)) 0 [] m2 := by rw [← ew, ← eg]; exact h2
      obtain ⟨m3, s3, k3, p3, h3⟩ := late_both (w - 1) 0 (g - w) m2 h2' (by omega)
      obtain ⟨m4, s4, k4, p4, h4⟩ := late_tick h3 (by omega) (.inr ⟨rfl, by show (0 : Int) < ((g - w + 1 : Nat) : Int); omega⟩) (.inl rfl) rfl
      have ew1 : wakes (a1 g 1 1 0 ((g - w + 1 : Nat) : Int)) = false := decide_eq_false fun ⟨_, _, c⟩ => c (by show (0 : Int) < ((g - w + 1 : Nat) : Int) - 1; omega)
      have et1 : tickT (a1 g 1 1 0 ((g - w + 1 : Nat) : Int)) = a1 g 1 1 0 ((g - w - 1 + 1 : Nat) : Int) := by
        unfold tickT
        rw [if_neg (by show ¬ ((1 : Int) ≠ 1 ∨ ((g - w + 1 : Nat) : Int) = 0); omega), if_pos (by show (0 : Int) < ((g - w + 1 : Nat) : Int) - 1; omega)]
        unfold a1
        rw [show ((g - w + 1 : Nat) : Int) - 1 = ((g - w - 1 + 1 : Nat) : Int) by omega]
      rw [ew1, et1] at h4
      have h4 : LS [0] [] [] (a0 w 1 0 1 none 0) (a1 g 1 1 0 ((g - w - 1 + 1 : Nat) : Int)) 0 [] m4 := h4
      obtain ⟨m5, s5, k5, p5, h5⟩ := late_show h4 (by omega)
      obtain ⟨m6, s6, h6⟩ := late_tail (g - w - 1) m5 h5 (by omega) (by omega)
      rw [if_neg hgw]
      exact fin _ m6 _ _ _ (s1.trans (s2.trans (s3.trans (s4.trans (s5.trans s6))))) h6
end
end Kn
end Go.Proofs.Ytncbgnpoffolcaa
