/-
  KernFull: what its table writes.
-/
import Derived.Test.YtncbgnpoffolcaaSemP
namespace Go.Proofs.Ytncbgnpoffolcaa
namespace Kn
/-- One whose operations are done ends; all lists behind the rows stay. -/
theorem M.r_fin' {m : M} {ticks ops i p : Nat} {r : List Int} (hf : m.flat) (hi : i < m.n) (hp : p < 32) (h0 : ∀ q, q < p → m.ls q = []) (h : m.ls p = (i : Int) :: r) (hpr : (m.ts i).prio = p) (ho : m.op < ops) (hpl : (m.ts i).ops.length ≤ (m.ts i).place) :
    ∃ m1 : M, Steps ticks ops m.k m1.k ∧ m1.n = m.n ∧ m1.flat ∧ (∀ y, m1.ls y = upd m.ls p r y) ∧ (∀ j, j ≠ i → m1.ts j = m.ts j) ∧ m1.ts i = { m.ts i with state := 2 } ∧ m1.o = m.o ∧ m1.op = m.op ∧ m1.tk = m.tk ∧ m1.s = m.s ∧ m1.z = m.z :=
  ⟨_, Steps.one (M.r_end hf hi hp h0 h hpr ho hpl), rfl, M.flat_upd (m := { m with ls := upd m.ls p r }) hf (hf i hi), fun _ => rfl, fun _ hj => upd_ne _ _ hj, upd_at _ _ _, rfl, rfl, rfl, rfl, rfl⟩
theorem tick_far (y : Nat) (hy : 32 ≤ y) : ∀ (d i : Nat) (m : M), (∀ j, i ≤ j → j < i + d → wakes (m.ts j) = true → (m.ts j).on = none ∧ (m.ts j).prio.toNat < 32) →
    ((List.range' i d).foldl M.tick1 m).ls y = m.ls y
  | 0, _, _, _ => rfl
  | d + 1, i, m, h => by
    have h' : ∀ j, i + 1 ≤ j → j < i + 1 + d → wakes ((m.tick1 i).ts j) = true → ((m.tick1 i).ts j).on = none ∧ ((m.tick1 i).ts j).prio.toNat < 32 := fun j h1 h2 h3 => by
      have e : (m.tick1 i).ts j = m.ts j := upd_ne _ _ (by omega)
      rw [e] at h3 ⊢
      exact h j (by omega) (by omega) h3
    rw [List.range'_succ, List.foldl_cons, tick_far y hy d (i + 1) (m.tick1 i) h']
    show (if wakes (m.ts i) then upd (offs (m.ts i) i m.ls) (m.ts i).prio.toNat (offs (m.ts i) i m.ls (m.ts i).prio.toNat ++ [(i : Int)]) else m.ls) y = m.ls y
    split
    · rename_i hw
      obtain ⟨h1, h2⟩ := h i (Nat.le_refl _) (by omega) hw
      rw [upd_ne _ _ (by omega)]
      unfold offs
      rw [h1]
    · rfl
/-- A tick of a kernel whose rows are empty: the lists behind the rows stay. -/
theorem M.tick' {m : M} (hf : m.flat) (h0 : ∀ y, y < 32 → m.ls y = []) (hon : ∀ j, j < m.n → wakes (m.ts j) = true → (m.ts j).on = none ∧ (m.ts j).prio.toNat < 32) :
    ∃ m' : M, m.k.tick = m'.k ∧ m'.n = m.n ∧ m'.flat ∧ (∀ j, j < m.n → m'.ts j = tickT (m.ts j)) ∧ (∀ y, y < 32 → m'.ls y = ((List.range m.n).filter fun j => wakes (m.ts j) && decide ((m.ts j).prio.toNat = y)).map Int.ofNat) ∧
      m'.s = m.s ∧ m'.z = m.z ∧ m'.o = m.o ∧ m'.tk = m.tk + 1 ∧ m'.op = m.op ∧ (∀ y, 32 ≤ y → m'.ls y = m.ls y) := by
  let m1 : M := { m with tk := m.tk + 1 }
  have hts : ∀ j, j < m.n → ((List.range' 0 m.n).foldl M.tick1 m1).ts j = tickT (m.ts j) := fun j hj => by
    rw [tick_ts m.n 0 m1 j, if_pos (by omega)]
  have hr := tick_rest (List.range' 0 m.n) m1
  have hff : M.flat ((List.range' 0 m.n).foldl M.tick1 m1) := by
    intro j hj
    rw [tick_n] at hj
    rw [hts j hj]
    have := hf j hj
    unfold tickT
    split
    · exact this
    · split
      · exact this
      · exact this
  refine ⟨(List.range' 0 m.n).foldl M.tick1 m1, ?_, tick_n _ _, hff, hts, fun y hy => ?_, hr.1, hr.2.1, hr.2.2.1, hr.2.2.2.1, hr.2.2.2.2, fun y hy => ?_⟩
  · unfold K.tick
    rw [show K.tickAt m.k.tasks.length 0 { m.k with ticks := m.k.ticks + 1 } = K.tickAt m.n 0 m1.k by rw [M.tasks_len]; rfl, M.tickAt m.n 0 m1 (Nat.zero_add _)]
    exact M.anew hff (-1)
  · rw [tick_ls y hy m.n 0 m1 (fun j x _ hj h1 h2 => by
      have := (hon j (by omega) h1).1
      rw [show (m1.ts j).on = (m.ts j).on from rfl, this] at h2
      cases h2), List.range_eq_range']
    show m.ls y ++ _ = _
    rw [h0 y hy, List.nil_append]
  · exact tick_far y hy m.n 0 m1 fun j _ hj h1 => hon j (by omega) h1
theorem M.wait_on {m : M} {i p x : Nat} {left : Int} (hi : i < m.n) (hp : (m.ts i).prio = p) :
    m.k.wait i (some x) left = M.k { m with ls := upd (upd m.ls p ((m.ls p).erase (i : Int))) x (upd m.ls p ((m.ls p).erase (i : Int)) x ++ [(i : Int)]), ts := upd m.ts i { m.ts i with state := 1, on := some x, left := left } } := by
  unfold K.wait
  rw [M.leave hi hp, M.setT]
  simp only [M.setL]
def fullO (n : Nat) : List Op := (List.range n).flatMap fun _ => [⟨8, 0, 0⟩, ⟨9, 0, 0⟩]
def fullF (p : Nat → Int) (n i : Nat) : Task := if i < n then ⟨p i, [⟨2, 1, 0⟩, ⟨7, 0, p i⟩]⟩ else if i = n then ⟨0, [⟨7, 0, 0⟩]⟩ else ⟨31, ⟨2, 2, 0⟩ :: fullO (n + 1)⟩
def fullT (p : Nat → Int) (n : Nat) : Table := { tasks := (List.range (n + 2)).map (fullF p n), sems := [], mutexes := 0, queues := [1] }
theorem fullO_succ (n : Nat) : fullO (n + 1) = fullO n ++ [⟨8, 0, 0⟩, ⟨9, 0, 0⟩] := by
  unfold fullO
  rw [List.range_succ, List.flatMap_append]
  simp
theorem fullO_len (n : Nat) : (fullO n).length = 2 * n := by
  induction n with
  | zero => rfl
  | succ n ih =>
    rw [fullO_succ, List.length_append, ih]
    simp
    omega
theorem fullO_at {n : Nat} : ∀ {q : Nat}, q < n → (fullO n)[2 * q]? = some ⟨8, 0, 0⟩ ∧ (fullO n)[2 * q + 1]? = some ⟨9, 0, 0⟩ := by
  induction n with
  | zero => intro q h; omega
  | succ n ih =>
    intro q h
    rw [fullO_succ]
    by_cases e : q < n
    · rw [List.getElem?_append_left (by rw [fullO_len]; omega), List.getElem?_append_left (by rw [fullO_len]; omega)]
      exact ih e
    · have : q = n := by omega
      subst this
      rw [List.getElem?_append_right (by rw [fullO_len]; omega), List.getElem?_append_right (by rw [fullO_len]; omega), fullO_len]
      rw [show 2 * q - 2 * q = 0 by omega, show 2 * q + 1 - 2 * q = 1 by omega]
      exact ⟨rfl, rfl⟩
section
variable {p : Nat → Int} {n : Nat}
theorem fullF_lt {i : Nat} (h : i < n) : fullF p n i = ⟨p i, [⟨2, 1, 0⟩, ⟨7, 0, p i⟩]⟩ := if_pos h
theorem fullF_n : fullF p n n = ⟨0, [⟨7, 0, 0⟩]⟩ := by unfold fullF; rw [if_neg (by omega), if_pos rfl]
theorem fullF_l : fullF p n (n + 1) = ⟨31, ⟨2, 2, 0⟩ :: fullO (n + 1)⟩ := by unfold fullF; rw [if_neg (by omega), if_neg (by omega)]
/-- A sender that sleeps, has woken, waits. -/
def fsT (p : Nat → Int) (i : Nat) (st : Int) (pl : Nat) (on : Option Nat) (left v : Int) : T := ⟨[⟨2, 1, 0⟩, ⟨7, 0, p i⟩], p i, p i, st, pl, 0, [0, 0], on, left, v⟩
def flT (n : Nat) (st : Int) (pl : Nat) (left a : Int) : T := ⟨⟨2, 2, 0⟩ :: fullO (n + 1), 31, 31, st, pl, a, (⟨2, 2, 0⟩ :: fullO (n + 1)).map fun _ => 0, none, left, 0⟩
structure FA (p : Nat → Int) (n : Nat) (dn : List Int) (m : M) : Prop where
  snd : ∀ i, i < n → (i : Int) ∈ dn → m.ts i = fsT p i 1 1 none 1 0
  n1 : (n : Int) ∈ dn → (m.ts n).state = 2 ∧ m.ls 48 = [0]
  n0 : (n : Int) ∉ dn → m.ls 48 = []
  last : ((n + 1 : Nat) : Int) ∈ dn → m.ts (n + 1) = flT n 1 1 2 0
  l56 : m.ls 56 = []
  l64 : m.ls 64 = []
  z : m.z = [1]
  o : m.o = []
  op : m.op = dn.length
  tk : m.tk = 0
structure FPre (p : Nat → Int) (n : Nat) : Prop where
  n20 : n ≤ 20
  pr : ∀ i, i < n → 1 ≤ p i ∧ p i ≤ 30
  inj : ∀ i j, i < n → j < n → p i = p j → i = j
theorem full_prio (h : FPre p n) {i : Nat} (hi : i < n + 2) : 0 ≤ (fullF p n i).prio ∧ (fullF p n i).prio ≤ 31 := by
  by_cases q : i < n
  · rw [fullF_lt q]
    have := h.pr i q
    exact ⟨by show 0 ≤ p i; omega, by show p i ≤ 31; omega⟩
  · by_cases q2 : i = n
    · subst q2
      rw [fullF_n]
      exact ⟨by decide, by decide⟩
    · have : i = n + 1 := by omega
      subst this
      rw [fullF_l]
      exact ⟨by show (0 : Int) ≤ 31; decide, by show (31 : Int) ≤ 31; decide⟩
theorem full_start (h : FPre p n) : ∃ m : M, Steps 10 1000 (M.of (n + 2) (fullF p n) [] [1]).k m.k ∧ m.n = n + 2 ∧ m.flat ∧ (∀ y, y < 32 → m.ls y = []) ∧
    (∀ i, i < n → m.ts i = fsT p i 1 1 none 1 0) ∧ (m.ts n).state = 2 ∧ m.ts (n + 1) = flT n 1 1 2 0 ∧ m.ls 48 = [0] ∧ m.ls 56 = [] ∧ m.ls 64 = [] ∧ m.z = [1] ∧ m.o = [] ∧ m.op ≤ n + 2 ∧ m.tk = 0 := by
  have hall : order (M.of (n + 2) (fullF p n) [] [1]).ls = order (rowOf (fun i => (fullF p n i).prio) (n + 2)) := M.of_order
  have hnd : (order (M.of (n + 2) (fullF p n) [] [1]).ls).Nodup := by rw [hall]; exact order_rowOf_nodup _ _
  have hlen : (order (M.of (n + 2) (fullF p n) [] [1]).ls).length ≤ n + 2 := by
    refine nodup_len (n + 2) _ hnd fun z hz => ?_
    rw [hall] at hz
    obtain ⟨y, _, hy⟩ := mem_order.1 hz
    obtain ⟨i, hi, rfl, _⟩ := mem_rowOf.1 hy
    omega
  have h20 := h.n20
  obtain ⟨m', hs, hn', hf', ho', hr', hX⟩ := drain_X (ticks := 10) (ops := 1000) (m0 := M.of (n + 2) (fullF p n) [] [1]) (X := FA p n) (by
      intro dn rest i y r m hall2 x hmn hmf hi hy h0 hl hpi hti _ _
      have hin : i < n + 2 := by rw [hmn] at hi; exact hi
      have hlt : dn.length < n + 2 := by
        rw [hall2, List.length_append, List.length_cons] at hlen
        omega
      have hni : (i : Int) ∉ dn := fun q => by
        rw [hall2] at hnd
        exact (List.nodup_append.1 hnd).2.2 _ q _ List.mem_cons_self rfl
      have hxop := x.op
      have hti' : m.ts i = freshT (fullF p n i) := hti
      have mem : ∀ j : Nat, (j : Int) ∈ dn ++ [(i : Int)] → (j : Int) ∈ dn ∨ j = i := fun j hj => by
        rcases List.mem_append.1 hj with hj | hj
        · exact .inl hj
        · rw [List.mem_singleton] at hj
          exact .inr (Int.ofNat.inj hj)
      by_cases q : i < n
      · rw [fullF_lt q] at hti'
        let m1 : M := { m with op := m.op + 1, ts := upd m.ts i (fsT p i 1 1 none 1 0), ls := upd m.ls y r }
        have f1 : m1.flat := M.flat_upd (m := { m with op := m.op + 1, ls := upd m.ls y r }) hmf rfl
        have r1 : m.k.round 10 1000 = some m1.k := by
          refine M.r_do (o := ⟨2, 1, 0⟩) hi hy h0 hl (by omega) (by rw [hti']; rfl) ?_ f1
          rw [act2]
          unfold K.delay
          rw [if_neg (by show ¬ (1 : Int) = 0; decide)]
          unfold K.wait
          rw [M.leave (m := { m with op := m.op + 1, ts := upd m.ts i { m.ts i with place := (m.ts i).place + 1 } }) (p := y) hi (by show (upd m.ts i _ i).prio = _; rw [upd_at]; exact hpi), M.setT]
          simp only [upd_at]
          rw [hl, List.erase_cons_head]
          refine M.congr rfl (fun j _ => ?_) (fun _ _ => rfl) rfl rfl rfl rfl rfl
          show upd (upd m.ts i _) i _ j = upd m.ts i _ j
          unfold upd
          split
          · rw [hti']
            rfl
          · rfl
        refine ⟨m1, Steps.one r1, rfl, f1, fun _ _ => rfl, fun j hj => upd_ne _ _ hj, ⟨fun j hj hm => ?_, fun hm => ?_, fun hm => ?_, fun hm => ?_, ?_, ?_, x.z, x.o, ?_, x.tk⟩⟩
        · show upd m.ts i _ j = _
          by_cases e : j = i
          · subst e; exact upd_at _ _ _
          · rw [upd_ne _ _ e]
            exact x.snd j hj ((mem j hm).resolve_right e)
        · have := x.n1 ((mem n hm).resolve_right (by omega))
          refine ⟨?_, ?_⟩
          · show (upd m.ts i _ n).state = 2
            rw [upd_ne _ _ (by omega)]
            exact this.1
          · show upd m.ls y r 48 = _
            rw [upd_ne _ _ (by omega)]
            exact this.2
        · show upd m.ls y r 48 = _
          rw [upd_ne _ _ (by omega)]
          exact x.n0 fun hd => hm (List.mem_append_left _ hd)
        · show upd m.ts i _ (n + 1) = _
          rw [upd_ne _ _ (by omega)]
          exact x.last ((mem (n + 1) hm).resolve_right (by omega))
        · show upd m.ls y r 56 = _
          rw [upd_ne _ _ (by omega)]
          exact x.l56
        · show upd m.ls y r 64 = _
          rw [upd_ne _ _ (by omega)]
          exact x.l64
        · show m.op + 1 = _
          rw [x.op, List.length_append]
          rfl
      · by_cases q2 : i = n
        · subst q2
          rw [fullF_n] at hti'
          let m1 : M := { m with op := m.op + 1, ts := upd m.ts i { freshT ⟨0, [⟨7, 0, 0⟩]⟩ with place := 1 }, ls := upd m.ls 48 [0] }
          have f1 : m1.flat := M.flat_upd (m := { m with op := m.op + 1, ls := upd m.ls 48 [0] }) hmf rfl
          have e48 := x.n0 hni
          have r1 : m.k.round 10 1000 = some m1.k := by
            refine M.r_do (o := ⟨7, 0, 0⟩) hi hy h0 hl (by omega) (by rw [hti']; rfl) ?_ f1
            rw [act7]
            unfold K.send
            rw [if_neg (by show ¬ m.z.length ≤ 0; rw [x.z]; simp)]
            have el : ∀ c, c < 72 → K.l (M.k { m with op := m.op + 1, ts := upd m.ts i { m.ts i with place := (m.ts i).place + 1 } }) c = m.ls c := fun c hc => M.l_ (m := { m with op := m.op + 1, ts := upd m.ts i { m.ts i with place := (m.ts i).place + 1 } }) hc
            show K.send1 _ _ _ (K.best _ (K.l _ 64)) = _
            rw [el 64 (by decide), x.l64]
            show K.send1 _ _ _ (-1) = _
            unfold K.send1
            rw [if_neg (by decide)]
            show (if ((K.l _ 48).length : Int) < m.z.getD 0 0 then _ else _) = _
            rw [el 48 (by decide), e48, if_pos (by rw [x.z]; decide)]
            unfold K.say
            show K.setT (K.setL _ 48 _) _ _ = _
            rw [M.setL, M.setT]
            simp only [upd_at]
            refine M.congr rfl (fun j _ => ?_) (fun c _ => ?_) rfl rfl rfl rfl rfl
            · show upd (upd m.ts i _) i _ j = upd m.ts i _ j
              unfold upd
              split
              · rw [hti']
                rfl
              · rfl
            · show upd m.ls 48 (m.ls 48 ++ [0]) c = upd m.ls 48 [0] c
              rw [e48]
              rfl
          have t1 : m1.ts i = { freshT ⟨0, [⟨7, 0, 0⟩]⟩ with place := 1 } := upd_at _ _ _
          have hl1 : m1.ls y = (i : Int) :: r := by
            show upd m.ls 48 [0] y = _
            rw [upd_ne _ _ (by omega)]
            exact hl
          obtain ⟨m2, a1, a2, a3, a4, a5, a6, a7, a8, a9, a10, a11⟩ := M.r_fin' (m := m1) (ticks := 10) (ops := 1000) f1 hi hy (fun c hc => by show upd m.ls 48 [0] c = []; rw [upd_ne _ _ (by omega)]; exact h0 c hc) hl1 (by rw [t1]; rw [hti'] at hpi; exact hpi) (by show m.op + 1 < 1000; omega) (by rw [t1]; exact Nat.le_refl _)
          refine ⟨m2, (Steps.one r1).trans a1, a2, a3, fun c hc => ?_, fun j hj => (a5 j hj).trans (upd_ne _ _ hj), ⟨fun j hj hm => ?_, fun hm => ?_, fun hm => absurd (List.mem_append_right _ (List.mem_singleton_self _)) hm, fun hm => ?_, ?_, ?_, a11.trans x.z, a7.trans x.o, ?_, a9.trans x.tk⟩⟩
          · rw [a4 c]
            unfold upd
            split
            · rfl
            · show upd m.ls 48 [0] c = _
              exact upd_ne _ _ (by omega)
          · rw [a5 j (by omega)]
            exact (upd_ne _ _ (by omega)).trans (x.snd j hj ((mem j hm).resolve_right (by omega)))
          · refine ⟨by rw [a6], ?_⟩
            rw [a4 48, upd_ne _ _ (by omega)]
            show upd m.ls 48 [0] 48 = _
            exact upd_at _ _ _
          · rw [a5 (i + 1) (by omega)]
            exact (upd_ne _ _ (by omega)).trans (x.last ((mem (i + 1) hm).resolve_right (by omega)))
          · rw [a4 56, upd_ne _ _ (by omega)]
            show upd m.ls 48 [0] 56 = _
            rw [upd_ne _ _ (by decide)]
            exact x.l56
          · rw [a4 64, upd_ne _ _ (by omega)]
            show upd m.ls 48 [0] 64 = _
            rw [upd_ne _ _ (by decide)]
            exact x.l64
          · rw [a8]
            show m.op + 1 = _
            rw [x.op, List.length_append]
            rfl
        · have q3 : i = n + 1 := by omega
          subst q3
          rw [fullF_l] at hti'
          let m1 : M := { m with op := m.op + 1, ts := upd m.ts (n + 1) (flT n 1 1 2 0), ls := upd m.ls y r }
          have f1 : m1.flat := M.flat_upd (m := { m with op := m.op + 1, ls := upd m.ls y r }) hmf rfl
          have r1 : m.k.round 10 1000 = some m1.k := by
            refine M.r_do (o := ⟨2, 2, 0⟩) hi hy h0 hl (by omega) (by rw [hti']; rfl) ?_ f1
            rw [act2]
            unfold K.delay
            rw [if_neg (by show ¬ (2 : Int) = 0; decide)]
            unfold K.wait
            rw [M.leave (m := { m with op := m.op + 1, ts := upd m.ts (n + 1) { m.ts (n + 1) with place := (m.ts (n + 1)).place + 1 } }) (p := y) hi (by show (upd m.ts (n + 1) _ (n + 1)).prio = _; rw [upd_at]; exact hpi), M.setT]
            simp only [upd_at]
            rw [hl, List.erase_cons_head]
            refine M.congr rfl (fun j _ => ?_) (fun _ _ => rfl) rfl rfl rfl rfl rfl
            show upd (upd m.ts (n + 1) _) (n + 1) _ j = upd m.ts (n + 1) _ j
            unfold upd
            split
            · rw [hti']
              rfl
            · rfl
          refine ⟨m1, Steps.one r1, rfl, f1, fun _ _ => rfl, fun j hj => upd_ne _ _ hj, ⟨fun j hj hm => ?_, fun hm => ?_, fun hm => ?_, fun hm => upd_at _ _ _, ?_, ?_, x.z, x.o, ?_, x.tk⟩⟩
          · show upd m.ts (n + 1) _ j = _
            rw [upd_ne _ _ (by omega)]
            exact x.snd j hj ((mem j hm).resolve_right (by omega))
          · have := x.n1 ((mem n hm).resolve_right (by omega))
            refine ⟨?_, ?_⟩
            · show (upd m.ts (n + 1) _ n).state = 2
              rw [upd_ne _ _ (by omega)]
              exact this.1
            · show upd m.ls y r 48 = _
              rw [upd_ne _ _ (by omega)]
              exact this.2
          · show upd m.ls y r 48 = _
            rw [upd_ne _ _ (by omega)]
            exact x.n0 fun hd => hm (List.mem_append_left _ hd)
          · show upd m.ls y r 56 = _
            rw [upd_ne _ _ (by omega)]
            exact x.l56
          · show upd m.ls y r 64 = _
            rw [upd_ne _ _ (by omega)]
            exact x.l64
          · show m.op + 1 = _
            rw [x.op, List.length_append]
            rfl)
    ⟨fun i _ hi => (by cases hi), fun hi => (by cases hi), fun _ => rfl, fun hi => (by cases hi), rfl, rfl, rfl, rfl, rfl, rfl⟩ M.of_flat (M.of_rowOk fun i hi => (full_prio h hi).1) hnd
  have hin : ∀ i, i < n + 2 → (i : Int) ∈ order (M.of (n + 2) (fullF p n) [] [1]).ls := fun i hi => by
    rw [hall]
    exact mem_order.2 ⟨(fullF p n i).prio.toNat, by have := full_prio h hi; omega, mem_rowOf.2 ⟨i, hi, rfl, rfl⟩⟩
  exact ⟨m', hs, hn', hf', order_nil ho', fun i hi => hX.snd i hi (hin i (by omega)), (hX.n1 (hin n (by omega))).1, hX.last (hin (n + 1) (by omega)), (hX.n1 (hin n (by omega))).2, hX.l56, hX.l64, hX.z, hX.o, by rw [hX.op]; exact hlen, hX.tk⟩
/-- The senders, by priority. -/
def fullS (p : Nat → Int) (n : Nat) : List Int := order (rowOf p n)
theorem mem_fullS (h : FPre p n) {z : Int} : z ∈ fullS p n ↔ ∃ i, i < n ∧ z = (i : Int) := by
  constructor
  · intro hz
    obtain ⟨y, _, hy⟩ := mem_order.1 hz
    obtain ⟨i, hi, e, _⟩ := mem_rowOf.1 hy
    exact ⟨i, hi, e⟩
  · rintro ⟨i, hi, rfl⟩
    have := h.pr i hi
    exact mem_order.2 ⟨(p i).toNat, by omega, mem_rowOf.2 ⟨i, hi, rfl, rfl⟩⟩
theorem fullS_sorted (h : FPre p n) : (fullS p n).Pairwise fun a b => p a.toNat < p b.toNat := by
  unfold fullS order
  refine List.pairwise_flatMap.2 ⟨fun y _ => ?_, ?_⟩
  · refine List.Pairwise.imp_of_mem ?_ (rowOf_nodup p n y)
    intro a b ha hb hab
    obtain ⟨i, hi, rfl, h1⟩ := mem_rowOf.1 ha
    obtain ⟨j, hj, rfl, h2⟩ := mem_rowOf.1 hb
    exfalso
    have := h.pr i hi
    have := h.pr j hj
    have := h.inj i j hi hj (by omega)
    subst this
    exact hab rfl
  · refine List.Pairwise.imp ?_ List.pairwise_lt_range
    intro a b hab z hz z' hz'
    obtain ⟨i, hi, rfl, h1⟩ := mem_rowOf.1 hz
    obtain ⟨j, hj, rfl, h2⟩ := mem_rowOf.1 hz'
    have := h.pr i hi
    have := h.pr j hj
    show p i < p j
    omega
structure FB (p : Nat → Int) (n op0 : Nat) (dn : List Int) (m : M) : Prop where
  snd : ∀ i : Nat, (i : Int) ∈ dn → m.ts i = fsT p i 1 2 (some 56) 0 (p i)
  l56 : m.ls 56 = dn
  l48 : m.ls 48 = [0]
  l64 : m.ls 64 = []
  z : m.z = [1]
  o : m.o = []
  op : m.op = op0 + dn.length
  tk : m.tk = 1
theorem full_mid (h : FPre p n) : ∃ m : M, Steps 10 1000 (M.of (n + 2) (fullF p n) [] [1]).k m.k ∧ m.n = n + 2 ∧ m.flat ∧ (∀ y, y < 32 → m.ls y = []) ∧
    (∀ i, i < n → m.ts i = fsT p i 1 2 (some 56) 0 (p i)) ∧ (m.ts n).state = 2 ∧ m.ts (n + 1) = flT n 1 1 1 0 ∧ m.ls 48 = [0] ∧ m.ls 56 = fullS p n ∧ m.ls 64 = [] ∧ m.z = [1] ∧ m.o = [] ∧ m.op ≤ 2 * n + 2 ∧ m.tk = 1 := by
  obtain ⟨m, s0, hn, hf, h0, t0, tn, tl, l48, l56, l64, hz, ho, hop, htk⟩ := full_start h
  have h20 := h.n20
  have wk : ∀ i, i < n + 2 → wakes (m.ts i) = decide (i < n) := fun i hi => by
    by_cases q : i < n
    · rw [t0 i q, decide_eq_true q]
      exact decide_eq_true ⟨rfl, (by show (1 : Int) ≠ 0; decide), (by show ¬ (0 : Int) < 1 - 1; decide)⟩
    · rw [decide_eq_false q]
      by_cases q2 : i = n
      · rw [q2]
        exact decide_eq_false fun ⟨a, _⟩ => by rw [tn] at a; exact absurd a (by decide)
      · rw [show i = n + 1 by omega, tl]
        exact decide_eq_false fun ⟨_, _, a⟩ => a (by show (0 : Int) < 2 - 1; decide)
  have hr0 := M.r_tick (m := m) (ops := 1000) h0 (i := n + 1) (ticks := 10) (by omega) (by rw [tl]; rfl) (by rw [tl]; show (0 : Int) < 2; decide) (by omega)
  obtain ⟨m1, e1, n1, f1, t1, r1, s1, z1, o1, k1, p1, far1⟩ := M.tick' hf h0 (fun j hj hw => by
    rw [wk j (by omega)] at hw
    have q := of_decide_eq_true hw
    rw [t0 j q]
    have := h.pr j q
    exact ⟨rfl, by show (p j).toNat < 32; omega⟩)
  rw [e1] at hr0
  have hrow : ∀ y, y < 32 → m1.ls y = rowOf p n y := fun y hy => by
    rw [r1 y hy, hn]
    unfold rowOf
    congr 1
    have e2 : List.range (n + 2) = List.range n ++ [n, n + 1] := by
      rw [List.range_succ, List.range_succ, List.append_assoc]
      rfl
    rw [e2, List.filter_append]
    have e3 : ([n, n + 1].filter fun j => wakes (m.ts j) && decide ((m.ts j).prio.toNat = y)) = [] := by
      rw [List.filter_eq_nil_iff]
      intro a ha
      rw [List.mem_cons, List.mem_singleton] at ha
      rw [wk a (by omega), decide_eq_false (by omega), Bool.false_and]
      decide
    rw [e3, List.append_nil]
    refine List.filter_congr fun i hi => ?_
    have hi := List.mem_range.1 hi
    rw [wk i (by omega), decide_eq_true hi, Bool.true_and, t0 i hi]
    rfl
  have hord : order m1.ls = fullS p n := order_congr hrow
  have t1' : ∀ i, i < n → m1.ts i = fsT p i 0 1 none 0 0 := fun i hi => by
    rw [t1 i (by omega), t0 i hi]
    unfold tickT
    rw [if_neg (by show ¬ ((1 : Int) ≠ 1 ∨ (1 : Int) = 0); decide), if_neg (by show ¬ (0 : Int) < 1 - 1; decide)]
    rfl
  have hrk : m1.RowOk := by
    intro y hy z hz
    rw [hrow y hy] at hz
    obtain ⟨i, hi, e, hp⟩ := mem_rowOf.1 hz
    refine ⟨i, by omega, e, ?_⟩
    rw [t1' i hi]
    have := h.pr i hi
    show p i = y
    omega
  have hnd : (order m1.ls).Nodup := by rw [hord]; exact order_rowOf_nodup _ _
  have hlen : (fullS p n).length ≤ n := by
    refine nodup_len n _ (order_rowOf_nodup _ _) fun z hz => ?_
    obtain ⟨i, hi, rfl⟩ := (mem_fullS h).1 hz
    omega
  obtain ⟨m', hs, hn', hf', ho', hr', hX⟩ := drain_X (ticks := 10) (ops := 1000) (m0 := m1) (X := FB p n m1.op) (by
      intro dn rest i y r m2 hall2 x hmn hmf hi hy hy0 hl hpi hti _ _
      rw [hord] at hall2
      have hin : i < n := by
        obtain ⟨j, hj, e⟩ := (mem_fullS h).1 (by rw [hall2]; exact List.mem_append_right _ List.mem_cons_self : (i : Int) ∈ fullS p n)
        omega
      have hlt : dn.length < n := by
        rw [hall2, List.length_append, List.length_cons] at hlen
        omega
      have hxop := x.op
      rw [t1' i hin] at hti
      let m3 : M := { m2 with op := m2.op + 1, ts := upd m2.ts i (fsT p i 1 2 (some 56) 0 (p i)), ls := upd (upd m2.ls y r) 56 (m2.ls 56 ++ [(i : Int)]) }
      have f3 : m3.flat := M.flat_upd (m := { m2 with op := m2.op + 1, ls := upd (upd m2.ls y r) 56 (m2.ls 56 ++ [(i : Int)]) }) hmf rfl
      have r3 : m2.k.round 10 1000 = some m3.k := by
        refine M.r_do (o := ⟨7, 0, p i⟩) hi hy hy0 hl (by omega) (by rw [hti]; rfl) ?_ f3
        rw [act7]
        unfold K.send
        rw [if_neg (by show ¬ m2.z.length ≤ 0; rw [x.z]; simp)]
        have el : ∀ c, c < 72 → K.l (M.k { m2 with op := m2.op + 1, ts := upd m2.ts i { m2.ts i with place := (m2.ts i).place + 1 } }) c = m2.ls c := fun c hc => M.l_ (m := { m2 with op := m2.op + 1, ts := upd m2.ts i { m2.ts i with place := (m2.ts i).place + 1 } }) hc
        show K.send1 _ _ _ (K.best _ (K.l _ 64)) = _
        rw [el 64 (by decide), x.l64]
        show K.send1 _ _ _ (-1) = _
        unfold K.send1
        rw [if_neg (by decide)]
        show (if ((K.l _ 48).length : Int) < m2.z.getD 0 0 then _ else _) = _
        rw [el 48 (by decide), x.l48, if_neg (by rw [x.z]; decide), M.setT]
        refine (M.wait_on (p := y) ?_ ?_).trans ?_
        · exact hi
        · simp only [upd_at]
          exact hpi
        simp only [upd_at]
        rw [hl, List.erase_cons_head]
        refine M.congr rfl (fun j _ => ?_) (fun c _ => ?_) rfl rfl rfl rfl rfl
        · show upd (upd (upd m2.ts i _) i _) i _ j = upd m2.ts i _ j
          unfold upd
          split
          · rw [hti]
            rfl
          · rfl
        · show upd (upd m2.ls y r) 56 (upd m2.ls y r 56 ++ [(i : Int)]) c = _
          rw [upd_ne m2.ls r (show 56 ≠ y by omega)]
      refine ⟨m3, Steps.one r3, rfl, f3, fun c hc => upd_ne _ _ (by omega), fun j hj => upd_ne _ _ hj, ⟨fun j hm => ?_, ?_, ?_, ?_, x.z, x.o, ?_, x.tk⟩⟩
      · show upd m2.ts i _ j = _
        by_cases e : j = i
        · subst e; exact upd_at _ _ _
        · rw [upd_ne _ _ e]
          rcases List.mem_append.1 hm with hm | hm
          · exact x.snd j hm
          · rw [List.mem_singleton] at hm
            exact absurd (Int.ofNat.inj hm) e
      · show upd (upd m2.ls y r) 56 (m2.ls 56 ++ [(i : Int)]) 56 = _
        rw [upd_at, x.l56]
      · show upd (upd m2.ls y r) 56 (m2.ls 56 ++ [(i : Int)]) 48 = _
        rw [upd_ne _ _ (by decide), upd_ne _ _ (by omega)]
        exact x.l48
      · show upd (upd m2.ls y r) 56 (m2.ls 56 ++ [(i : Int)]) 64 = _
        rw [upd_ne _ _ (by decide), upd_ne _ _ (by omega)]
        exact x.l64
      · show m2.op + 1 = _
        rw [x.op, List.length_append]
        rfl)
    ⟨fun i hi => (by cases hi), by rw [far1 56 (by decide), l56], by rw [far1 48 (by decide), l48], by rw [far1 64 (by decide), l64], by rw [z1, hz], by rw [o1, ho], rfl, by rw [k1, htk]⟩ f1 hrk hnd
  rw [hord] at hX hr'
  refine ⟨m', s0.trans ((Steps.one hr0).trans hs), hn'.trans (n1.trans hn), hf', order_nil ho', fun i hi => hX.snd i ((mem_fullS h).2 ⟨i, hi, rfl⟩), ?_, ?_, hX.l48, hX.l56, hX.l64, hX.z, hX.o, ?_, hX.tk⟩
  · have : (n : Int) ∉ fullS p n := fun q => by
      obtain ⟨i, hi, e⟩ := (mem_fullS h).1 q
      omega
    rw [hr' n (by omega) this, t1 n (by omega)]
    unfold tickT
    rw [if_pos (.inl (by rw [tn]; decide))]
    exact tn
  · have : ((n + 1 : Nat) : Int) ∉ fullS p n := fun q => by
      obtain ⟨i, hi, e⟩ := (mem_fullS h).1 q
      omega
    rw [hr' (n + 1) (by omega) this, t1 (n + 1) (by omega), tl]
    unfold tickT
    rw [if_neg (by show ¬ ((1 : Int) ≠ 1 ∨ (2 : Int) = 0); decide), if_pos (by show (0 : Int) < 2 - 1; decide)]
    rfl
  · rw [hX.op, p1]
    omega
theorem full_fits (h : FPre p n) (h1 : 1 ≤ n) : (fullT p n).fits = true := by
  have h20 := h.n20
  unfold Table.fits fullT
  simp only [Bool.and_eq_true, decide_eq_true_eq, List.all_eq_true, List.length_map, List.length_range]
  refine ⟨⟨⟨by simp; omega, by simp⟩, by simp⟩, ?_⟩
  intro x hx
  obtain ⟨i, hi, rfl⟩ := List.mem_map.1 hx
  rw [List.mem_range] at hi
  by_cases q : i < n
  · rw [fullF_lt q]
    have := h.pr i q
    simp [Task.fits, opsFit, Op.fits, bounds]
    omega
  · by_cases q2 : i = n
    · subst q2
      rw [fullF_n]
      simp [Task.fits, opsFit, Op.fits, bounds]
    · have : i = n + 1 := by omega
      subst this
      rw [fullF_l]
      have hO : ∀ (k : Nat) (j : Int), opsFit (fullO k) j = true := by
        intro k
        induction k with
        | zero => intro j; rfl
        | succ k ih =>
          intro j
          have e : fullO (k + 1) = ⟨8, 0, 0⟩ :: ⟨9, 0, 0⟩ :: fullO k := by
            unfold fullO
            rw [show k + 1 = 1 + k by omega, List.range_add, List.flatMap_append]
            simp [List.flatMap_map]
          rw [e, opsFit, opsFit, ih]
          simp [Op.fits, bounds]
      unfold Task.fits
      rw [opsFit, hO]
      simp [Op.fits, bounds, fullO_len]
      omega
/-- Each priority that is there, once, in order. -/
def hit (p : Nat → Int) (n y : Nat) : Bool := (List.range n).any fun i => decide (p i = (y : Int))
theorem row_vals (h : FPre p n) {y : Nat} (hy : 1 ≤ y) : (rowOf p n y).map (fun z => p z.toNat) = if hit p n y then [(y : Int)] else [] := by
  by_cases q : ∃ i, i < n ∧ p i = (y : Int)
  · obtain ⟨i, hi, e⟩ := q
    have hh : hit p n y = true := by
      unfold hit
      rw [List.any_eq_true]
      exact ⟨i, List.mem_range.2 hi, decide_eq_true e⟩
    have hr : rowOf p n y = [(i : Int)] := by
      have hnd := rowOf_nodup p n y
      have hall : ∀ z ∈ rowOf p n y, z = (i : Int) := fun z hz => by
        obtain ⟨j, hj, rfl, hp⟩ := mem_rowOf.1 hz
        have := h.pr j hj
        have := h.inj j i hj hi (by omega)
        rw [this]
      have hin : (i : Int) ∈ rowOf p n y := mem_rowOf.2 ⟨i, hi, rfl, by omega⟩
      match hl : rowOf p n y with
      | [] => rw [hl] at hin; cases hin
      | [a] => rw [hl] at hall; rw [hall a List.mem_cons_self]
      | a :: b :: l =>
        rw [hl] at hall hnd
        have e1 := hall a List.mem_cons_self
        have e2 := hall b (List.mem_cons_of_mem _ List.mem_cons_self)
        exact absurd (e1.trans e2.symm) (fun e => (List.nodup_cons.1 hnd).1 (by rw [e]; exact List.mem_cons_self))
    rw [hr, hh, if_pos rfl]
    show [p i] = _
    rw [e]
  · have hh : hit p n y = false := by
      unfold hit
      rw [List.any_eq_false]
      intro i hi hd
      exact q ⟨i, List.mem_range.1 hi, of_decide_eq_true hd⟩
    have hr : rowOf p n y = [] := by
      rw [List.eq_nil_iff_forall_not_mem]
      intro z hz
      obtain ⟨i, hi, rfl, hp⟩ := mem_rowOf.1 hz
      have := h.pr i hi
      exact q ⟨i, hi, by omega⟩
    rw [hr, hh]
    rfl
/-- The receiver, so many values on: v is the one that the queue holds. -/
structure FC (p : Nat → Int) (n q : Nat) (v : Int) (S : List Int) (o : List UInt8) (m : M) : Prop where
  hn : m.n = n + 2
  flat : m.flat
  row : ∀ y, y < 32 → m.ls y = if y = 31 then [((n + 1 : Nat) : Int)] else []
  l48 : m.ls 48 = [v]
  l56 : m.ls 56 = S
  z : m.z = [1]
  last : ∃ a, m.ts (n + 1) = flT n 0 (1 + 2 * q) 0 a
  wait : ∀ i, i < n → (i : Int) ∈ S → m.ts i = fsT p i 1 2 (some 56) 0 (p i)
  did : ∀ i, i < n + 1 → (i : Int) ∉ S → (m.ts i).state = 2
  o : m.o = o
  op : m.op ≤ 2 * n + 2 + 2 * q
  tk : m.tk = 2
theorem full_tick (h : FPre p n) : ∃ m : M, Steps 10 1000 (M.of (n + 2) (fullF p n) [] [1]).k m.k ∧ FC p n 0 0 (fullS p n) [] m := by
  obtain ⟨m, s0, hn, hf, h0, t0, tn, tl, l48, l56, l64, hz, ho, hop, htk⟩ := full_mid h
  have wk : ∀ i, i < n + 2 → wakes (m.ts i) = decide (i = n + 1) := fun i hi => by
    by_cases q : i < n
    · rw [t0 i q, decide_eq_false (by omega)]
      exact decide_eq_false fun ⟨_, a, _⟩ => a rfl
    · by_cases q2 : i = n
      · rw [q2, decide_eq_false (by omega)]
        exact decide_eq_false fun ⟨a, _⟩ => by rw [tn] at a; exact absurd a (by decide)
      · have e : i = n + 1 := by omega
        rw [e, tl, decide_eq_true rfl]
        exact decide_eq_true ⟨rfl, (by show (1 : Int) ≠ 0; decide), (by show ¬ (0 : Int) < 1 - 1; decide)⟩
  have hr0 := M.r_tick (m := m) (ops := 1000) h0 (i := n + 1) (ticks := 10) (by omega) (by rw [tl]; rfl) (by rw [tl]; show (0 : Int) < 1; decide) (by omega)
  obtain ⟨m1, e1, n1, f1, t1, r1, s1, z1, o1, k1, p1, far1⟩ := M.tick' hf h0 (fun j hj hw => by
    rw [wk j (by omega)] at hw
    have q := of_decide_eq_true hw
    rw [q, tl]
    exact ⟨rfl, by show (31 : Int).toNat < 32; decide⟩)
  rw [e1] at hr0
  have tick_same : ∀ i, i < n + 1 → m1.ts i = m.ts i := fun i hi => by
    rw [t1 i (by omega)]
    unfold tickT
    by_cases q : i < n
    · rw [t0 i q, if_pos (.inr rfl)]
    · rw [show i = n by omega, if_pos (.inl (by rw [tn]; decide))]
  refine ⟨m1, s0.trans (.one hr0), n1.trans hn, f1, fun y hy => ?_, (far1 48 (by decide)).trans l48, (far1 56 (by decide)).trans l56, z1.trans hz, ⟨0, ?_⟩, fun i hi _ => (tick_same i (by omega)).trans (t0 i hi), fun i hi hm => ?_, o1.trans ho, by rw [p1]; omega, by rw [k1, htk]⟩
  · rw [r1 y hy, hn]
    have e2 : List.range (n + 2) = List.range (n + 1) ++ [n + 1] := List.range_succ
    rw [e2, List.filter_append]
    have e3 : ((List.range (n + 1)).filter fun j => wakes (m.ts j) && decide ((m.ts j).prio.toNat = y)) = [] := by
      rw [List.filter_eq_nil_iff]
      intro a ha
      have ha := List.mem_range.1 ha
      rw [wk a (by omega), decide_eq_false (by omega), Bool.false_and]
      decide
    rw [e3, List.nil_append]
    have e4 : (wakes (m.ts (n + 1)) && decide ((m.ts (n + 1)).prio.toNat = y)) = decide (31 = y) := by
      rw [wk _ (by omega), decide_eq_true rfl, Bool.true_and, tl]
      rfl
    rw [List.filter_cons, e4]
    by_cases q : y = 31
    · subst q
      rw [if_pos rfl, if_pos (by decide)]
      rfl
    · rw [if_neg q, if_neg (by rw [decide_eq_true_eq]; omega)]
      rfl
  · rw [t1 (n + 1) (by omega), tl]
    unfold tickT
    rw [if_neg (by show ¬ ((1 : Int) ≠ 1 ∨ (1 : Int) = 0); decide), if_neg (by show ¬ (0 : Int) < 1 - 1; decide)]
    rfl
  · rw [tick_same i hi]
    by_cases q : i < n
    · exact absurd ((mem_fullS h).2 ⟨i, q, rfl⟩) hm
    · rw [show i = n by omega]
      exact tn
end
end Kn
end Go.Proofs.Ytncbgnpoffolcaa
