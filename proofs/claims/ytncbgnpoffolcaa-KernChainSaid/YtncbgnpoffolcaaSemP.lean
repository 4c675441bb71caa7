/-
  KernSems: what its table writes.
-/
import Derived.Test.YtncbgnpoffolcaaDlyP
namespace Go.Proofs.Ytncbgnpoffolcaa
namespace Kn
/-- The best one of a list is its first, if none is higher. -/
theorem bestOf_keep (k : K) : ∀ (l : List Int) (b : Int), 0 ≤ b → (∀ z ∈ l, ¬ (k.t z).prio < (k.t b).prio) → k.bestOf l b = b
  | [], _, _, _ => rfl
  | z :: l, b, hb, h => by
    unfold K.bestOf
    rw [if_neg (by
      rintro (q | q)
      · omega
      · exact h z List.mem_cons_self q)]
    exact bestOf_keep k l b hb fun w hw => h w (List.mem_cons_of_mem _ hw)
theorem best_first (k : K) {x : Int} {l : List Int} (hx : 0 ≤ x) (h : ∀ z ∈ l, ¬ (k.t z).prio < (k.t x).prio) : k.best (x :: l) = x := by
  unfold K.best K.bestOf
  rw [if_pos (.inl (by omega))]
  exact bestOf_keep k l x hx h
def semF (n g i : Nat) : Task := if i < n then ⟨1 + i, [⟨3, 0, -1⟩, ⟨0, 97 + i, 0⟩]⟩ else ⟨31, List.replicate g ⟨4, 0, 0⟩⟩
def semT (b g n : Nat) : Table := { tasks := (List.range (n + 1)).map (semF n g), sems := [(b : Int)], mutexes := 0, queues := [] }
section
variable {b g n : Nat}
theorem semF_lt {i : Nat} (h : i < n) : semF n g i = ⟨1 + i, [⟨3, 0, -1⟩, ⟨0, 97 + i, 0⟩]⟩ := if_pos h
theorem semF_n : semF n g n = ⟨31, List.replicate g ⟨4, 0, 0⟩⟩ := if_neg (by omega)
def wtT (i : Nat) : T := ⟨[⟨3, 0, -1⟩, ⟨0, 97 + i, 0⟩], 1 + i, 1 + i, 1, 1, 0, [0, 0], some 32, 0, 0⟩
def ups (a d : Nat) : List Int := (List.range' a d).map Int.ofNat
theorem ups_succ (a d : Nat) : ups a (d + 1) = (a : Int) :: ups (a + 1) d := by
  unfold ups
  rw [List.range'_succ]
  rfl
theorem ups_push (a d : Nat) : ups a (d + 1) = ups a d ++ [((a + d : Nat) : Int)] := by
  unfold ups
  rw [List.range'_concat, List.map_append]
  simp
structure SA (b g n j : Nat) (m : M) : Prop where
  hn : m.n = n + 1
  flat : m.flat
  row : ∀ y, y < 32 → m.ls y = if y = 31 then [(n : Int)] else if j < y ∧ y ≤ n then [((y - 1 : Nat) : Int)] else []
  que : m.ls 32 = ups b (j - b)
  sem : m.s = [((b - j : Nat) : Int)]
  fresh : ∀ i, j ≤ i → i < n + 1 → m.ts i = freshT (semF n g i)
  wait : ∀ i, b ≤ i → i < j → m.ts i = wtT i
  did : ∀ i, i < j → i < b → (m.ts i).state = 2
  out : m.o = (ups 0 (min j b)).map byt
  op : m.op ≤ 2 * j
theorem sem_a (hn : n ≤ 20) {j : Nat} {m : M} (hj : j < n) (h : SA b g n j m) : ∃ m' : M, Steps 10 1000 m.k m'.k ∧ SA b g n (j + 1) m' := by
  have hjn : j < m.n := by rw [h.hn]; omega
  have hf := h.fresh j (Nat.le_refl _) (by omega)
  rw [semF_lt hj] at hf
  have hop := h.op
  have h0 : ∀ q, q < 1 + j → m.ls q = [] := fun q hq => by rw [h.row q (by omega), if_neg (by omega), if_neg (by omega)]
  have hl : m.ls (1 + j) = [(j : Int)] := by
    rw [h.row _ (by omega), if_neg (by omega), if_pos (by omega), show 1 + j - 1 = j by omega]
  by_cases hb : j < b
  · let m1 : M := { m with op := m.op + 1, s := [((b - (j + 1) : Nat) : Int)], ts := upd m.ts j { freshT ⟨1 + j, [⟨3, 0, -1⟩, ⟨0, 97 + j, 0⟩]⟩ with place := 1 } }
    have f1 : m1.flat := M.flat_upd (m := { m with op := m.op + 1, s := [((b - (j + 1) : Nat) : Int)] }) h.flat rfl
    have r1 : m.k.round 10 1000 = some m1.k := by
      refine M.r_do (o := ⟨3, 0, -1⟩) hjn (by omega) h0 hl (by omega) (by rw [hf]; rfl) ?_ f1
      rw [act3]
      unfold K.take
      rw [if_neg (by show ¬ m.s.length ≤ 0; rw [h.sem]; simp), if_pos (by show 0 < m.s.getD 0 0; rw [h.sem]; show (0 : Int) < ((b - j : Nat) : Int); omega)]
      unfold K.say
      show K.setT (M.k { m with op := m.op + 1, s := m.s.modify 0 (· - 1), ts := upd m.ts j { m.ts j with place := (m.ts j).place + 1 } }) j _ = _
      rw [M.setT]
      simp only [upd_at]
      refine M.congr rfl (fun i _ => ?_) (fun _ _ => rfl) ?_ rfl rfl rfl rfl
      · show upd (upd m.ts j _) j _ i = upd m.ts j _ i
        unfold upd
        split
        · rw [hf]
          rfl
        · rfl
      · show m.s.modify 0 (· - 1) = _
        rw [h.sem]
        show [((b - j : Nat) : Int) - 1] = [((b - (j + 1) : Nat) : Int)]
        rw [show ((b - j : Nat) : Int) - 1 = ((b - (j + 1) : Nat) : Int) by omega]
    have t1 : m1.ts j = { freshT ⟨1 + j, [⟨3, 0, -1⟩, ⟨0, 97 + j, 0⟩]⟩ with place := 1 } := upd_at _ _ _
    obtain ⟨m2, s2, n2, f2, l2, t2, st2, o2, p2, k2, e2, z2, far2⟩ := M.r_putend (m := m1) (ticks := 10) (ops := 1000) (a := 97 + j) f1 hjn (show 1 + j < 32 by omega) h0 hl (by rw [t1]; show (1 : Int) + j = ((1 + j : Nat) : Int); omega) (by show m.op + 1 + 1 < 1000; omega) (by rw [t1]; rfl) (by rw [t1]; rfl)
    refine ⟨m2, (Steps.one r1).trans s2, n2.trans h.hn, f2, fun y hy => ?_, ?_, e2, fun i hi hi2 => ?_, fun i hi hi2 => ?_, fun i hi hi2 => ?_, ?_, ?_⟩
    · rw [l2 y hy]
      by_cases e : y = 1 + j
      · subst e
        rw [upd_at, if_neg (by omega), if_neg (by omega)]
      · rw [upd_ne _ _ e]
        show m.ls y = _
        rw [h.row y hy]
        split
        · rfl
        · by_cases q : j < y ∧ y ≤ n
          · rw [if_pos q, if_pos (by omega)]
          · rw [if_neg q, if_neg (by omega)]
    · rw [far2 32 (Nat.le_refl _)]
      show m.ls 32 = _
      rw [h.que, show j - b = 0 by omega, show j + 1 - b = 0 by omega]
    · rw [t2 i (by omega)]
      exact (upd_ne _ _ (by omega)).trans (h.fresh i (by omega) hi2)
    · omega
    · by_cases e : i = j
      · rw [e]
        exact st2
      · rw [t2 i e]
        show (upd m.ts j _ i).state = 2
        rw [upd_ne _ _ e]
        exact h.did i (by omega) hi2
    · rw [o2]
      show m.o ++ [UInt8.ofNat (97 + (j : Int)).toNat] = _
      rw [h.out, show min j b = j by omega, show min (j + 1) b = j + 1 by omega, ups_push, List.map_append, Nat.zero_add]
      rfl
    · rw [p2]
      show m.op + 1 + 1 ≤ _
      omega
  · let m1 : M := { m with op := m.op + 1, ls := upd (upd m.ls (1 + j) []) 32 (m.ls 32 ++ [(j : Int)]), ts := upd m.ts j (wtT j) }
    have f1 : m1.flat := M.flat_upd (m := { m with op := m.op + 1, ls := upd (upd m.ls (1 + j) []) 32 (m.ls 32 ++ [(j : Int)]) }) h.flat rfl
    have r1 : m.k.round 10 1000 = some m1.k := by
      refine M.r_do (o := ⟨3, 0, -1⟩) hjn (by omega) h0 hl (by omega) (by rw [hf]; rfl) ?_ f1
      rw [act3]
      unfold K.take
      rw [if_neg (by show ¬ m.s.length ≤ 0; rw [h.sem]; simp), if_neg (by show ¬ 0 < m.s.getD 0 0; rw [h.sem]; show ¬ (0 : Int) < ((b - j : Nat) : Int); omega), if_neg (by decide), if_neg (by decide)]
      unfold K.wait
      rw [M.leave (m := { m with op := m.op + 1, ts := upd m.ts j { m.ts j with place := (m.ts j).place + 1 } }) (p := 1 + j) hjn (by show (upd m.ts j _ j).prio = _; rw [upd_at, hf]; show (1 : Int) + j = ((1 + j : Nat) : Int); omega), M.setT]
      simp only [upd_at, M.setL]
      rw [hl, List.erase_cons_head]
      refine M.congr rfl (fun i _ => ?_) (fun y _ => ?_) rfl rfl rfl rfl rfl
      · show upd (upd m.ts j _) j _ i = upd m.ts j _ i
        unfold upd
        split
        · rw [hf]
          rfl
        · rfl
      · show upd (upd m.ls (1 + j) []) 32 (upd m.ls (1 + j) [] 32 ++ [(j : Int)]) y = upd (upd m.ls (1 + j) []) 32 (m.ls 32 ++ [(j : Int)]) y
        rw [upd_ne m.ls [] (show 32 ≠ 1 + j by omega)]
    refine ⟨m1, Steps.one r1, h.hn, f1, fun y hy => ?_, ?_, ?_, fun i hi hi2 => ?_, fun i hi hi2 => ?_, fun i hi hi2 => ?_, ?_, ?_⟩
    · show upd (upd m.ls (1 + j) []) 32 _ y = _
      rw [upd_ne _ _ (by omega)]
      by_cases e : y = 1 + j
      · subst e
        rw [upd_at, if_neg (by omega), if_neg (by omega)]
      · rw [upd_ne _ _ e, h.row y hy]
        split
        · rfl
        · by_cases q : j < y ∧ y ≤ n
          · rw [if_pos q, if_pos (by omega)]
          · rw [if_neg q, if_neg (by omega)]
    · show upd (upd m.ls (1 + j) []) 32 (m.ls 32 ++ [(j : Int)]) 32 = _
      rw [upd_at, h.que, show j + 1 - b = (j - b) + 1 by omega, ups_push, show b + (j - b) = j by omega]
    · show m.s = _
      rw [h.sem, show b - j = b - (j + 1) by omega]
    · show upd m.ts j _ i = _
      rw [upd_ne _ _ (by omega)]
      exact h.fresh i (by omega) hi2
    · show upd m.ts j _ i = _
      by_cases e : i = j
      · subst e
        exact upd_at _ _ _
      · rw [upd_ne _ _ e]
        exact h.wait i hi (by omega)
    · show (upd m.ts j _ i).state = 2
      rw [upd_ne _ _ (by omega)]
      exact h.did i (by omega) hi2
    · show m.o = _
      rw [h.out, show min j b = min (j + 1) b by omega]
    · show m.op + 1 ≤ _
      omega
def gvT (g q : Nat) (a : Int) : T := ⟨List.replicate g ⟨4, 0, 0⟩, 31, 31, 0, q, a, (List.replicate g (⟨4, 0, 0⟩ : Op)).map fun _ => 0, none, 0, 0⟩
structure SB (b g n q : Nat) (m : M) : Prop where
  hn : m.n = n + 1
  flat : m.flat
  row : ∀ y, y < 32 → m.ls y = if y = 31 then [(n : Int)] else []
  que : m.ls 32 = ups (b + q) (n - (b + q))
  sem : m.s = [((b + q - n : Nat) : Int)]
  giver : ∃ a, m.ts n = gvT g q a
  wait : ∀ i, b + q ≤ i → i < n → m.ts i = wtT i
  did : ∀ i, i < n → i < b + q → (m.ts i).state = 2
  out : m.o = (ups 0 (min n (b + q))).map byt
  op : m.op ≤ 2 * n + 2 * q
theorem sem_b (hn : n ≤ 20) (hg : g ≤ 10) (hb : b ≤ 10) {q : Nat} {m : M} (hq : q < g) (h : SB b g n q m) : ∃ m' : M, Steps 10 1000 m.k m'.k ∧ SB b g n (q + 1) m' := by
  obtain ⟨a, hgv⟩ := h.giver
  have hnn : n < m.n := by rw [h.hn]; omega
  have hop := h.op
  have h0 : ∀ y, y < 31 → m.ls y = [] := fun y hy => by rw [h.row y (by omega), if_neg (by omega)]
  have hl : m.ls 31 = [(n : Int)] := by rw [h.row 31 (by omega), if_pos rfl]
  have hopq : (m.ts n).ops[(m.ts n).place]? = some ⟨4, 0, 0⟩ := by
    rw [hgv]
    show (List.replicate g (⟨4, 0, 0⟩ : Op))[q]? = _
    rw [List.getElem?_replicate, if_pos hq]
  -- the giver, its place moved on, its answer 0
  let m0 : M := { m with op := m.op + 1, ts := upd m.ts n (gvT g (q + 1) 0) }
  have f0 : m0.flat := M.flat_upd (m := { m with op := m.op + 1 }) h.flat rfl
  have hsay : (M.k { m with op := m.op + 1, ts := upd m.ts n { m.ts n with place := (m.ts n).place + 1 } }).say n 0 = m0.k := by
    unfold K.say
    rw [M.setT]
    simp only [upd_at]
    refine M.congr rfl (fun i _ => ?_) (fun _ _ => rfl) rfl rfl rfl rfl rfl
    show upd (upd m.ts n _) n _ i = upd m.ts n _ i
    unfold upd
    split
    · rw [hgv]
      rfl
    · rfl
  by_cases hw : b + q < n
  · have hql : m.ls 32 = ((b + q : Nat) : Int) :: ups (b + q + 1) (n - (b + q + 1)) := by
      rw [h.que, show n - (b + q) = (n - (b + q + 1)) + 1 by omega, ups_succ]
    have htw : m0.ts (b + q) = wtT (b + q) := (upd_ne _ _ (by omega)).trans (h.wait (b + q) (Nat.le_refl _) hw)
    have hbq : b + q < m0.n := by show b + q < m.n; rw [h.hn]; omega
    have hbest : m0.k.best (m0.k.l 32) = ((b + q : Nat) : Int) := by
      rw [M.l_ (by decide)]
      show m0.k.best (m.ls 32) = _
      rw [hql]
      refine best_first _ (by omega) fun z hz => ?_
      obtain ⟨i, hi, rfl⟩ := List.mem_map.1 hz
      have hi2 := List.mem_range'_1.1 hi
      have e1 : m0.k.t (Int.ofNat i) = wtT i := by
        show m0.k.t (i : Int) = _
        rw [M.t_ (by show i < m.n; rw [h.hn]; omega)]
        exact (upd_ne _ _ (by omega)).trans (h.wait i (by omega) (by omega))
      rw [e1, M.t_ hbq, htw]
      show ¬ (1 : Int) + i < 1 + ((b + q : Nat) : Int)
      omega
    let m1 : M := { m0 with ts := upd m0.ts (b + q) { wtT (b + q) with state := 0, answer := 0, on := none, left := 0 }, ls := upd (upd m.ls 32 (ups (b + q + 1) (n - (b + q + 1)))) (1 + (b + q)) [((b + q : Nat) : Int)] }
    have f1 : m1.flat := M.flat_upd (m := { m0 with ls := upd (upd m.ls 32 (ups (b + q + 1) (n - (b + q + 1)))) (1 + (b + q)) [((b + q : Nat) : Int)] }) f0 rfl
    have r1 : m.k.round 10 1000 = some m1.k := by
      refine M.r_do (o := ⟨4, 0, 0⟩) hnn (by omega) h0 hl (by omega) hopq ?_ f1
      rw [act4]
      unfold K.give
      rw [if_neg (by show ¬ m.s.length ≤ 0; rw [h.sem]; simp), hsay]
      show m0.k.give1 n 0 (m0.k.best (m0.k.l 32)) = _
      rw [hbest]
      unfold K.give1
      rw [if_pos (by omega), M.wake hbq, htw]
      refine M.congr rfl (fun _ _ => rfl) (fun y _ => ?_) rfl rfl rfl rfl rfl
      have eo : offs (wtT (b + q)) (b + q) m0.ls = upd m.ls 32 (ups (b + q + 1) (n - (b + q + 1))) := by
        show upd m.ls 32 ((m.ls 32).erase ((b + q : Nat) : Int)) = _
        rw [hql, List.erase_cons_head]
      show upd (offs (wtT (b + q)) (b + q) m0.ls) ((1 : Int) + ((b + q : Nat) : Int)).toNat (offs (wtT (b + q)) (b + q) m0.ls ((1 : Int) + ((b + q : Nat) : Int)).toNat ++ [((b + q : Nat) : Int)]) y = _
      rw [eo, show ((1 : Int) + ((b + q : Nat) : Int)).toNat = 1 + (b + q) by omega, upd_ne m.ls _ (show 1 + (b + q) ≠ 32 by omega), h0 _ (by omega), List.nil_append]
    have t1 : m1.ts (b + q) = { wtT (b + q) with state := 0, answer := 0, on := none, left := 0 } := upd_at _ _ _
    have h01 : ∀ y, y < 1 + (b + q) → m1.ls y = [] := fun y hy => by
      show upd (upd m.ls 32 _) (1 + (b + q)) _ y = []
      rw [upd_ne _ _ (by omega), upd_ne _ _ (by omega)]
      exact h0 y (by omega)
    have hl1 : m1.ls (1 + (b + q)) = [((b + q : Nat) : Int)] := upd_at _ _ _
    obtain ⟨m2, s2, n2, f2, l2, t2, st2, o2, p2, k2, e2, z2, far2⟩ := M.r_putend (m := m1) (ticks := 10) (ops := 1000) (a := 97 + ((b + q : Nat) : Int)) f1 hbq (show 1 + (b + q) < 32 by omega) h01 hl1 (by rw [t1]; show (1 : Int) + ((b + q : Nat) : Int) = ((1 + (b + q) : Nat) : Int); omega) (by show m.op + 1 + 1 < 1000; omega) (by rw [t1]; rfl) (by rw [t1]; rfl)
    refine ⟨m2, (Steps.one r1).trans s2, n2.trans h.hn, f2, fun y hy => ?_, ?_, ?_, ⟨0, ?_⟩, fun i hi hi2 => ?_, fun i hi hi2 => ?_, ?_, ?_⟩
    · rw [l2 y hy]
      by_cases e : y = 1 + (b + q)
      · subst e
        rw [upd_at, if_neg (by omega)]
      · rw [upd_ne _ _ e]
        show upd (upd m.ls 32 _) (1 + (b + q)) _ y = _
        rw [upd_ne _ _ e, upd_ne _ _ (by omega)]
        exact h.row y hy
    · rw [far2 32 (Nat.le_refl _)]
      show upd (upd m.ls 32 _) (1 + (b + q)) _ 32 = _
      rw [upd_ne _ _ (by omega), upd_at]
      rfl
    · rw [e2]
      show m.s = _
      rw [h.sem, show b + q - n = b + (q + 1) - n by omega]
    · rw [t2 n (by omega)]
      exact (upd_ne _ _ (by omega)).trans (upd_at _ _ _)
    · rw [t2 i (by omega)]
      exact (upd_ne _ _ (by omega)).trans ((upd_ne _ _ (by omega)).trans (h.wait i (by omega) hi2))
    · by_cases e : i = b + q
      · rw [e]
        exact st2
      · rw [t2 i e]
        show (upd (upd m.ts n _) (b + q) _ i).state = 2
        rw [upd_ne _ _ e, upd_ne _ _ (by omega)]
        exact h.did i hi (by omega)
    · rw [o2]
      show m.o ++ [UInt8.ofNat (97 + ((b + q : Nat) : Int)).toNat] = _
      rw [h.out, show min n (b + q) = b + q by omega, show min n (b + (q + 1)) = b + q + 1 by omega, ups_push, List.map_append, Nat.zero_add]
      rfl
    · rw [p2]
      show m.op + 1 + 1 ≤ _
      omega
  · have hql : m.ls 32 = [] := by
      rw [h.que, show n - (b + q) = 0 by omega]
      rfl
    let m1 : M := { m0 with s := [((b + (q + 1) - n : Nat) : Int)] }
    have r1 : m.k.round 10 1000 = some m1.k := by
      refine M.r_do (o := ⟨4, 0, 0⟩) hnn (by omega) h0 hl (by omega) hopq ?_ f0
      rw [act4]
      unfold K.give
      rw [if_neg (by show ¬ m.s.length ≤ 0; rw [h.sem]; simp), hsay]
      show m0.k.give1 n 0 (m0.k.best (m0.k.l 32)) = _
      rw [M.l_ (by decide)]
      show m0.k.give1 n 0 (m0.k.best (m.ls 32)) = _
      rw [hql]
      show m0.k.give1 n 0 (-1) = _
      unfold K.give1
      rw [if_neg (by decide), if_neg (by show ¬ 100 ≤ m.s.getD 0 0; rw [h.sem]; show ¬ (100 : Int) ≤ ((b + q - n : Nat) : Int); omega)]
      refine M.congr (m := { m0 with s := m.s.modify 0 (· + 1) }) rfl (fun _ _ => rfl) (fun _ _ => rfl) ?_ rfl rfl rfl rfl
      show m.s.modify 0 (· + 1) = _
      rw [h.sem]
      show [((b + q - n : Nat) : Int) + 1] = [((b + (q + 1) - n : Nat) : Int)]
      rw [show ((b + q - n : Nat) : Int) + 1 = ((b + (q + 1) - n : Nat) : Int) by omega]
    refine ⟨m1, Steps.one r1, h.hn, f0, h.row, ?_, rfl, ⟨0, upd_at _ _ _⟩, fun i hi hi2 => by omega, fun i hi hi2 => ?_, ?_, ?_⟩
    · show m.ls 32 = _
      rw [hql, show n - (b + (q + 1)) = 0 by omega]
      rfl
    · show (upd m.ts n _ i).state = 2
      rw [upd_ne _ _ (by omega)]
      exact h.did i hi (by omega)
    · show m.o = _
      rw [h.out, show min n (b + q) = min n (b + (q + 1)) by omega]
    · show m.op + 1 ≤ _
      omega
theorem opsFit_gives (g : Nat) : ∀ i, opsFit (List.replicate g ⟨4, 0, 0⟩) i = true := by
  induction g with
  | zero => intro i; rfl
  | succ g ih =>
    intro i
    rw [List.replicate_succ, opsFit, ih]
    have : (⟨4, 0, 0⟩ : Op).fits i = true := by
      unfold Op.fits bounds
      simp
    rw [this]
    rfl
theorem sem_fits (hn : n ≤ 20) (hg : g ≤ 10) (hb : b ≤ 10) : (semT b g n).fits = true := by
  unfold Table.fits semT
  simp only [Bool.and_eq_true, decide_eq_true_eq, List.all_eq_true, List.length_map, List.length_range]
  refine ⟨⟨⟨by simp; omega, ?_⟩, by simp⟩, ?_⟩
  · intro s hs
    rw [List.mem_singleton] at hs
    omega
  · intro x hx
    obtain ⟨i, hi, rfl⟩ := List.mem_map.1 hx
    rw [List.mem_range] at hi
    by_cases q : i < n
    · rw [semF_lt q]
      simp [Task.fits, opsFit, Op.fits, bounds]
      omega
    · have : i = n := by omega
      subst this
      rw [semF_n]
      unfold Task.fits
      rw [opsFit_gives]
      simp
      omega
theorem sem_run (hn : n ≤ 20) (hg : g ≤ 10) (hb : b ≤ 10) : (runT (semT b g n) 10 1000).out = (ups 0 (min n (b + g))).map byt := by
  have hf := sem_fits hn hg hb
  have e0 := begin_M (f := semF n g) (n := n + 1) (s := [(b : Int)]) (z := []) hf
  have hA : ∀ j, j ≤ n → ∃ m : M, Steps 10 1000 (M.of (n + 1) (semF n g) [(b : Int)] []).k m.k ∧ SA b g n j m := by
    intro j
    induction j with
    | zero =>
      intro _
      refine ⟨_, .refl _, rfl, M.of_flat, fun y hy => ?_, ?_, rfl, fun i _ hi => rfl, fun i _ hi => by omega, fun i hi _ => by omega, ?_, Nat.zero_le _⟩
      · show (if y < 32 then rowOf (fun i => (semF n g i).prio) (n + 1) y else []) = _
        rw [if_pos hy, rowOf_succ, semF_n]
        have hrow : rowOf (fun i => (semF n g i).prio) n y = if 0 < y ∧ y ≤ n then [((y - 1 : Nat) : Int)] else [] := by
          have hgen : ∀ k, k ≤ n → rowOf (fun i => (semF n g i).prio) k y = if 0 < y ∧ y ≤ k then [((y - 1 : Nat) : Int)] else [] := by
            intro k
            induction k with
            | zero => intro _; rw [if_neg (by omega)]; rfl
            | succ k ih =>
              intro hk
              rw [rowOf_succ, ih (by omega), semF_lt (by omega : k < n)]
              show _ ++ (if ((1 : Int) + k).toNat = y then [(k : Int)] else []) = _
              by_cases q : ((1 : Int) + k).toNat = y
              · rw [if_pos q, if_neg (by omega), if_pos (by omega), List.nil_append, show y - 1 = k by omega]
              · rw [if_neg q, List.append_nil]
                by_cases q2 : 0 < y ∧ y ≤ k
                · rw [if_pos q2, if_pos (by omega)]
                · rw [if_neg q2, if_neg (by omega)]
          exact hgen n (Nat.le_refl _)
        rw [hrow]
        show _ ++ (if (31 : Int).toNat = y then [(n : Int)] else []) = _
        by_cases q : y = 31
        · subst q
          rw [if_neg (by omega), if_pos (show (31 : Int).toNat = 31 from rfl), if_pos rfl]
          rfl
        · have q2 : ¬ (31 : Int).toNat = y := fun e => q e.symm
          simp only [if_neg q2, if_neg q, List.append_nil]
      · show (if 32 < 32 then rowOf (fun i => (semF n g i).prio) (n + 1) 32 else []) = _
        rw [if_neg (by decide), Nat.zero_sub]
        rfl
      · rw [Nat.zero_min]
        rfl
    | succ j ih =>
      intro hj
      obtain ⟨m, s1, h1⟩ := ih (by omega)
      obtain ⟨m', s2, h2⟩ := sem_a hn (by omega) h1
      exact ⟨m', s1.trans s2, h2⟩
  obtain ⟨mA, sA, hSA⟩ := hA n (Nat.le_refl _)
  have hB : ∀ q, q ≤ g → ∃ m : M, Steps 10 1000 (M.of (n + 1) (semF n g) [(b : Int)] []).k m.k ∧ SB b g n q m := by
    intro q
    induction q with
    | zero =>
      intro _
      refine ⟨mA, sA, hSA.hn, hSA.flat, fun y hy => ?_, hSA.que, hSA.sem, ⟨0, ?_⟩, fun i hi hi2 => hSA.wait i hi hi2, fun i hi hi2 => hSA.did i hi hi2, hSA.out, by have := hSA.op; omega⟩
      · rw [hSA.row y hy]
        split
        · rfl
        · rw [if_neg (by omega)]
      · rw [hSA.fresh n (Nat.le_refl _) (by omega), semF_n]
        rfl
    | succ q ih =>
      intro hq
      obtain ⟨m, s1, h1⟩ := ih (by omega)
      obtain ⟨m', s2, h2⟩ := sem_b hn hg hb (by omega) h1
      exact ⟨m', s1.trans s2, h2⟩
  obtain ⟨m, s1, h⟩ := hB g (Nat.le_refl _)
  obtain ⟨a, hgv⟩ := h.giver
  have hop := h.op
  have h0 : ∀ y, y < 31 → m.ls y = [] := fun y hy => by rw [h.row y (by omega), if_neg (by omega)]
  have hl : m.ls 31 = [(n : Int)] := by rw [h.row 31 (by omega), if_pos rfl]
  have r2 := M.r_end (m := m) (ticks := 10) (ops := 1000) (i := n) h.flat (by rw [h.hn]; omega) (by decide) h0 hl (by rw [hgv]; rfl) (by omega) (by rw [hgv]; show (List.replicate g (⟨4, 0, 0⟩ : Op)).length ≤ g; simp)
  have hr : runT (semT b g n) 10 1000 = M.k { m with ls := upd m.ls 31 [], ts := upd m.ts n { m.ts n with state := 2 } } := by
    refine runT_eq hf ?_ (M.r_idle (fun y hy => ?_) (.inr fun i hi => ?_))
    · show Steps 10 1000 (begin { tasks := (List.range (n + 1)).map (semF n g), sems := [(b : Int)], mutexes := 0, queues := [] }) _
      rw [e0]
      exact s1.trans (.one r2)
    · show upd m.ls 31 [] y = []
      by_cases e : y = 31
      · subst e
        exact upd_at _ _ _
      · rw [upd_ne _ _ e]
        exact h0 y (by omega)
    · show ¬ ((upd m.ts n { m.ts n with state := 2 } i).state = 1 ∧ 0 < (upd m.ts n { m.ts n with state := 2 } i).left)
      have hi : i < n + 1 := by rw [← h.hn]; exact hi
      by_cases e : i = n
      · subst e
        rw [upd_at]
        rintro ⟨q, _⟩
        exact absurd (show (2 : Int) = 1 from q) (by decide)
      · rw [upd_ne _ _ e]
        by_cases q : i < b + g
        · rw [h.did i (by omega) q]
          rintro ⟨q, _⟩
          exact absurd q (by decide)
        · rw [h.wait i (by omega) (by omega)]
          rintro ⟨_, q⟩
          exact absurd (show (0 : Int) < 0 from q) (by decide)
  rw [hr]
  exact h.out
end
end Kn
end Go.Proofs.Ytncbgnpoffolcaa
