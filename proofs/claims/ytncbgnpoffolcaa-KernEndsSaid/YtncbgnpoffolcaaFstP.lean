/-
  Each operation by its number; lists of ready tasks drained; KernFirst: what its table writes.
-/
import Derived.Test.YtncbgnpoffolcaaOrd
namespace Go.Proofs.Ytncbgnpoffolcaa
namespace Kn
theorem act0 (k : K) (n a b : Int) : k.act n ⟨0, a, b⟩ = k.put a := by
  unfold K.act
  rw [if_pos rfl]
theorem act1 (k : K) (n a b : Int) : k.act n ⟨1, a, b⟩ = k.yield n := by
  unfold K.act
  rw [if_neg (by simp), if_pos rfl]
theorem act2 (k : K) (n a b : Int) : k.act n ⟨2, a, b⟩ = k.delay n ⟨2, a, b⟩ := by
  unfold K.act
  rw [if_neg (by simp), if_neg (by simp), if_pos rfl]
theorem act3 (k : K) (n a b : Int) : k.act n ⟨3, a, b⟩ = k.take n ⟨3, a, b⟩ := by
  unfold K.act
  rw [if_neg (by simp), if_neg (by simp), if_neg (by simp), if_pos rfl]
theorem act4 (k : K) (n a b : Int) : k.act n ⟨4, a, b⟩ = k.give n ⟨4, a, b⟩ := by
  unfold K.act
  rw [if_neg (by simp), if_neg (by simp), if_neg (by simp), if_neg (by simp), if_pos rfl]
theorem act5 (k : K) (n a b : Int) : k.act n ⟨5, a, b⟩ = k.lock n ⟨5, a, b⟩ := by
  unfold K.act
  rw [if_neg (by simp), if_neg (by simp), if_neg (by simp), if_neg (by simp), if_neg (by simp), if_pos rfl]
theorem act6 (k : K) (n a b : Int) : k.act n ⟨6, a, b⟩ = k.unlock n ⟨6, a, b⟩ := by
  unfold K.act
  rw [if_neg (by simp), if_neg (by simp), if_neg (by simp), if_neg (by simp), if_neg (by simp), if_neg (by simp), if_pos rfl]
theorem act7 (k : K) (n a b : Int) : k.act n ⟨7, a, b⟩ = k.send n ⟨7, a, b⟩ := by
  unfold K.act
  rw [if_neg (by simp), if_neg (by simp), if_neg (by simp), if_neg (by simp), if_neg (by simp), if_neg (by simp), if_neg (by simp), if_pos rfl]
theorem act8 (k : K) (n a b : Int) : k.act n ⟨8, a, b⟩ = k.recv n ⟨8, a, b⟩ := by
  unfold K.act
  rw [if_neg (by simp), if_neg (by simp), if_neg (by simp), if_neg (by simp), if_neg (by simp), if_neg (by simp), if_neg (by simp), if_neg (by simp), if_pos rfl]
theorem act9 (k : K) (n a b : Int) : k.act n ⟨9, a, b⟩ = k.show_ n := by
  unfold K.act
  rw [if_neg (by simp), if_neg (by simp), if_neg (by simp), if_neg (by simp), if_neg (by simp), if_neg (by simp), if_neg (by simp), if_neg (by simp), if_neg (by simp), if_pos rfl]
theorem act10 (k : K) (n a b : Int) : k.act n ⟨10, a, b⟩ = k.loop n ⟨10, a, b⟩ := by
  unfold K.act
  rw [if_neg (by simp), if_neg (by simp), if_neg (by simp), if_neg (by simp), if_neg (by simp), if_neg (by simp), if_neg (by simp), if_neg (by simp), if_neg (by simp), if_neg (by simp), if_pos rfl]
theorem drain {ticks ops : Nat} {P : List Int → M → Prop} (hs : ∀ z rest m, P (z :: rest) m → ∃ m' : M, Steps ticks ops m.k m'.k ∧ P rest m') : ∀ l m, P l m → ∃ m' : M, Steps ticks ops m.k m'.k ∧ P [] m'
  | [], m, h => ⟨m, .refl _, h⟩
  | z :: rest, m, h => by
    obtain ⟨m1, s1, h1⟩ := hs z rest m h
    obtain ⟨m2, s2, h2⟩ := drain hs rest m1 h1
    exact ⟨m2, s1.trans s2, h2⟩
theorem M.RowOk.tail {m : M} (h : m.RowOk) {p i : Nat} {r : List Int} {t : T} (_hp : p < 32) (hl : m.ls p = (i : Int) :: r) (hi : ∀ y, y < 32 → (i : Int) ∉ upd m.ls p r y) : M.RowOk { m with ls := upd m.ls p r, ts := upd m.ts i t } := by
  intro y hy z hz
  have hz' : z ∈ m.ls y := by
    have hz1 : z ∈ upd m.ls p r y := hz
    clear hz
    have hz := hz1
    unfold upd at hz
    split at hz
    · rename_i e
      rw [e, hl]
      exact List.mem_cons_of_mem _ hz
    · exact hz
  obtain ⟨j, hj, e, hp⟩ := h y hy z hz'
  refine ⟨j, hj, e, ?_⟩
  show (upd m.ts i t j).prio = y
  rw [upd_ne]
  · exact hp
  · intro e2
    subst e2
    subst e
    exact hi y hy hz
def byt (z : Int) : UInt8 := UInt8.ofNat (97 + z).toNat
def freshT (x : Task) : T := ⟨x.ops, x.prio, x.prio, 0, 0, 0, x.ops.map fun _ => 0, none, 0, 0⟩
def firstF (pr : Nat → Int) (i : Nat) : Task := ⟨pr i, [⟨0, 97 + i, 0⟩]⟩
def firstT (pr : Nat → Int) (n : Nat) : Table := { tasks := (List.range n).map (firstF pr), sems := [], mutexes := 0, queues := [] }
structure FP (pr : Nat → Int) (n : Nat) (all l : List Int) (m : M) : Prop where
  hn : m.n = n
  ord : order m.ls = l
  nd : l.Nodup
  row : m.RowOk
  flat : m.flat
  todo : ∀ i, i < n → (i : Int) ∈ l → m.ts i = freshT (firstF pr i)
  done : ∀ i, i < n → (i : Int) ∉ l → (m.ts i).state = 2
  out : m.o ++ l.map byt = all.map byt
  ops : m.op + l.length ≤ n
theorem first_step {pr : Nat → Int} {n ops : Nat} (hn : n < ops) {all : List Int} (z : Int) (rest : List Int) (m : M) (h : FP pr n all (z :: rest) m) : ∃ m' : M, Steps 0 ops m.k m'.k ∧ FP pr n all rest m' := by
  obtain ⟨p, r, hp, h0, hl, hr⟩ := order_cons h.ord
  obtain ⟨i, hi, rfl, hpr⟩ := h.row p hp z (by rw [hl]; exact List.mem_cons_self)
  have hin : i < n := by rw [← h.hn]; exact hi
  have hlen := h.ops
  rw [List.length_cons] at hlen
  have hfr := h.todo i hin List.mem_cons_self
  have hni : (i : Int) ∉ rest := (List.nodup_cons.1 h.nd).1
  have hnu : ∀ y, y < 32 → (i : Int) ∉ upd m.ls p r y := fun y hy hz => hni (by rw [← hr]; exact mem_order.2 ⟨y, hy, hz⟩)
  let m1 : M := { m with op := m.op + 1, ts := upd m.ts i { freshT (firstF pr i) with place := 1 }, o := m.o ++ [byt i] }
  have f1 : m1.flat := M.flat_upd (m := { m with op := m.op + 1, o := m.o ++ [byt i] }) h.flat rfl
  have r1 : m.k.round 0 ops = some m1.k := by
    refine M.r_do (o := ⟨0, 97 + i, 0⟩) hi hp h0 hl (by omega) (by rw [hfr]; rfl) ?_ f1
    rw [act0, hfr]
    rfl
  have t1 : m1.ts i = { freshT (firstF pr i) with place := 1 } := upd_at _ _ _
  have r2 := M.r_end (m := m1) (ticks := 0) (ops := ops) f1 hi hp h0 hl (by rw [t1]; rw [hfr] at hpr; exact hpr) (by show m.op + 1 < ops; omega) (by rw [t1]; exact Nat.le_refl _)
  refine ⟨_, (Steps.one r1).trans (Steps.one r2), ⟨h.hn, hr, (List.nodup_cons.1 h.nd).2, ?_, ?_, fun j hj hm => ?_, fun j hj hm => ?_, ?_, ?_⟩⟩
  · exact M.RowOk.tail (m := m1) (fun y hy z hz => by
      obtain ⟨j, hj, e, hp⟩ := h.row y hy z hz
      refine ⟨j, hj, e, ?_⟩
      show (upd m.ts i { freshT (firstF pr i) with place := 1 } j).prio = y
      unfold upd
      split
      · rename_i e2
        rw [e2, hfr] at hp
        exact hp
      · exact hp) hp hl hnu
  · exact M.flat_upd (m := { m1 with ls := upd m.ls p r }) f1 (f1 i hi)
  · have hji : j ≠ i := fun e => hni (by rw [← e]; exact hm)
    show upd (upd m.ts i _) i _ j = _
    rw [upd_ne _ _ hji, upd_ne _ _ hji]
    exact h.todo j hj (List.mem_cons_of_mem _ hm)
  · show (upd (upd m.ts i _) i _ j).state = 2
    by_cases e : j = i
    · subst e
      rw [upd_at]
    · rw [upd_ne _ _ e, upd_ne _ _ e]
      refine h.done j hj fun hm2 => ?_
      rcases List.mem_cons.1 hm2 with q | q
      · exact e (by omega)
      · exact hm q
  · show (m.o ++ [byt i]) ++ rest.map byt = _
    rw [← h.out, List.append_assoc]
    rfl
  · show m.op + 1 + rest.length ≤ n
    omega
/-- What is written. -/
theorem first_run {pr : Nat → Int} {n : Nat} (hf : (firstT pr n).fits = true) (hn : n ≤ 26) : (runT (firstT pr n) 0 1000).out = (order (rowOf pr n)).map byt := by
  have hpr : ∀ i, i < n → 0 ≤ pr i ∧ pr i ≤ 31 := fun i hi => by
    have := (Table.fits_parts hf).2.2.2 i (by simpa [firstT] using hi)
    have h1 := this.1
    simp only [firstT, List.getElem_map, List.getElem_range] at h1
    have h2 : 0 ≤ pr i ∧ pr i ≤ 31 := ⟨h1.1, h1.2.1⟩
    exact h2
  have e0 := begin_M (f := firstF pr) (n := n) (s := []) (z := []) hf
  have hall : order (M.of n (firstF pr) [] []).ls = order (rowOf pr n) := M.of_order
  have hops : 0 + (order (rowOf pr n)).length ≤ n := by
    rw [Nat.zero_add]
    refine nodup_len n _ (order_rowOf_nodup _ _) fun z hz => ?_
    obtain ⟨y, _, hy⟩ := mem_order.1 hz
    obtain ⟨i, hi, rfl, _⟩ := mem_rowOf.1 hy
    omega
  obtain ⟨m', hs, h⟩ := drain (ticks := 0) (ops := 1000) (P := FP pr n (order (rowOf pr n))) (fun z rest m h => first_step (by omega) z rest m h) (order (rowOf pr n)) (M.of n (firstF pr) [] [])
    ⟨rfl, hall, order_rowOf_nodup _ _, M.of_rowOk (fun i hi => (hpr i hi).1), M.of_flat, fun i hi _ => rfl, fun i hi hm => absurd (mem_order.2 ⟨(pr i).toNat, by have := hpr i hi; omega, mem_rowOf.2 ⟨i, hi, rfl, rfl⟩⟩) hm, rfl, hops⟩
  have hr : runT (firstT pr n) 0 1000 = m'.k := by
    refine runT_eq hf ?_ ?_
    · show Steps 0 1000 (begin { tasks := (List.range n).map (firstF pr), sems := [], mutexes := 0, queues := [] }) m'.k
      rw [e0]
      exact hs
    · exact M.r_idle (order_nil h.ord) (.inl (Nat.zero_le _))
  rw [hr]
  have := h.out
  rw [List.map_nil, List.append_nil] at this
  exact this
end Kn
end Go.Proofs.Ytncbgnpoffolcaa
