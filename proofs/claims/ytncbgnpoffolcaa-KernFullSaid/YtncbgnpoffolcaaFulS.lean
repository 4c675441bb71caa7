/-
  KernFull: what its table writes, to the end.
-/
import Derived.Test.YtncbgnpoffolcaaFulP
namespace Go.Proofs.Ytncbgnpoffolcaa
namespace Kn
theorem recv_cons {k : K} {n a b x : Int} {r : List Int} (hlen : ¬ k.size.length ≤ a.toNat) (h : k.l (48 + a.toNat) = x :: r) : k.recv n ⟨8, a, b⟩ = k.recv1 n a.toNat x r := by
  unfold K.recv
  rw [if_neg hlen]
  simp only [h]
/-- The byte that a value is shown as. -/
def shw (v : Int) : UInt8 := UInt8.ofNat (97 + v.tmod 26).toNat
section
variable {p : Nat → Int} {n : Nat}
theorem FC.op8 {q : Nat} {v : Int} {S : List Int} {o : List UInt8} {m : M} (hq : q < n + 1) (x : FC p n q v S o m) : (m.ts (n + 1)).ops[(m.ts (n + 1)).place]? = some ⟨8, 0, 0⟩ := by
  obtain ⟨a, hl⟩ := x.last
  rw [hl]
  show (⟨2, 2, 0⟩ :: fullO (n + 1))[1 + 2 * q]? = _
  rw [Nat.add_comm 1 (2 * q), List.getElem?_cons_succ]
  exact (fullO_at hq).1
theorem fl_op9 {q : Nat} {v : Int} (hq : q < n + 1) : (flT n 0 (1 + 2 * q + 1) 0 v).ops[(flT n 0 (1 + 2 * q + 1) 0 v).place]? = some ⟨9, 0, 0⟩ := by
  show (⟨2, 2, 0⟩ :: fullO (n + 1))[1 + 2 * q + 1]? = _
  rw [List.getElem?_cons_succ, Nat.add_comm 1 (2 * q)]
  exact (fullO_at hq).2
/-- The receiver has taken the value that the queue held. -/
def FC.m0 (n q : Nat) (v : Int) (m : M) : M := { m with op := m.op + 1, ts := upd m.ts (n + 1) (flT n 0 (1 + 2 * q + 1) 0 v), ls := upd m.ls 48 [] }
theorem FC.e0 {q : Nat} {v : Int} {S : List Int} {o : List UInt8} {m : M} (x : FC p n q v S o m) :
    ((M.k { m with op := m.op + 1, ts := upd m.ts (n + 1) { m.ts (n + 1) with place := (m.ts (n + 1)).place + 1 } }).say ((n + 1 : Nat) : Int) v).setL 48 (fun _ => []) = (FC.m0 n q v m).k := by
  obtain ⟨a, hl⟩ := x.last
  unfold K.say
  rw [M.setT, M.setL]
  simp only [upd_at]
  refine M.congr rfl (fun i _ => ?_) (fun _ _ => rfl) rfl rfl rfl rfl rfl
  show upd (upd m.ts (n + 1) _) (n + 1) _ i = upd m.ts (n + 1) _ i
  unfold upd
  split
  · rw [hl]
    rfl
  · rfl
theorem FC.flat0 {q : Nat} {v : Int} {S : List Int} {o : List UInt8} {m : M} (x : FC p n q v S o m) : (FC.m0 n q v m).flat :=
  M.flat_upd (m := { m with op := m.op + 1, ls := upd m.ls 48 [] }) x.flat rfl
theorem FC.show9 {q : Nat} {v : Int} {m : M} {t : T} (hf : m.flat) (ht : t = flT n 0 (1 + 2 * q + 1 + 1) 0 v) (hnn : n + 1 < m.n) (h0 : ∀ y, y < 31 → m.ls y = []) (hl : m.ls 31 = [((n + 1 : Nat) : Int)]) (hop : m.op < 1000) (hq : q < n + 1)
    (h : m.ts (n + 1) = flT n 0 (1 + 2 * q + 1) 0 v) : m.k.round 10 1000 = some (M.k { m with op := m.op + 1, o := m.o ++ [shw v], ts := upd m.ts (n + 1) t }) := by
  subst ht
  refine M.r_do (m' := { m with op := m.op + 1, o := m.o ++ [shw v], ts := upd m.ts (n + 1) _ }) (o := ⟨9, 0, 0⟩) hnn (by decide : 31 < 32) h0 hl hop (by rw [h]; exact fl_op9 hq) ?_ (M.flat_upd (m := { m with op := m.op + 1, o := m.o ++ [shw v] }) hf rfl)
  rw [act9]
  unfold K.show_
  rw [M.t_ (m := { m with op := m.op + 1, ts := upd m.ts (n + 1) { m.ts (n + 1) with place := (m.ts (n + 1)).place + 1 } }) hnn]
  show K.put _ (97 + ((upd m.ts (n + 1) _ (n + 1)).answer).tmod 26) = _
  rw [upd_at, h]
  rfl
theorem FC.step (h : FPre p n) {q i : Nat} {v : Int} {S : List Int} {o : List UInt8} {m : M} (hq : q < n) (hi : i < n) (hS : ∀ z ∈ S, ∃ j, j < n ∧ z = (j : Int) ∧ p i < p j) (x : FC p n q v ((i : Int) :: S) o m) :
    ∃ m' : M, Steps 10 1000 m.k m'.k ∧ FC p n (q + 1) (p i) S (o ++ [shw v]) m' := by
  have hpi := h.pr i hi
  have h20 := h.n20
  have hn := x.hn
  have hop := x.op
  have hnn : n + 1 < m.n := by rw [x.hn]; omega
  have him : i < m.n := by rw [x.hn]; omega
  have hiS : (i : Int) ∉ S := fun hm => by
    obtain ⟨j, _, e, hlt⟩ := hS _ hm
    have e := Int.ofNat.inj e
    subst e
    exact absurd hlt (by omega)
  obtain ⟨y, hy⟩ : ∃ y : Nat, p i = (y : Int) := ⟨(p i).toNat, by omega⟩
  have hyl : y < 31 := by omega
  have h0 : ∀ c, c < 31 → m.ls c = [] := fun c hc => by rw [x.row c (by omega), if_neg (by omega)]
  have hl31 : m.ls 31 = [((n + 1 : Nat) : Int)] := by rw [x.row 31 (by decide), if_pos rfl]
  let m0 := FC.m0 n q v m
  have ti : m0.ts i = fsT p i 1 2 (some 56) 0 (p i) := (upd_ne _ _ (by omega)).trans (x.wait i hi List.mem_cons_self)
  have hbest : m0.k.best (m.ls 56) = (i : Int) := by
    rw [x.l56]
    refine best_first _ (by omega) fun z hz => ?_
    obtain ⟨j, hj, rfl, hlt⟩ := hS z hz
    have e1 : m0.k.t (j : Int) = fsT p j 1 2 (some 56) 0 (p j) := by
      rw [M.t_ (by show j < m.n; omega)]
      exact (upd_ne _ _ (by omega)).trans (x.wait j hj (List.mem_cons_of_mem _ hz))
    rw [e1, M.t_ (m := m0) him, ti]
    show ¬ p j < p i
    omega
  let m1 : M := { m0 with ts := upd m0.ts i (fsT p i 0 2 none 0 (p i)), ls := upd (upd (upd m.ls 48 [p i]) 56 S) y [(i : Int)] }
  have f1 : m1.flat := M.flat_upd (m := { m0 with ls := upd (upd (upd m.ls 48 [p i]) 56 S) y [(i : Int)] }) x.flat0 rfl
  have r1 : m.k.round 10 1000 = some m1.k := by
    refine M.r_do (o := ⟨8, 0, 0⟩) hnn (by decide : 31 < 32) h0 hl31 (by omega) (x.op8 (by omega)) ?_ f1
    have el : ∀ c, c < 72 → K.l (M.k { m with op := m.op + 1, ts := upd m.ts (n + 1) { m.ts (n + 1) with place := (m.ts (n + 1)).place + 1 } }) c = m.ls c := fun c hc => M.l_ (m := { m with op := m.op + 1, ts := upd m.ts (n + 1) { m.ts (n + 1) with place := (m.ts (n + 1)).place + 1 } }) hc
    rw [act8, recv_cons (x := v) (r := []) (by show ¬ m.z.length ≤ 0; rw [x.z]; simp) ((el 48 (by decide)).trans x.l48)]
    unfold K.recv1
    show K.recv2 (K.setL _ 48 _) 0 (K.best (K.setL _ 48 _) (K.l _ 56)) = _
    rw [x.e0, el 56 (by decide)]
    show K.recv2 m0.k 0 (m0.k.best (m.ls 56)) = _
    rw [hbest]
    unfold K.recv2
    rw [if_pos (by omega), M.t_ (m := m0) him, ti]
    show K.wake (K.setL m0.k 48 fun l => l ++ [p i]) (i : Int) 0 = _
    rw [M.setL]
    refine (M.wake (m := { m0 with ls := upd m0.ls 48 (m0.ls 48 ++ [p i]) }) him 0).trans ?_
    have e48 : m0.ls 48 = [] := show upd m.ls 48 [] 48 = [] from upd_at _ _ _
    have ei : (M.ts { m0 with ls := upd m0.ls 48 (m0.ls 48 ++ [p i]) }) i = fsT p i 1 2 (some 56) 0 (p i) := ti
    rw [ei]
    have eo : offs (fsT p i 1 2 (some 56) 0 (p i)) i (upd m0.ls 48 (m0.ls 48 ++ [p i])) = upd (upd m.ls 48 [p i]) 56 S := by
      show upd (upd m0.ls 48 (m0.ls 48 ++ [p i])) 56 ((upd m0.ls 48 (m0.ls 48 ++ [p i]) 56).erase (i : Int)) = _
      rw [e48, List.nil_append, upd_ne m0.ls _ (by decide : 56 ≠ 48)]
      have e56 : m0.ls 56 = (i : Int) :: S := show upd m.ls 48 [] 56 = _ from (upd_ne _ _ (by decide)).trans x.l56
      rw [e56, List.erase_cons_head]
      funext c
      show upd (upd (upd m.ls 48 []) 48 [p i]) 56 S c = _
      unfold upd
      split
      · rfl
      · split <;> rfl
    refine M.congr rfl (fun _ _ => rfl) (fun c _ => ?_) rfl rfl rfl rfl rfl
    show upd (offs (fsT p i 1 2 (some 56) 0 (p i)) i (upd m0.ls 48 (m0.ls 48 ++ [p i]))) (p i).toNat (offs (fsT p i 1 2 (some 56) 0 (p i)) i (upd m0.ls 48 (m0.ls 48 ++ [p i])) (p i).toNat ++ [(i : Int)]) c = _
    rw [eo, hy, Int.toNat_natCast, upd_ne _ _ (show y ≠ 56 by omega), upd_ne _ _ (show y ≠ 48 by omega), h0 y hyl, List.nil_append]
    show _ = upd (upd (upd m.ls 48 [p i]) 56 S) y [(i : Int)] c
    rw [hy]
  have h01 : ∀ c, c < y → m1.ls c = [] := fun c hc => by
    show upd (upd (upd m.ls 48 [p i]) 56 S) y [(i : Int)] c = []
    rw [upd_ne _ _ (by omega), upd_ne _ _ (by omega), upd_ne _ _ (by omega)]
    exact h0 c (by omega)
  have t1 : m1.ts i = fsT p i 0 2 none 0 (p i) := upd_at _ _ _
  obtain ⟨m2, s2, n2, f2, l2, t2, st2, o2, p2, k2, e2, z2⟩ := M.r_fin' (m := m1) (ticks := 10) (ops := 1000) f1 him (show y < 32 by omega) h01 (upd_at _ _ _) (by rw [t1]; exact hy) (by show m.op + 1 < 1000; omega) (by rw [t1]; exact Nat.le_refl 2)
  have l2c : ∀ c, m2.ls c = if c = y then [] else upd (upd m.ls 48 [p i]) 56 S c := fun c => by
    rw [l2 c]
    by_cases e : c = y
    · rw [e, upd_at, if_pos rfl]
    · rw [upd_ne _ _ e, if_neg e]
      exact upd_ne _ _ e
  have lrow : ∀ c, c < 32 → m2.ls c = if c = 31 then [((n + 1 : Nat) : Int)] else [] := fun c hc => by
    rw [l2c]
    by_cases e : c = y
    · rw [if_pos e, if_neg (by omega)]
    · rw [if_neg e, upd_ne _ _ (by omega), upd_ne _ _ (by omega)]
      exact x.row c hc
  have tl2 : m2.ts (n + 1) = flT n 0 (1 + 2 * q + 1) 0 v := (t2 (n + 1) (by omega)).trans ((upd_ne _ _ (by omega)).trans (upd_at _ _ _))
  have hr3 := FC.show9 (n := n) (q := q) (v := v) (m := m2) f2 rfl (by rw [n2]; exact hnn) (fun c hc => by rw [lrow c (by omega), if_neg (by omega)]) (by rw [lrow 31 (by decide), if_pos rfl]) (by rw [p2]; show m.op + 1 < 1000; omega) (by omega) tl2
  refine ⟨_, (Steps.one r1).trans (s2.trans (Steps.one hr3)), n2.trans hn, M.flat_upd (m := { m2 with op := m2.op + 1, o := m2.o ++ [shw v] }) f2 rfl, lrow, ?_, ?_, z2.trans x.z, ⟨v, upd_at _ _ _⟩, fun j hj hm => ?_, fun j hj hm => ?_, ?_, ?_, k2.trans x.tk⟩
  · show m2.ls 48 = _
    rw [l2c, if_neg (by omega), upd_ne _ _ (by decide), upd_at]
  · show m2.ls 56 = _
    rw [l2c, if_neg (by omega), upd_at]
  · show upd m2.ts (n + 1) _ j = _
    have hji : j ≠ i := fun e => hiS (by rw [← e]; exact hm)
    rw [upd_ne _ _ (by omega), t2 j hji]
    exact (upd_ne _ _ hji).trans ((upd_ne _ _ (by omega)).trans (x.wait j hj (List.mem_cons_of_mem _ hm)))
  · show (upd m2.ts (n + 1) _ j).state = _
    rw [upd_ne _ _ (by omega)]
    by_cases hji : j = i
    · subst hji
      rw [st2]
    · rw [t2 j hji]
      show (upd m0.ts i _ j).state = 2
      rw [upd_ne _ _ hji]
      show (upd m.ts (n + 1) _ j).state = 2
      rw [upd_ne _ _ (by omega)]
      refine x.did j hj fun hmm => ?_
      rcases List.mem_cons.1 hmm with e | e
      · exact hji (Int.ofNat.inj e)
      · exact hm e
  · show m2.o ++ _ = _
    rw [o2]
    show m.o ++ _ = _
    rw [x.o]
  · show m2.op + 1 ≤ _
    rw [p2]
    show m.op + 1 + 1 ≤ _
    omega
/-- The last value. -/
theorem FC.last_ (h : FPre p n) {v : Int} {o : List UInt8} {m : M} (x : FC p n n v [] o m) : ∃ k' : K, Steps 10 1000 m.k k' ∧ k'.round 10 1000 = none ∧ k'.out = o ++ [shw v] := by
  have h20 := h.n20
  have hn := x.hn
  have hop := x.op
  have hnn : n + 1 < m.n := by rw [x.hn]; omega
  have h0 : ∀ c, c < 31 → m.ls c = [] := fun c hc => by rw [x.row c (by omega), if_neg (by omega)]
  have hl31 : m.ls 31 = [((n + 1 : Nat) : Int)] := by rw [x.row 31 (by decide), if_pos rfl]
  let m0 := FC.m0 n n v m
  have r1 : m.k.round 10 1000 = some m0.k := by
    refine M.r_do (o := ⟨8, 0, 0⟩) hnn (by decide : 31 < 32) h0 hl31 (by omega) (x.op8 (by omega)) ?_ x.flat0
    have el : ∀ c, c < 72 → K.l (M.k { m with op := m.op + 1, ts := upd m.ts (n + 1) { m.ts (n + 1) with place := (m.ts (n + 1)).place + 1 } }) c = m.ls c := fun c hc => M.l_ (m := { m with op := m.op + 1, ts := upd m.ts (n + 1) { m.ts (n + 1) with place := (m.ts (n + 1)).place + 1 } }) hc
    rw [act8, recv_cons (x := v) (r := []) (by show ¬ m.z.length ≤ 0; rw [x.z]; simp) ((el 48 (by decide)).trans x.l48)]
    unfold K.recv1
    show K.recv2 (K.setL _ 48 _) 0 (K.best (K.setL _ 48 _) (K.l _ 56)) = _
    rw [x.e0, el 56 (by decide), x.l56]
    show K.recv2 m0.k 0 (-1) = _
    unfold K.recv2
    rw [if_neg (by decide)]
  have h01 : ∀ c, c < 31 → m0.ls c = [] := fun c hc => show upd m.ls 48 [] c = [] from (upd_ne _ _ (by omega)).trans (h0 c hc)
  have l01 : m0.ls 31 = [((n + 1 : Nat) : Int)] := show upd m.ls 48 [] 31 = _ from (upd_ne _ _ (by decide)).trans hl31
  have t0 : m0.ts (n + 1) = flT n 0 (1 + 2 * n + 1) 0 v := upd_at _ _ _
  have r2 := FC.show9 (n := n) (q := n) (v := v) (m := m0) x.flat0 rfl hnn h01 l01 (by show m.op + 1 < 1000; omega) (by omega) t0
  let m2 : M := { m0 with op := m0.op + 1, o := m0.o ++ [shw v], ts := upd m0.ts (n + 1) (flT n 0 (1 + 2 * n + 1 + 1) 0 v) }
  have f2 : m2.flat := M.flat_upd (m := { m0 with op := m0.op + 1, o := m0.o ++ [shw v] }) x.flat0 rfl
  have t2 : m2.ts (n + 1) = flT n 0 (1 + 2 * n + 1 + 1) 0 v := upd_at _ _ _
  obtain ⟨m3, s3, n3, f3, l3, tt3, st3, o3, p3, k3, e3, z3⟩ := M.r_fin' (m := m2) (ticks := 10) (ops := 1000) f2 hnn (by decide : 31 < 32) h01 l01 (by rw [t2]; rfl) (by show m.op + 1 + 1 < 1000; omega) (by rw [t2]; show (⟨2, 2, 0⟩ :: fullO (n + 1)).length ≤ 1 + 2 * n + 1 + 1; rw [List.length_cons, fullO_len]; omega)
  refine ⟨m3.k, (Steps.one r1).trans ((Steps.one r2).trans s3), M.r_idle (fun c hc => ?_) (.inr fun j hj hs => ?_), ?_⟩
  · rw [l3 c]
    by_cases e : c = 31
    · rw [e, upd_at]
    · rw [upd_ne _ _ e]
      exact h01 c (by omega)
  · have hj2 : j < n + 2 := by rw [n3] at hj; rw [← hn]; exact hj
    by_cases e : j = n + 1
    · rw [e, st3] at hs
      exact absurd hs.1 (by show ¬ (2 : Int) = 1; decide)
    · have : (m3.ts j).state = 2 := by
        rw [tt3 j e]
        show (upd m0.ts (n + 1) _ j).state = 2
        rw [upd_ne _ _ e]
        show (upd m.ts (n + 1) _ j).state = 2
        rw [upd_ne _ _ e]
        exact x.did j (by omega) (fun hm => by cases hm)
      rw [this] at hs
      exact absurd hs.1 (by decide)
  · show m3.o = _
    rw [o3]
    show m.o ++ _ = _
    rw [x.o]
theorem FC.all (h : FPre p n) : ∀ (S : List Int) (q : Nat) (v : Int) (o : List UInt8) (m : M), S.Pairwise (fun a b => p a.toNat < p b.toNat) → (∀ z ∈ S, ∃ j, j < n ∧ z = (j : Int)) → q + S.length = n → FC p n q v S o m →
    ∃ k' : K, Steps 10 1000 m.k k' ∧ k'.round 10 1000 = none ∧ k'.out = o ++ (v :: S.map fun z => p z.toNat).map shw
  | [], q, v, o, m, _, _, hq, x => by
    have e : q = n := hq
    subst e
    exact x.last_ h
  | z :: S, q, v, o, m, hp, hz, hq, x => by
    obtain ⟨i, hi, rfl⟩ := hz z List.mem_cons_self
    obtain ⟨hp1, hp2⟩ := List.pairwise_cons.1 hp
    rw [List.length_cons] at hq
    obtain ⟨m', s, x'⟩ := x.step h (by omega) hi (fun z hm => by
      obtain ⟨j, hj, rfl⟩ := hz z (List.mem_cons_of_mem _ hm)
      exact ⟨j, hj, rfl, hp1 _ hm⟩)
    obtain ⟨k', s', hr, ho⟩ := FC.all h S (q + 1) (p i) _ m' hp2 (fun z hm => hz z (List.mem_cons_of_mem _ hm)) (by omega) x'
    refine ⟨k', s.trans s', hr, ho.trans ?_⟩
    rw [List.append_assoc]
    rfl
theorem fullS_len (h : FPre p n) : (fullS p n).length = n := by
  have h1 : ((List.range n).map Int.ofNat).Nodup := by
    refine List.Pairwise.map _ (fun a b hab e => hab (Int.ofNat.inj e)) (List.nodup_range)
  have h2 : (fullS p n).Nodup := order_rowOf_nodup _ _
  have hp : (fullS p n).Perm ((List.range n).map Int.ofNat) := by
    refine (List.perm_ext_iff_of_nodup h2 h1).2 fun z => ?_
    rw [mem_fullS h, List.mem_map]
    constructor
    · rintro ⟨i, hi, rfl⟩
      exact ⟨i, List.mem_range.2 hi, rfl⟩
    · rintro ⟨i, hi, rfl⟩
      exact ⟨i, List.mem_range.1 hi, rfl⟩
  rw [hp.length_eq, List.length_map, List.length_range]
/-- The values in their order. -/
def fullV (p : Nat → Int) (n : Nat) : List Nat := (List.range' 1 30).filter fun y => hit p n y
theorem fullS_vals (h : FPre p n) : (fullS p n).map (fun z => p z.toNat) = (fullV p n).map Int.ofNat := by
  have hrow : ∀ y, (rowOf p n y).map (fun z => p z.toNat) = if 1 ≤ y ∧ hit p n y then [(y : Int)] else [] := fun y => by
    by_cases e : 1 ≤ y
    · rw [row_vals h e]
      by_cases g : hit p n y = true
      · rw [if_pos g, if_pos ⟨e, g⟩]
      · rw [if_neg g, if_neg fun q => g q.2]
    · have hr : rowOf p n y = [] := by
        rw [List.eq_nil_iff_forall_not_mem]
        intro z hz
        obtain ⟨i, hi, rfl, hp⟩ := mem_rowOf.1 hz
        have := h.pr i hi
        omega
      rw [hr, if_neg fun q => e q.1]
      rfl
  have h31 : hit p n 31 = false := by
    unfold hit
    rw [List.any_eq_false]
    intro i hi hd
    have := h.pr i (List.mem_range.1 hi)
    have := of_decide_eq_true hd
    omega
  have hgen : ∀ l : List Nat, (∀ y ∈ l, 1 ≤ y) → (l.flatMap fun y => (rowOf p n y).map fun z => p z.toNat) = (l.filter fun y => hit p n y).map Int.ofNat := by
    intro l
    induction l with
    | nil => intro _; rfl
    | cons a l ih =>
      intro hl
      rw [List.flatMap_cons, ih fun y hy => hl y (List.mem_cons_of_mem _ hy), hrow, List.filter_cons]
      have h1 := hl a List.mem_cons_self
      by_cases g : hit p n a = true
      · rw [if_pos ⟨h1, g⟩, if_pos g]
        rfl
      · rw [if_neg fun q => g q.2, if_neg g]
        rfl
  unfold fullS order
  rw [List.map_flatMap]
  have e32 : List.range 32 = 0 :: (List.range' 1 30 ++ [31]) := by decide
  rw [e32, List.flatMap_cons, List.flatMap_append, hgen _ (fun y hy => by have := List.mem_range'_1.1 hy; omega), hrow 0, if_neg (by omega)]
  show [] ++ (_ ++ ([31].flatMap fun y => (rowOf p n y).map fun z => p z.toNat)) = _
  rw [List.nil_append, List.flatMap_cons, hrow 31, if_neg (by rw [h31]; exact fun q => absurd q.2 (by decide))]
  show _ ++ [] = _
  rw [List.append_nil]
  rfl
theorem full_run (h : FPre p n) (h1 : 1 ≤ n) : (runT (fullT p n) 10 1000).out = (0 :: fullV p n).map fun y => UInt8.ofNat (97 + y % 26) := by
  have hf := full_fits h h1
  obtain ⟨m, s, x⟩ := full_tick h
  obtain ⟨k', s', hr, ho⟩ := FC.all h (fullS p n) 0 0 [] m (fullS_sorted h) (fun z hz => by
    obtain ⟨i, hi, rfl⟩ := (mem_fullS h).1 hz
    exact ⟨i, hi, rfl⟩) (by rw [fullS_len h]; omega) x
  have e0 : begin (fullT p n) = (M.of (n + 2) (fullF p n) [] [1]).k := begin_M hf
  rw [runT_eq (k' := k') hf (by rw [e0]; exact s.trans s') hr, ho, fullS_vals h, List.nil_append]
  have hs : ∀ y : Nat, shw (y : Int) = UInt8.ofNat (97 + y % 26) := fun y => by
    unfold shw
    rw [show (97 + (y : Int).tmod 26).toNat = 97 + y % 26 by
      rw [Int.tmod_eq_emod_of_nonneg (by omega)]
      omega]
  rw [show (0 : Int) :: (fullV p n).map Int.ofNat = (0 :: fullV p n).map Int.ofNat from rfl, List.map_map]
  exact List.map_congr_left fun y _ => hs y
end
end Kn
end Go.Proofs.Ytncbgnpoffolcaa
