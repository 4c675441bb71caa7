/-
  KernRounds: what its table writes.
-/
import Derived.Test.YtncbgnpoffolcaaSemP
namespace Go.Proofs.Ytncbgnpoffolcaa
namespace Kn
theorem upd_upd {α : Type} (f : Nat → α) (i : Nat) (a b : α) : upd (upd f i a) i b = upd f i b := funext fun j => by unfold upd; split <;> rfl
def roundF (R i : Nat) : Task := ⟨7, [⟨0, 97 + i, 0⟩, ⟨1, 0, 0⟩, ⟨10, 0, R⟩]⟩
def roundsT (n R : Nat) : Table := { tasks := (List.range n).map (roundF R), sems := [], mutexes := 0, queues := [] }
def rT (R i pl : Nat) (x : Int) : T := ⟨(roundF R i).ops, 7, 7, 0, pl, 0, [0, 0, x], none, 0, 0⟩
def gm (n : Nat) (t : Nat → T) (l : List Int) (o : List UInt8) (op : Nat) : M := { n := n, ts := t, ls := fun y => if y = 7 then l else [], s := [], z := [], o := o, tk := 0, op := op }
theorem gm7 {n : Nat} {t : Nat → T} {l : List Int} {o : List UInt8} {op : Nat} : (gm n t l o op).ls 7 = l := rfl
def even (t : Nat → T) : Prop := ∀ i, (t i).prio = (t i).base
section
variable {n R op j pl : Nat} {x : Int} {t : Nat → T} {l : List Int} {o : List UInt8}
theorem even.upd {t : Nat → T} (h : even t) {v : T} (hv : v.prio = v.base) : even (upd t j v) := fun i => by
  unfold Kn.upd
  split
  · exact hv
  · exact h i
theorem rd_do {p : Op} {m' : M} (hj : j < n) (ho : op < 5000) (ht : t j = rT R j pl x) (hop : (roundF R j).ops[pl]? = some p)
    (ha : (gm n (upd t j (rT R j (pl + 1) x)) (j :: l) o (op + 1)).k.act j p = m'.k) (hf : m'.flat) : Steps 0 5000 (gm n t (j :: l) o op).k m'.k := by
  refine .one (M.r_do (m := gm n t (j :: l) o op) (p := 7) (o := p) hj (by decide) (fun q hq => if_neg (by omega)) gm7 ho ?_ ?_ hf)
  · show (t j).ops[(t j).place]? = some p
    rw [ht]
    exact hop
  · rw [← ha]
    show (M.k (gm n (upd t j { t j with place := (t j).place + 1 }) (j :: l) o (op + 1))).act j p = _
    rw [ht]
    rfl
theorem rd_put (he : even t) (hj : j < n) (ho : op < 5000) (ht : t j = rT R j 0 x) : Steps 0 5000 (gm n t (j :: l) o op).k (gm n (upd t j (rT R j 1 x)) (j :: l) (o ++ [byt j]) (op + 1)).k := by
  refine rd_do (p := ⟨0, 97 + j, 0⟩) hj ho ht rfl ?_ (fun i _ => even.upd (v := rT R j 1 x) he rfl i)
  rw [act0]
  rfl
theorem rd_yield (he : even t) (hj : j < n) (ho : op < 5000) (ht : t j = rT R j 1 x) : Steps 0 5000 (gm n t (j :: l) o op).k (gm n (upd t j (rT R j 2 x)) (l ++ [(j : Int)]) o (op + 1)).k := by
  refine rd_do (p := ⟨1, 0, 0⟩) hj ho ht rfl ?_ (fun i _ => even.upd (v := rT R j 2 x) he rfl i)
  rw [act1]
  unfold K.yield K.say
  rw [M.leave (m := gm n (upd t j (rT R j 2 x)) (j :: l) o (op + 1)) (p := 7) hj (by show (upd t j (rT R j 2 x) j).prio = _; rw [upd_at]; rfl), M.t_ (m := gm n (upd t j (rT R j 2 x)) (j :: l) o (op + 1)) hj]
  have e : ((gm n (upd t j (rT R j 2 x)) (j :: l) o (op + 1)).ts j).prio.toNat = 7 := by
    show (upd t j (rT R j 2 x) j).prio.toNat = 7
    rw [upd_at]
    rfl
  rw [e, M.setL, M.setT]
  refine M.congr rfl (fun i _ => ?_) (fun y _ => ?_) rfl rfl rfl rfl rfl
  · show upd (upd t j (rT R j 2 x)) j _ i = upd t j (rT R j 2 x) i
    by_cases q : i = j
    · subst q
      rw [upd_at, upd_at]
      show { upd t i (rT R i 2 x) i with answer := 0 } = _
      rw [upd_at]
      rfl
    · rw [upd_ne _ _ q]
  · show upd (upd (gm n (upd t j (rT R j 2 x)) (j :: l) o (op + 1)).ls 7 (((gm n (upd t j (rT R j 2 x)) (j :: l) o (op + 1)).ls 7).erase (j : Int))) 7 (upd (gm n (upd t j (rT R j 2 x)) (j :: l) o (op + 1)).ls 7 (((gm n (upd t j (rT R j 2 x)) (j :: l) o (op + 1)).ls 7).erase (j : Int)) 7 ++ [(j : Int)]) y = if y = 7 then l ++ [(j : Int)] else []
    rw [gm7, List.erase_cons_head, upd_at]
    by_cases q : y = 7
    · subst q
      rw [upd_at, if_pos rfl]
    · rw [upd_ne _ _ q, upd_ne _ _ q, if_neg q]
      exact if_neg q
theorem rd_back (he : even t) (hj : j < n) (ho : op < 5000) (ht : t j = rT R j 2 x) (hx : x < R) : Steps 0 5000 (gm n t (j :: l) o op).k (gm n (upd t j (rT R j 0 (x + 1))) (j :: l) o (op + 1)).k := by
  refine rd_do (p := ⟨10, 0, R⟩) hj ho ht rfl ?_ (fun i _ => even.upd (v := rT R j 0 (x + 1)) he rfl i)
  rw [act10]
  unfold K.loop
  rw [M.t_ (m := gm n (upd t j (rT R j 3 x)) (j :: l) o (op + 1)) hj]
  have e : (gm n (upd t j (rT R j 3 x)) (j :: l) o (op + 1)).ts j = rT R j 3 x := upd_at _ _ _
  rw [e]
  show (if x < (R : Int) then _ else _) = _
  rw [if_pos hx, M.setT, e]
  refine M.congr rfl (fun i _ => ?_) (fun _ _ => rfl) rfl rfl rfl rfl rfl
  show upd (upd t j (rT R j 3 x)) j (rT R j 0 (x + 1)) i = _
  rw [upd_upd]
  rfl
theorem rd_on (he : even t) (hj : j < n) (ho : op + 1 < 5000) (ht : t j = rT R j 2 x) (hx : ¬ x < R) :
    Steps 0 5000 (gm n t (j :: l) o op).k (gm n (upd t j { rT R j 3 0 with state := 2 }) l o (op + 1)).k := by
  have f1 : even (upd t j (rT R j 3 0)) := even.upd (v := rT R j 3 0) he rfl
  have s1 : Steps 0 5000 (gm n t (j :: l) o op).k (gm n (upd t j (rT R j 3 0)) (j :: l) o (op + 1)).k := by
    refine rd_do (p := ⟨10, 0, R⟩) hj (by omega) ht rfl ?_ (fun i _ => f1 i)
    rw [act10]
    unfold K.loop
    rw [M.t_ (m := gm n (upd t j (rT R j 3 x)) (j :: l) o (op + 1)) hj]
    have e : (gm n (upd t j (rT R j 3 x)) (j :: l) o (op + 1)).ts j = rT R j 3 x := upd_at _ _ _
    rw [e]
    show (if x < (R : Int) then _ else _) = _
    rw [if_neg hx, M.setT, e]
    refine M.congr rfl (fun i _ => ?_) (fun _ _ => rfl) rfl rfl rfl rfl rfl
    show upd (upd t j (rT R j 3 x)) j (rT R j 3 0) i = _
    rw [upd_upd]
    rfl
  have e3 : (gm n (upd t j (rT R j 3 0)) (j :: l) o (op + 1)).ts j = rT R j 3 0 := upd_at _ _ _
  have r2 := M.r_end (m := gm n (upd t j (rT R j 3 0)) (j :: l) o (op + 1)) (ticks := 0) (ops := 5000) (p := 7) (r := l) (i := j) (fun i _ => f1 i) hj (by decide) (fun q hq => if_neg (by omega)) gm7 (by rw [e3]; rfl) (by exact ho) (by rw [e3]; exact Nat.le_refl _)
  refine s1.trans ?_
  rw [e3] at r2
  refine (Steps.one r2).trans ?_
  have : M.k { gm n (upd t j (rT R j 3 0)) (j :: l) o (op + 1) with ls := upd (gm n (upd t j (rT R j 3 0)) (j :: l) o (op + 1)).ls 7 l, ts := upd (gm n (upd t j (rT R j 3 0)) (j :: l) o (op + 1)).ts j { rT R j 3 0 with state := 2 } } = (gm n (upd t j { rT R j 3 0 with state := 2 }) l o (op + 1)).k := by
    refine M.congr rfl (fun i _ => ?_) (fun y _ => ?_) rfl rfl rfl rfl rfl
    · show upd (upd t j (rT R j 3 0)) j _ i = _
      rw [upd_upd]
      rfl
    · show upd _ 7 l y = if y = 7 then l else []
      by_cases q : y = 7
      · subst q
        rw [upd_at, if_pos rfl]
      · rw [upd_ne _ _ q, if_neg q]
        exact if_neg q
  rw [this]
  exact .refl _
/-- One visit to a task. -/
theorem rd_task0 (he : even t) (hj : j < n) (ho : op + 1 < 5000) (ht : t j = rT R j 0 x) : Steps 0 5000 (gm n t (j :: l) o op).k (gm n (upd t j (rT R j 2 x)) (l ++ [(j : Int)]) (o ++ [byt j]) (op + 2)).k := by
  refine (rd_put he hj (by omega) ht).trans ?_
  have h := rd_yield (n := n) (R := R) (op := op + 1) (x := x) (l := l) (o := o ++ [byt j]) (t := upd t j (rT R j 1 x)) (even.upd he rfl) hj (by omega) (upd_at _ _ _)
  rw [upd_upd] at h
  exact h
theorem rd_task (he : even t) (hj : j < n) (ho : op + 2 < 5000) (ht : t j = rT R j 2 x) (hx : x < R) : Steps 0 5000 (gm n t (j :: l) o op).k (gm n (upd t j (rT R j 2 (x + 1))) (l ++ [(j : Int)]) (o ++ [byt j]) (op + 3)).k := by
  refine (rd_back he hj (by omega) ht hx).trans ?_
  have h := rd_task0 (n := n) (R := R) (op := op + 1) (x := x + 1) (l := l) (o := o) (t := upd t j (rT R j 0 (x + 1))) (even.upd he rfl) hj (by omega) (upd_at _ _ _)
  rw [upd_upd] at h
  exact h
/-- The tasks, j of them behind their round r. -/
def tR (R r j i : Nat) : T := if i < j then rT R i 2 (r : Int) else if r = 0 then rT R i 0 0 else rT R i 2 ((r : Int) - 1)
theorem tR_even (r : Nat) : even (tR R r j) := fun i => by
  unfold tR
  split
  · rfl
  · split <;> rfl
theorem tR_upd (r : Nat) : upd (tR R r j) j (rT R j 2 (r : Int)) = tR R r (j + 1) := funext fun i => by
  unfold upd
  split
  · rename_i e
    rw [e]
    unfold tR
    rw [if_pos (by omega)]
  · unfold tR
    by_cases q : i < j
    · rw [if_pos q, if_pos (by omega)]
    · rw [if_neg q, if_neg (show ¬ i < j + 1 by omega)]
def rl (n j : Nat) : List Int := ups j (n - j) ++ ups 0 j
theorem rl_cons (h : j < n) : ∃ l, rl n j = (j : Int) :: l ∧ rl n (j + 1) = l ++ [(j : Int)] := by
  refine ⟨ups (j + 1) (n - (j + 1)) ++ ups 0 j, ?_, ?_⟩
  · unfold rl
    rw [show n - j = (n - (j + 1)) + 1 by omega, ups_succ]
    rfl
  · unfold rl
    rw [ups_push, Nat.zero_add, List.append_assoc]
def outs (n : Nat) (r : Nat) : List UInt8 := (List.range r).flatMap fun _ => (ups 0 n).map byt
theorem outs_succ (n r : Nat) : outs n (r + 1) = outs n r ++ (ups 0 n).map byt := by
  unfold outs
  rw [List.range_succ, List.flatMap_append]
  simp
theorem rd_step {r : Nat} (hn : n ≤ 20) (hr : r ≤ R) (hR : R ≤ 20) (hj : j < n) (hop : op ≤ 60 * r + 3 * j) :
    ∃ op', op' ≤ 60 * r + 3 * (j + 1) ∧ Steps 0 5000 (gm n (tR R r j) (rl n j) o op).k (gm n (tR R r (j + 1)) (rl n (j + 1)) (o ++ [byt j]) op').k := by
  obtain ⟨l, e1, e2⟩ := rl_cons hj
  rw [e1, e2]
  by_cases h0 : r = 0
  · refine ⟨op + 2, by omega, ?_⟩
    have h := rd_task0 (n := n) (R := R) (op := op) (x := (r : Int)) (l := l) (o := o) (t := tR R r j) (tR_even r) hj (by omega) (by unfold tR; rw [if_neg (by omega), if_pos h0, h0]; rfl)
    rw [tR_upd] at h
    exact h
  · refine ⟨op + 3, by omega, ?_⟩
    have h := rd_task (n := n) (R := R) (op := op) (x := (r : Int) - 1) (l := l) (o := o) (t := tR R r j) (tR_even r) hj (by omega) (by unfold tR; rw [if_neg (by omega), if_neg h0]) (by omega)
    rw [show (r : Int) - 1 + 1 = (r : Int) by omega, tR_upd] at h
    exact h
theorem rd_round {r : Nat} (hn : n ≤ 20) (hr : r ≤ R) (hR : R ≤ 20) (hop : op ≤ 60 * r) :
    ∀ j, j ≤ n → ∃ op', op' ≤ 60 * r + 3 * j ∧ Steps 0 5000 (gm n (tR R r 0) (rl n 0) o op).k (gm n (tR R r j) (rl n j) (o ++ (ups 0 j).map byt) op').k
  | 0, _ => ⟨op, hop, by
    rw [show (ups 0 0).map byt = [] from rfl, List.append_nil]
    exact .refl _⟩
  | j + 1, hj => by
    obtain ⟨op1, h1, s1⟩ := rd_round hn hr hR hop j (by omega)
    obtain ⟨op2, h2, s2⟩ := rd_step (o := o ++ (ups 0 j).map byt) hn hr hR (show j < n by omega) h1
    refine ⟨op2, h2, ?_⟩
    rw [ups_push, List.map_append, Nat.zero_add, ← List.append_assoc]
    exact s1.trans s2
theorem rl_end (n : Nat) : rl n n = rl n 0 := by
  unfold rl
  rw [Nat.sub_self, Nat.sub_zero]
  show [] ++ ups 0 n = ups 0 n ++ []
  simp
theorem gm_next (r : Nat) : (gm n (tR R r n) (rl n n) o op).k = (gm n (tR R (r + 1) 0) (rl n 0) o op).k := by
  rw [rl_end]
  refine M.congr rfl (fun i hi => ?_) (fun _ _ => rfl) rfl rfl rfl rfl rfl
  have hi : i < n := hi
  show tR R r n i = tR R (r + 1) 0 i
  unfold tR
  rw [if_pos hi, if_neg (by omega), if_neg (by omega), show ((r + 1 : Nat) : Int) - 1 = r by omega]
theorem rd_rounds (hn : n ≤ 20) (hR : R ≤ 20) : ∀ r, r ≤ R + 1 → ∃ op, op ≤ 60 * r ∧ Steps 0 5000 (gm n (tR R 0 0) (rl n 0) [] 0).k (gm n (tR R r 0) (rl n 0) (outs n r) op).k
  | 0, _ => ⟨0, Nat.le_refl _, .refl _⟩
  | r + 1, hr => by
    obtain ⟨op1, h1, s1⟩ := rd_rounds hn hR r (by omega)
    obtain ⟨op2, h2, s2⟩ := rd_round (o := outs n r) hn (show r ≤ R by omega) hR h1 n (Nat.le_refl _)
    refine ⟨op2, by omega, ?_⟩
    rw [gm_next] at s2
    rw [outs_succ]
    exact s1.trans s2
def tE (R j i : Nat) : T := if i < j then { rT R i 3 0 with state := 2 } else rT R i 2 R
theorem tE_even : even (tE R j) := fun i => by
  unfold tE
  split <;> rfl
theorem tE_upd : upd (tE R j) j { rT R j 3 0 with state := 2 } = tE R (j + 1) := funext fun i => by
  unfold upd
  split
  · rename_i e
    rw [e]
    unfold tE
    rw [if_pos (by omega)]
  · unfold tE
    by_cases q : i < j
    · rw [if_pos q, if_pos (by omega)]
    · rw [if_neg q, if_neg (by omega)]
theorem rd_end (hn : n ≤ 20) (hop : op ≤ 2000) : ∀ j, j ≤ n → Steps 0 5000 (gm n (tE R 0) (ups 0 n) o op).k (gm n (tE R j) (ups j (n - j)) o (op + j)).k
  | 0, _ => .refl _
  | j + 1, hj => by
    refine (rd_end hn hop j (by omega)).trans ?_
    rw [show n - j = (n - (j + 1)) + 1 by omega, ups_succ]
    have h := rd_on (n := n) (R := R) (op := op + j) (x := (R : Int)) (l := ups (j + 1) (n - (j + 1))) (o := o) (t := tE R j) tE_even (show j < n by omega) (by omega) (by unfold tE; rw [if_neg (by omega)]) (by omega)
    rw [tE_upd] at h
    exact h
theorem rounds_fits (h1 : 1 ≤ n) (hn : n ≤ 20) (hR1 : 1 ≤ R) (hR : R ≤ 20) : (roundsT n R).fits = true := by
  unfold Table.fits roundsT
  simp only [Bool.and_eq_true, decide_eq_true_eq, List.all_eq_true, List.length_map, List.length_range]
  refine ⟨⟨⟨by simp; omega, by simp⟩, by simp⟩, ?_⟩
  intro x hx
  obtain ⟨i, hi, rfl⟩ := List.mem_map.1 hx
  rw [List.mem_range] at hi
  simp [roundF, Task.fits, opsFit, Op.fits, bounds]
  omega
/-- What is written. -/
theorem rounds_run (h1 : 1 ≤ n) (hn : n ≤ 20) (hR1 : 1 ≤ R) (hR : R ≤ 20) : (runT (roundsT n R) 0 5000).out = outs n (R + 1) := by
  have hf := rounds_fits h1 hn hR1 hR
  have e0 := begin_M (f := roundF R) (n := n) (s := []) (z := []) hf
  obtain ⟨op, hop, s1⟩ := rd_rounds (n := n) (R := R) hn hR (R + 1) (Nat.le_refl _)
  have eb : (M.of n (roundF R) [] []).k = (gm n (tR R 0 0) (rl n 0) [] 0).k := by
    refine M.congr rfl (fun i _ => ?_) (fun y _ => ?_) rfl rfl rfl rfl rfl
    · show _ = tR R 0 0 i
      unfold tR
      rw [if_neg (by omega), if_pos rfl]
      rfl
    · show (if y < 32 then rowOf (fun i => (roundF R i).prio) n y else []) = if y = 7 then rl n 0 else []
      have hrow : rowOf (fun i => (roundF R i).prio) n y = if y = 7 then ups 0 n else [] := by
        have hg : ∀ k, rowOf (fun i => (roundF R i).prio) k y = if y = 7 then ups 0 k else [] := by
          intro k
          induction k with
          | zero => split <;> rfl
          | succ k ih =>
            rw [rowOf_succ, ih]
            show _ ++ (if (7 : Int).toNat = y then [(k : Int)] else []) = _
            by_cases q : y = 7
            · subst q
              rw [if_pos rfl, if_pos rfl, if_pos (show (7 : Int).toNat = 7 from rfl), ups_push, Nat.zero_add]
            · rw [if_neg q, if_neg q, if_neg (fun e => q e.symm)]
              rfl
        exact hg n
      rw [hrow]
      have er : rl n 0 = ups 0 n := by
        unfold rl
        rw [Nat.sub_zero]
        exact List.append_nil _
      rw [er]
      by_cases q : y = 7
      · rw [if_pos (by omega), if_pos q]
      · rw [if_neg q]
        split <;> rfl
  have em : (gm n (tR R (R + 1) 0) (rl n 0) (outs n (R + 1)) op).k = (gm n (tE R 0) (ups 0 n) (outs n (R + 1)) op).k := by
    refine M.congr rfl (fun i _ => ?_) (fun y _ => ?_) rfl rfl rfl rfl rfl
    · show tR R (R + 1) 0 i = tE R 0 i
      unfold tR tE
      rw [if_neg (by omega), if_neg (by omega), if_neg (by omega), show ((R + 1 : Nat) : Int) - 1 = R by omega]
    · show (if y = 7 then rl n 0 else []) = if y = 7 then ups 0 n else []
      have er : rl n 0 = ups 0 n := by
        unfold rl
        rw [Nat.sub_zero]
        exact List.append_nil _
      rw [er]
  have s2 := rd_end (n := n) (R := R) (o := outs n (R + 1)) (op := op) hn (by omega) n (Nat.le_refl _)
  rw [em] at s1
  have hr : runT (roundsT n R) 0 5000 = (gm n (tE R n) (ups n (n - n)) (outs n (R + 1)) (op + n)).k := by
    refine runT_eq hf ?_ (M.r_idle (fun y hy => ?_) (.inr fun i hi => ?_))
    · show Steps 0 5000 (begin { tasks := (List.range n).map (roundF R), sems := [], mutexes := 0, queues := [] }) _
      rw [e0, eb]
      exact s1.trans s2
    · show (if y = 7 then ups n (n - n) else []) = []
      rw [Nat.sub_self]
      split <;> rfl
    · have hi : i < n := hi
      show ¬ ((tE R n i).state = 1 ∧ 0 < (tE R n i).left)
      unfold tE
      rw [if_pos hi]
      rintro ⟨q, _⟩
      exact absurd (show (2 : Int) = 1 from q) (by decide)
  rw [hr]
  rfl
end
end Kn
end Go.Proofs.Ytncbgnpoffolcaa
