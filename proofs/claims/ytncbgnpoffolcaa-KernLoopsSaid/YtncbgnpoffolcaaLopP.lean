/-
  KernLoops: how often each loop goes round.
-/
import Derived.Test.YtncbgnpoffolcaaFstP
namespace Go.Proofs.Ytncbgnpoffolcaa
namespace Kn
def loopsF (a b c : Int) : Task := ⟨0, [⟨0, 120, 0⟩, ⟨10, 0, a⟩, ⟨0, 121, 0⟩, ⟨10, 0, b⟩, ⟨0, 122, 0⟩, ⟨10, 0, c⟩]⟩
def loopsT (a b c : Int) : Table := { tasks := [loopsF a b c], sems := [], mutexes := 0, queues := [] }
def lpT (a b c : Int) (pl : Nat) (x y z : Int) : T := ⟨(loopsF a b c).ops, 0, 0, 0, pl, 0, [0, x, 0, y, 0, z], none, 0, 0⟩
def lpM (a b c : Int) (pl : Nat) (x y z : Int) (o : List UInt8) (op : Nat) : M := { n := 1, ts := fun _ => lpT a b c pl x y z, ls := fun q => if q = 0 then [0] else [], s := [], z := [], o := o, tk := 0, op := op }
section
variable {a b c : Int}
theorem lp_do {pl pl' : Nat} {x y z x' y' z' : Int} {o o' : List UInt8} {op : Nat} {p : Op} (hop : (loopsF a b c).ops[pl]? = some p) (ho : op < 100000)
    (ha : (lpM a b c (pl + 1) x y z o (op + 1)).k.act (0 : Nat) p = (lpM a b c pl' x' y' z' o' (op + 1)).k) : (lpM a b c pl x y z o op).k.round 0 100000 = some (lpM a b c pl' x' y' z' o' (op + 1)).k := by
  refine M.r_do (m := lpM a b c pl x y z o op) (i := 0) (p := 0) (r := []) (o := p) (by show 0 < 1; decide) (by decide) (fun q hq => by omega) rfl ho hop ?_ (fun _ _ => rfl)
  rw [← ha]
  congr 1
theorem lp_put {pl : Nat} {x y z v : Int} {o : List UInt8} {op : Nat} (hop : (loopsF a b c).ops[pl]? = some ⟨0, v, 0⟩) (ho : op < 100000) : Steps 0 100000 (lpM a b c pl x y z o op).k (lpM a b c (pl + 1) x y z (o ++ [UInt8.ofNat v.toNat]) (op + 1)).k :=
  .one (lp_do hop ho (by rw [act0]; rfl))
/-- A loop's operation goes back, or on. -/
theorem lp_loop {pl : Nat} {x y z x' y' z' v : Int} {o : List UInt8} {op : Nat} (hop : (loopsF a b c).ops[pl]? = some ⟨10, 0, v⟩) (ho : op < 100000)
    (hb : ([0, x, 0, y, 0, z] : List Int).getD pl 0 < v) (e : ([0, x, 0, y, 0, z] : List Int).modify pl (· + 1) = [0, x', 0, y', 0, z']) : Steps 0 100000 (lpM a b c pl x y z o op).k (lpM a b c 0 x' y' z' o (op + 1)).k := by
  refine .one (lp_do hop ho ?_)
  rw [act10]
  unfold K.loop
  rw [M.t_ (m := lpM a b c (pl + 1) x y z o (op + 1)) (by show 0 < 1; decide)]
  show (if ([0, x, 0, y, 0, z] : List Int).getD (pl + 1 - 1) 0 < v then _ else _) = _
  rw [Nat.add_sub_cancel, if_pos hb, M.setT]
  refine M.congr rfl (fun i hi => ?_) (fun _ _ => rfl) rfl rfl rfl rfl rfl
  have hi : i < 1 := hi
  have : i = 0 := by omega
  subst this
  show upd (lpM a b c (pl + 1) x y z o (op + 1)).ts 0 _ 0 = _
  rw [upd_at]
  show (⟨_, _, _, _, _, _, ([0, x, 0, y, 0, z] : List Int).modify (pl + 1 - 1) (· + 1), _, _, _⟩ : T) = ⟨_, _, _, _, _, _, [0, x', 0, y', 0, z'], _, _, _⟩
  rw [Nat.add_sub_cancel, e]
  rfl
theorem lp_on {pl : Nat} {x y z x' y' z' v : Int} {o : List UInt8} {op : Nat} (hop : (loopsF a b c).ops[pl]? = some ⟨10, 0, v⟩) (ho : op < 100000)
    (hb : ¬ ([0, x, 0, y, 0, z] : List Int).getD pl 0 < v) (e : ([0, x, 0, y, 0, z] : List Int).set pl 0 = [0, x', 0, y', 0, z']) : Steps 0 100000 (lpM a b c pl x y z o op).k (lpM a b c (pl + 1) x' y' z' o (op + 1)).k := by
  refine .one (lp_do hop ho ?_)
  rw [act10]
  unfold K.loop
  rw [M.t_ (m := lpM a b c (pl + 1) x y z o (op + 1)) (by show 0 < 1; decide)]
  show (if ([0, x, 0, y, 0, z] : List Int).getD (pl + 1 - 1) 0 < v then _ else _) = _
  rw [Nat.add_sub_cancel, if_neg hb, M.setT]
  refine M.congr rfl (fun i hi => ?_) (fun _ _ => rfl) rfl rfl rfl rfl rfl
  have hi : i < 1 := hi
  have : i = 0 := by omega
  subst this
  show upd (lpM a b c (pl + 1) x y z o (op + 1)).ts 0 _ 0 = _
  rw [upd_at]
  show (⟨_, _, _, _, _, _, ([0, x, 0, y, 0, z] : List Int).set (pl + 1 - 1) 0, _, _, _⟩ : T) = ⟨_, _, _, _, _, _, [0, x', 0, y', 0, z'], _, _, _⟩
  rw [Nat.add_sub_cancel, e]
  rfl
/-- What so many rounds write. -/
def rep (l : List UInt8) : Nat → List UInt8
  | 0 => []
  | n + 1 => l ++ rep l n
theorem count_rep (l : List UInt8) (v : UInt8) : ∀ n, (rep l n).count v = n * l.count v
  | 0 => by simp [rep]
  | n + 1 => by rw [rep, List.count_append, count_rep l v n, Nat.succ_mul]; omega
theorem len_rep (l : List UInt8) : ∀ n, (rep l n).length = n * l.length
  | 0 => by simp [rep]
  | n + 1 => by rw [rep, List.length_append, len_rep l n, Nat.succ_mul]; omega
theorem lp_x {y z : Int} : ∀ (d : Nat) (x : Int) (o : List UInt8) (op : Nat), x + d = a → op + 2 * (d + 1) ≤ 100000 →
    Steps 0 100000 (lpM a b c 0 x y z o op).k (lpM a b c 2 0 y z (o ++ rep [120] (d + 1)) (op + 2 * (d + 1))).k
  | 0, x, o, op, hx, ho => by
    refine (lp_put (v := 120) rfl (by omega)).trans ((lp_on (v := a) (x' := 0) (y' := y) (z' := z) rfl (by omega) (by show ¬ x < a; omega) rfl).trans ?_)
    exact .refl _
  | d + 1, x, o, op, hx, ho => by
    refine (lp_put (v := 120) rfl (by omega)).trans ((lp_loop (v := a) (x' := x + 1) (y' := y) (z' := z) rfl (by omega) (by show x < a; omega) rfl).trans ?_)
    have h := lp_x (y := y) (z := z) d (x + 1) (o ++ [UInt8.ofNat (120 : Int).toNat]) (op + 1 + 1) (by omega) (by omega)
    rw [show op + 1 + 1 + 2 * (d + 1) = op + 2 * (d + 1 + 1) by omega, List.append_assoc] at h
    exact h
def yUnit (A : Nat) : List UInt8 := rep [120] (A + 1) ++ [121]
theorem lp_y {z : Int} {A : Nat} (hA : a = A) : ∀ (d : Nat) (y : Int) (o : List UInt8) (op : Nat), y + d = b → op + (2 * (A + 1) + 2) * (d + 1) ≤ 100000 →
    Steps 0 100000 (lpM a b c 0 0 y z o op).k (lpM a b c 4 0 0 z (o ++ rep (yUnit A) (d + 1)) (op + (2 * (A + 1) + 2) * (d + 1))).k
  | 0, y, o, op, hy, ho => by
    have h := lp_x (a := a) (b := b) (c := c) (y := y) (z := z) A 0 o op (by omega) (by omega)
    refine h.trans ((lp_put (v := 121) rfl (by omega)).trans ((lp_on (v := b) (x' := 0) (y' := 0) (z' := z) rfl (by omega) (by show ¬ y < b; omega) rfl).trans ?_))
    rw [show op + (2 * (A + 1) + 2) * (0 + 1) = op + 2 * (A + 1) + 1 + 1 by omega]
    show Steps 0 100000 (lpM a b c 4 0 0 z (o ++ rep [120] (A + 1) ++ [121]) _).k _
    rw [List.append_assoc]
    show Steps 0 100000 (lpM a b c 4 0 0 z (o ++ yUnit A) _).k (lpM a b c 4 0 0 z (o ++ (yUnit A ++ [])) _).k
    rw [List.append_nil]
    exact .refl _
  | d + 1, y, o, op, hy, ho => by
    have e1 : (2 * (A + 1) + 2) * (d + 1 + 1) = (2 * (A + 1) + 2) * (d + 1) + (2 * (A + 1) + 2) := Nat.mul_succ _ _
    have h := lp_x (a := a) (b := b) (c := c) (y := y) (z := z) A 0 o op (by omega) (by omega)
    refine h.trans ((lp_put (v := 121) rfl (by omega)).trans ((lp_loop (v := b) (x' := 0) (y' := y + 1) (z' := z) rfl (by omega) (by show y < b; omega) rfl).trans ?_))
    have h2 := lp_y (z := z) hA d (y + 1) (o ++ yUnit A) (op + 2 * (A + 1) + 1 + 1) (by omega) (by omega)
    rw [show op + 2 * (A + 1) + 1 + 1 + (2 * (A + 1) + 2) * (d + 1) = op + (2 * (A + 1) + 2) * (d + 1 + 1) by omega, List.append_assoc] at h2
    show Steps 0 100000 (lpM a b c 0 0 (y + 1) z (o ++ rep [120] (A + 1) ++ [121]) _).k _
    rw [List.append_assoc]
    exact h2
def zUnit (A B : Nat) : List UInt8 := rep (yUnit A) (B + 1) ++ [122]
theorem lp_z {A B : Nat} (hA : a = A) (hB : b = B) : ∀ (d : Nat) (z : Int) (o : List UInt8) (op : Nat), z + d = c → op + ((2 * (A + 1) + 2) * (B + 1) + 2) * (d + 1) ≤ 100000 →
    Steps 0 100000 (lpM a b c 0 0 0 z o op).k (lpM a b c 6 0 0 0 (o ++ rep (zUnit A B) (d + 1)) (op + ((2 * (A + 1) + 2) * (B + 1) + 2) * (d + 1))).k
  | 0, z, o, op, hz, ho => by
    have h := lp_y (b := b) (c := c) (z := z) hA B 0 o op (by omega) (by omega)
    refine h.trans ((lp_put (v := 122) rfl (by omega)).trans ((lp_on (v := c) (x' := 0) (y' := 0) (z' := 0) rfl (by omega) (by show ¬ z < c; omega) rfl).trans ?_))
    rw [show op + ((2 * (A + 1) + 2) * (B + 1) + 2) * (0 + 1) = op + (2 * (A + 1) + 2) * (B + 1) + 1 + 1 by omega]
    show Steps 0 100000 (lpM a b c 6 0 0 0 (o ++ rep (yUnit A) (B + 1) ++ [122]) _).k _
    rw [List.append_assoc]
    show Steps 0 100000 (lpM a b c 6 0 0 0 (o ++ zUnit A B) _).k (lpM a b c 6 0 0 0 (o ++ (zUnit A B ++ [])) _).k
    rw [List.append_nil]
    exact .refl _
  | d + 1, z, o, op, hz, ho => by
    have e1 : ((2 * (A + 1) + 2) * (B + 1) + 2) * (d + 1 + 1) = ((2 * (A + 1) + 2) * (B + 1) + 2) * (d + 1) + ((2 * (A + 1) + 2) * (B + 1) + 2) := Nat.mul_succ _ _
    have h := lp_y (b := b) (c := c) (z := z) hA B 0 o op (by omega) (by omega)
    refine h.trans ((lp_put (v := 122) rfl (by omega)).trans ((lp_loop (v := c) (x' := 0) (y' := 0) (z' := z + 1) rfl (by omega) (by show z < c; omega) rfl).trans ?_))
    have h2 := lp_z hA hB d (z + 1) (o ++ zUnit A B) (op + (2 * (A + 1) + 2) * (B + 1) + 1 + 1) (by omega) (by omega)
    rw [show op + (2 * (A + 1) + 2) * (B + 1) + 1 + 1 + ((2 * (A + 1) + 2) * (B + 1) + 2) * (d + 1) = op + ((2 * (A + 1) + 2) * (B + 1) + 2) * (d + 1 + 1) by omega, List.append_assoc] at h2
    show Steps 0 100000 (lpM a b c 0 0 0 (z + 1) (o ++ rep (yUnit A) (B + 1) ++ [122]) _).k _
    rw [List.append_assoc]
    exact h2
theorem loops_fits (h1 : 1 ≤ a) (h2 : a ≤ 10) (h3 : 1 ≤ b) (h4 : b ≤ 10) (h5 : 1 ≤ c) (h6 : c ≤ 10) : (loopsT a b c).fits = true := by
  simp [loopsT, loopsF, Table.fits, Task.fits, opsFit, Op.fits, bounds]
  omega
theorem loops_run {A B C : Nat} (h1 : 1 ≤ A) (h2 : A ≤ 10) (h3 : 1 ≤ B) (h4 : B ≤ 10) (h5 : 1 ≤ C) (h6 : C ≤ 10) : (runT (loopsT A B C) 0 100000).out = rep (zUnit A B) (C + 1) := by
  have hf := loops_fits (a := A) (b := B) (c := C) (by omega) (by omega) (by omega) (by omega) (by omega) (by omega)
  have hmul : (2 * (A + 1) + 2) * (B + 1) ≤ 24 * 11 := Nat.mul_le_mul (by omega) (by omega)
  have hmul2 : ((2 * (A + 1) + 2) * (B + 1) + 2) * (C + 1) ≤ 266 * 11 := Nat.mul_le_mul (by omega) (by omega)
  have h := lp_z (a := A) (b := B) (c := C) rfl rfl C 0 [] 0 (by omega) (by omega)
  obtain ⟨op, hop⟩ : ∃ op, op = 0 + ((2 * (A + 1) + 2) * (B + 1) + 2) * (C + 1) := ⟨_, rfl⟩
  rw [← hop] at h
  let m : M := lpM A B C 6 0 0 0 ([] ++ rep (zUnit A B) (C + 1)) op
  have r2 := M.r_end (m := m) (ticks := 0) (ops := 100000) (i := 0) (p := 0) (r := []) (fun _ _ => rfl) (by show 0 < 1; decide) (by decide) (fun q hq => by omega) rfl rfl (by show op < 100000; omega) (Nat.le_refl _)
  have hr : runT (loopsT A B C) 0 100000 = M.k { m with ls := upd m.ls 0 [], ts := upd m.ts 0 { m.ts 0 with state := 2 } } := by
    refine runT_eq hf ?_ (M.r_idle (fun q hq => ?_) (.inl (Nat.zero_le _)))
    · have e0 := begin_M (n := 1) (f := fun _ => loopsF A B C) (s := []) (z := []) hf
      have e1 : begin (loopsT A B C) = (lpM A B C 0 0 0 0 [] 0).k := by
        refine Eq.trans e0 (M.congr rfl (fun i hi => rfl) (fun y hy => ?_) rfl rfl rfl rfl rfl)
        show (if y < 32 then rowOf (fun _ => (0 : Int)) 1 y else []) = if y = 0 then [0] else []
        by_cases q : y = 0
        · subst q
          rfl
        · rw [if_neg q]
          split
          · rw [List.eq_nil_iff_forall_not_mem]
            intro w hw
            obtain ⟨i, _, _, hp⟩ := mem_rowOf.1 hw
            exact q hp.symm
          · rfl
      rw [e1]
      exact h.trans (.one r2)
    · show upd m.ls 0 [] q = []
      unfold upd
      split
      · rfl
      · rename_i hq0
        exact if_neg hq0
  rw [hr]
  exact List.nil_append _
theorem loops_counts (A B C : Nat) : (rep (zUnit A B) (C + 1)).count 120 = (A + 1) * (B + 1) * (C + 1) ∧ (rep (zUnit A B) (C + 1)).count 121 = (B + 1) * (C + 1) ∧ (rep (zUnit A B) (C + 1)).count 122 = C + 1 ∧ (rep (zUnit A B) (C + 1)).length = (A + 1) * (B + 1) * (C + 1) + (B + 1) * (C + 1) + (C + 1) := by
  refine ⟨?_, ?_, ?_, ?_⟩
  · rw [count_rep, zUnit, List.count_append, count_rep, yUnit, List.count_append, count_rep]
    simp
    rw [Nat.mul_comm (C + 1), Nat.mul_comm (B + 1)]
  · rw [count_rep, zUnit, List.count_append, count_rep, yUnit, List.count_append, count_rep]
    simp
    rw [Nat.mul_comm (C + 1)]
  · rw [count_rep, zUnit, List.count_append, count_rep, yUnit, List.count_append, count_rep]
    simp
  · rw [len_rep, zUnit, List.length_append, len_rep, yUnit, List.length_append, len_rep]
    simp
    rw [Nat.mul_add, Nat.mul_add, Nat.mul_add, Nat.mul_one, Nat.mul_one]
    rw [Nat.mul_comm (B + 1) (A + 1), Nat.mul_comm (C + 1) ((A + 1) * (B + 1)), Nat.mul_comm (C + 1) (B + 1)]
end
end Kn
end Go.Proofs.Ytncbgnpoffolcaa
