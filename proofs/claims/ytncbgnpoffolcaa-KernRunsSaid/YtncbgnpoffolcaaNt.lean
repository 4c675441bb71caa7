/-
  Drawn regions, printed short: loads and moves taken first. A load is taken first, though a later operation that waits for it writes its cell: the condition on the world is asked only behind those operations that may come ahead of the load. Drawn regions, printed short.
-/
import Derived.OrdersHeld
import Derived.KernelRfl
import Derived.Deep.RegionHeld3
import Derived.Below
import Derived.Lib.Hide
import Derived.Deep.Quiet
namespace Go.Proofs.Ytncbgnpoffolcaa
section

theorem zh {p : Prop} (h : p) : RowKit.Hid p := h
theorem zl (n : Nat) : n ≤ n := Nat.le_refl n
theorem zt {n m k : Nat} (a : n ≤ m) (b : m ≤ k) : n ≤ k := Nat.le_trans a b
theorem zu {p : Prop} [i : Decidable p] (h : p) : decide p = true := decide_eq_true h
theorem za {α : Type} {xs : List α} {i : Nat} : xs.toArray[i]? = xs[i]? := List.getElem?_toArray
theorem zb {α : Type} {a : α} {l : List α} : (a :: l)[0]? = some a := rfl
theorem zc {α : Type} {a : α} {i : Nat} {l : List α} : (a :: l)[i + 1]? = l[i]? := List.getElem?_cons_succ
theorem zd {α : Type} {l : List α} {i : Nat} {a : α} : l.getD i a = l[i]?.getD a := List.getD_eq_getElem?_getD
theorem zw (w : World) (o : Obj) (a : Addr) (h : a.block < w.heap.size) : (w.alloc o).cell? a = w.cell? a := World.cell?_alloc_lt w o a h
theorem zk (w : World) (a : Addr) (u : Value) (k : Nat) (h : k ≠ a.block) : (w.setCell a u).heap[k]? = w.heap[k]? := RowKit.Below.heap_setCell w a u k h
theorem zo (w : World) (o : Obj) (k : Nat) (h : k < w.heap.size) : (w.alloc o).heap[k]? = w.heap[k]? := RowKit.Below.heap_alloc w o k h
theorem zr (B : Nat) (w : World) : RowKit.Below B w w := RowKit.Below.refl B w
theorem zx {w w' : World} {a : Addr} (h : w'.heap[a.block]? = w.heap[a.block]?) : w'.frozen? a = w.frozen? a := World.frozen?_of_block h
theorem zq {w w' : World} {a : Addr} (h : w'.heap[a.block]? = w.heap[a.block]?) : w'.cell? a = w.cell? a := World.cell?_of_block h
theorem zy {P : Program} {id : Nat} {Q : Exit → Act → World → Prop} {a : Act} {w : World} {l : List Oper} (h : wpQuiet P l.toArray (fun w' => ∃ n, w' = w.drewN n) (fun a' => ∀ w', (∃ n, w' = w.drewN n) → Q .normal a' w') l a) (hm : P.follows .mixedOrders = true := by kernel_rfl) (hB : Region.lexB .any l.toArray = true := by kernel_rfl) : (Code.region id l.toArray true).wp P Q a w := wp_region_quiet_lit hm hB h
end
end Go.Proofs.Ytncbgnpoffolcaa
namespace Go.Proofs.Ytncbgnpoffolcaa
theorem p1 {α : Type} (l : List α) (i : Nat) (h : i < l.toArray.size) : l.toArray[i] = l[i]'(by simpa using h) := List.getElem_toArray h
theorem p2 {α : Type} {a : α} {l : List α} (h : 0 < (a :: l).length) : (a :: l)[0] = a := rfl
theorem p3 {α : Type} {a : α} {l : List α} {i : Nat} (h : i + 1 < (a :: l).length) : (a :: l)[i + 1] = l[i]'(Nat.lt_of_succ_lt_succ h) := rfl
theorem p4 {α : Type} (l : List α) (i : Nat) (a : α) : l.toArray.setIfInBounds i a = (l.set i a).toArray := List.setIfInBounds_toArray l i a
theorem p5 {α : Type} {x a : α} {l : List α} : (x :: l).set 0 a = a :: l := rfl
theorem p6 {α : Type} {x a : α} {l : List α} {i : Nat} : (x :: l).set (i + 1) a = x :: l.set i a := rfl
section
variable {P : Program} {md : Region.Mode} {ops : Array Oper} {Q : Exit → Act → World → Prop} {S : World → Prop}
theorem tkH (i : Nat) {oi : Oper} {v : Value} {fuel : Nat} {listed : Array Bool} {a : Act} {w : World}
 (hy : ∀ w, S w → (execOp a.eval oi).run P w = .ok (.value v) w) (h : wpAnyH P md ops Q S fuel (listed.setIfInBounds i true) (a.put oi.dst v) w)
 (hi : ops[i]? = some oi := by rfl) (hs : Region.noSelect ops = true := by kernel_rfl) (hf : Region.free md ops listed i = true := by kernel_rfl) (hr : (Region.ready md ops listed).contains i = true := by kernel_rfl)
 (hQ : ∀ c a w, Q (.panic c) (a.put oi.dst v) w → Q (.panic c) a w := by exact fun _ _ _ h => h) (hg : oi.guard = none := by rfl) (hS : S w := by assumption) : wpAnyH P md ops Q S (fuel + 1) listed a w :=
 wpAnyH_take hi hs hf hr hQ (Or.inl ⟨by simp [Region.wanted, hg], hy⟩) hS h
end
end Go.Proofs.Ytncbgnpoffolcaa
namespace Go.Proofs.Ytncbgnpoffolcaa
section
variable {P : Program} {ops : Array Oper} {Q : Exit → Act → World → Prop} {md : Region.Mode} {S : World → Prop} {need : Nat → Bool}
/-- 'wpAnyH', with the condition only behind those operations that 'need' names. -/
def wpAnyN (P : Program) (md : Region.Mode) (ops : Array Oper) (Q : Exit → Act → World → Prop) (S : World → Prop) (need : Nat → Bool) : Nat → Array Bool → Act → World → Prop
 | 0, listed, a, w => Region.ready md ops listed = [] ∧ Q .normal a w
 | fuel + 1, listed, a, w =>
   (Region.ready md ops listed = [] → Q .normal a w) ∧
   ∀ i ∈ Region.ready md ops listed, wpOp P ops Q i (fun a' w' => (need i = true → S w') ∧ wpAnyN P md ops Q S need fuel (listed.setIfInBounds i true) a' w') a w
theorem wpAny_of_need : ∀ (fuel : Nat) (listed : Array Bool) (a : Act) (w : World), wpAnyN P md ops Q S need fuel listed a w → wpAny P md ops Q fuel listed a w
 | 0, _, _, _, h => h
 | fuel + 1, _, _, _, h => ⟨h.1, fun i hi => wpOp_mono (fun a' w' h' => wpAny_of_need fuel _ a' w' h'.2) (h.2 i hi)⟩
/-- What is listed came behind what it waits for. -/
def Closed (md : Region.Mode) (ops : Array Oper) (listed : Array Bool) : Prop :=
 ∀ (j : Nat) (oj : Oper), ops[j]? = some oj → listed.getD j true = true → ∀ e ∈ oj.after, Region.binds md e = true → listed.getD e.on false = true
def closedB (md : Region.Mode) (ops : Array Oper) (listed : Array Bool) : Bool :=
 (List.range ops.size).all fun j => match ops[j]? with
  | some oj => !listed.getD j true || oj.after.all fun e => !Region.binds md e || listed.getD e.on false
  | none => true
theorem closedB_spec {listed : Array Bool} (h : closedB md ops listed = true) : Closed md ops listed := by
 intro j oj hj hl e he hb
 unfold closedB at h
 rw [List.all_eq_true] at h
 have h1 := h j (List.mem_range.2 (Array.getElem?_eq_some_iff.1 hj).1)
 simp only [hj, hl, Bool.not_true, Bool.false_or] at h1
 have h2 := Array.all_eq_true_iff_forall_mem.1 h1 e he
 simpa [hb] using h2
theorem Closed.set {listed : Array Bool} {i : Nat} (h : Closed md ops listed) (hi : i ∈ Region.ready md ops listed) : Closed md ops (listed.setIfInBounds i true) := by
 intro j oj hj hl e he hb
 by_cases hij : i = j
 ·subst hij
  obtain ⟨_, o, ho, hall⟩ := mem_ready.1 hi
  rw [hj] at ho
  injection ho with ho
  subst ho
  exact getD_set_true (hall e he hb)
 ·rw [getD_set_ne true hij] at hl
  exact getD_set_true (h j oj hj hl e he hb)
/-- Operation j waits for i, itself or through others. -/
def waits (md : Region.Mode) (ops : Array Oper) (i : Nat) : Nat → Nat → Bool
 | 0, _ => false
 | f + 1, j => match ops[j]? with
   | some oj => oj.after.any fun e => Region.binds md e && (e.on == i || waits md ops i f e.on)
   | none => false
/-- Each operation that 'need' does not name waits for 'i'. -/
def lateB (md : Region.Mode) (ops : Array Oper) (need : Nat → Bool) (i : Nat) : Bool :=
 (List.range ops.size).all fun j => need j || waits md ops i ops.size j
theorem getD_both {listed : Array Bool} {i : Nat} (h : listed.getD i true = false) : listed.getD i false = false := by
 rcases Nat.lt_or_ge i listed.size with h' | h'
 ·simp [h'] at h ⊢; exact h
 ·simp [Array.getElem?_eq_none h']
theorem waits_on {i j f : Nat} (h : waits md ops i f j = true) : ∃ oj, ops[j]? = some oj ∧ ∃ e ∈ oj.after, Region.binds md e = true ∧ (e.on = i ∨ ∃ f', f = f' + 1 ∧ waits md ops i f' e.on = true) := by
 cases f with
 | zero => cases h
 | succ f =>
   unfold waits at h
   split at h
   case h_1 oj hoj =>
    obtain ⟨e, he, hb⟩ := Array.any_eq_true'.1 h
    simp only [Bool.and_eq_true, Bool.or_eq_true, beq_iff_eq] at hb
    exact ⟨oj, hoj, e, he, hb.1, hb.2.imp id fun h2 => ⟨f, rfl, h2⟩⟩
   case h_2 => cases h
theorem late_off {listed : Array Bool} {i : Nat} (hc : Closed md ops listed) (hi : listed.getD i true = false) :
 ∀ (f j : Nat), waits md ops i f j = true → listed.getD j false = false := by
 intro f
 induction f with
 | zero => intro j h; cases h
 | succ f ih =>
   intro j h
   obtain ⟨oj, hj, e, he, hb, h1⟩ := waits_on h
   cases hl : listed.getD j false with
   | false => rfl
   | true =>
     have hl' : listed.getD j true = true := by
      rcases Nat.lt_or_ge j listed.size with h' | h'
      ·simp [h'] at hl ⊢; exact hl
      ·simp [Array.getElem?_eq_none h']
     have h2 := hc j oj hj hl' e he hb
     rcases h1 with h1 | ⟨f', h3, h4⟩
     ·rw [h1, getD_both hi] at h2; cases h2
     ·injection h3 with h3
      subst h3
      rw [ih e.on h4] at h2; cases h2
theorem late_need {listed : Array Bool} {i j : Nat} (h : lateB md ops need i = true) (hc : Closed md ops listed) (hi : listed.getD i true = false) (hj : j ∈ Region.ready md ops listed) : need j = true := by
 obtain ⟨_, oj, hoj, hall⟩ := mem_ready.1 hj
 unfold lateB at h
 rw [List.all_eq_true] at h
 have h1 := h j (List.mem_range.2 (Array.getElem?_eq_some_iff.1 hoj).1)
 rw [Bool.or_eq_true] at h1
 rcases h1 with h1 | h1
 ·exact h1
 ·obtain ⟨oj', hoj', e, he, hb, h2⟩ := waits_on h1
  rw [hoj] at hoj'
  injection hoj' with hoj'
  subst hoj'
  have h3 := hall e he hb
  rcases h2 with h2 | ⟨f', _, h4⟩
  ·rw [h2, getD_both hi] at h3; cases h3
  ·rw [late_off hc hi _ _ h4] at h3; cases h3
theorem wpAnyN_first {i : Nat} {oi : Oper} {v : Value} (hi : ops[i]? = some oi) (hsel : ∀ (j : Nat) (o : Oper) cs b, ops[j]? = some o → o.op ≠ .select cs b)
 (hQ : ∀ c a w, Q (.panic c) (a.put oi.dst v) w → Q (.panic c) a w) (hlate : lateB md ops need i = true) :
 ∀ (fuel : Nat) (listed : Array Bool) (a : Act) (w : World), Closed md ops listed →
   (∀ j oj, ops[j]? = some oj → j ≠ i → listed.getD j true = false → (∀ e ∈ oj.after, Region.binds md e = true → e.on ≠ i) → oi.apart ops oj = true) →
   i ∈ Region.ready md ops listed → YieldsIf P ops S oi v a → S w →
   wpAnyN P md ops Q S need fuel (listed.setIfInBounds i true) (a.put oi.dst v) w → wpAnyN P md ops Q S need (fuel + 1) listed a w := by
 intro fuel
 induction fuel with
 | zero =>
   intro listed a w hc _ hr hy hS H
   refine ⟨fun h => (by rw [h] at hr; cases hr), fun j hj => ?_⟩
   by_cases hji : j = i
   ·subst hji; exact hy.wpOp hi hS ⟨fun _ => hS, H⟩
   ·have := ready_mono hj hji
    rw [H.1] at this
    cases this
 | succ fuel ih =>
   intro listed a w hc hfree hr hy hS H
   refine ⟨fun h => (by rw [h] at hr; cases hr), fun j hj => ?_⟩
   by_cases hji : j = i
   ·subst hji; exact hy.wpOp hi hS ⟨fun _ => hS, H⟩
   ·have h1 := H.2 j (ready_mono hj hji)
    obtain ⟨hjun, oj, hoj, hall⟩ := mem_ready.1 hj
    have hnd : need j = true := late_need hlate hc (mem_ready.1 hr).1 hj
    have hnot : ∀ e ∈ oj.after, Region.binds md e = true → e.on ≠ i := fun e he hb heq => by
     have h1 := hall e he hb
     have h0 := (mem_ready.1 hr).1
     rw [heq, getD_both h0] at h1
     cases h1
    have h2 := wpOp_putIf hoj (hfree j oj hoj hji hjun hnot) (fun cs b => hsel i oi cs b hi) (fun cs b => hsel j oj cs b hoj) hQ hy h1
    have hfree' : ∀ k ok, ops[k]? = some ok → k ≠ i → (listed.setIfInBounds j true).getD k true = false →
     (∀ e ∈ ok.after, Region.binds md e = true → e.on ≠ i) → oi.apart ops ok = true := fun k ok hk hki hun hno => by
     refine hfree k ok hk hki ?_ hno
     by_cases hjk : j = k
     ·subst hjk; exact hjun
     ·rw [getD_set_ne true hjk] at hun; exact hun
    refine wpOp_mono (fun a' w' h3 => ⟨h3.2.1, ih (listed.setIfInBounds j true) a' w' (hc.set hj) hfree' (ready_mono hr (Ne.symm hji)) h3.1 (h3.2.1 hnd) ?_⟩) h2
    rw [Array.setIfInBounds_comm _ _ hji]
    exact h3.2.2
theorem wpAnyN_take {i : Nat} {oi : Oper} {v : Value} {fuel : Nat} {listed listed' : Array Bool} {a : Act} {w : World} (hi : ops[i]? = some oi)
 (hs : Region.noSelect ops = true) (hf : Region.free md ops listed i = true) (hr : ((Region.ready md ops listed).contains i && lateB md ops need i && closedB md ops listed) = true) (hl : listed.setIfInBounds i true = listed')
 (hQ : ∀ c a w, Q (.panic c) (a.put oi.dst v) w → Q (.panic c) a w) (hy : YieldsIf P ops S oi v a) (hS : S w)
 (h : wpAnyN P md ops Q S need fuel listed' (a.put oi.dst v) w) : wpAnyN P md ops Q S need (fuel + 1) listed a w := by
 subst hl
 simp only [Bool.and_eq_true] at hr
 exact wpAnyN_first hi (Region.noSelect_spec hs) hQ hr.1.2 fuel listed a w (closedB_spec hr.2) (Region.free_spec hi hf) (by simpa using hr.1.1) hy hS h
/-- One operation alone may come up next. -/
theorem wpAnyN_step {i : Nat} {o : Oper} {fuel : Nat} {listed listed' : Array Bool} {a : Act} {w : World} (hr : Region.ready md ops listed = [i]) (ho : ops[i]? = some o) (hl : listed.setIfInBounds i true = listed')
 (h : ∀ K' : Act → World → Prop, Shut (∀ a w, (need i = true → S w) → ((need i = true → S w) → wpAnyN P md ops Q S need fuel listed' a w) → K' a w) → if Region.wanted o (yielded ops a.tmps) = true then Oper.wp P o a w K' Q else K' (a.put o.dst undef) w) :
 wpAnyN P md ops Q S need (fuel + 1) listed a w := by
 subst hl
 refine ⟨fun h0 => (by rw [hr] at h0; cases h0), fun j hj => ?_⟩
 rw [hr, List.mem_singleton] at hj
 subst hj
 exact wpOp_step ho (fun K' hK => h K' (fun a w hS hW => hK a w ⟨hS, hW hS⟩))
theorem wpAnyN_done {listed : Array Bool} {a : Act} {w : World} (hr : Region.ready md ops listed = []) (h : Q .normal a w) :
 ∀ fuel, wpAnyN P md ops Q S need fuel listed a w
 | 0 => ⟨hr, h⟩
 | _ + 1 => ⟨fun _ => h, by rw [hr]; simp⟩
theorem wp_region_need {id : Nat} {a : Act} {w : World} (n : Nat) (l0 : Array Bool) (hn : ops.size = n) (hl : Array.replicate n false = l0) (hm : P.follows .mixedOrders = true) (hS : S w.drew)
 (h : S w.drew → wpAnyN P .any ops Q S need n l0 a w.drew) : (Code.region id ops true).wp P Q a w := by
 subst hn
 subst hl
 exact wp_region_any hm (wpAny_of_need _ _ _ _ (h hS))
end
end Go.Proofs.Ytncbgnpoffolcaa
namespace Go.Proofs.Ytncbgnpoffolcaa
/-- A set of operations, as a number. -/
def bs (n m : Nat) : Array Bool := ((List.range n).map fun k => m.testBit k).toArray
section
variable {P : Program} {md : Region.Mode} {ops : Array Oper} {Q : Exit → Act → World → Prop} {S : World → Prop} {need : Nat → Bool}
theorem tk (i : Nat) (listed' : Array Bool) {oi : Oper} {v : Value} {fuel : Nat} {listed : Array Bool} {a : Act} {w : World}
 (hy : ∀ w, S w → (execOp a.eval oi).run P w = .ok (.value v) w) (h : wpAnyN P md ops Q S need fuel listed' (a.put oi.dst v) w)
 (hi : ops[i]? = some oi := by rfl) (hs : Region.noSelect ops = true := by kernel_rfl) (hf : Region.free md ops listed i = true := by kernel_rfl) (hr : ((Region.ready md ops listed).contains i && lateB md ops need i && closedB md ops listed) = true := by kernel_rfl)
 (hl : listed.setIfInBounds i true = listed' := by kernel_rfl) (hQ : ∀ c a w, Q (.panic c) (a.put oi.dst v) w → Q (.panic c) a w := by exact fun _ _ _ h => h) (hg : oi.guard = none := by rfl) (hS : S w := by assumption) : wpAnyN P md ops Q S need (fuel + 1) listed a w :=
 wpAnyN_take hi hs hf hr hl hQ (Or.inl ⟨by simp [Region.wanted, hg], hy⟩) hS h
/-- Two operations may come up next, in either order: what comes behind both is walked once. -/
theorem wpAnyN_fork (i j : Nat) (li lj l2 : Array Bool) (T : Act → Act → World → Prop) {oi oj : Oper} {fuel : Nat} {listed : Array Bool} {a : Act} {w : World}
 (h1 : ∀ K : Act → World → Prop, Shut (∀ a1 w1, (need i = true → S w1) → ((need i = true → S w1) → ∀ K2 : Act → World → Prop, Shut (∀ a2 w2, (need j = true → S w2) → ((need j = true → S w2) → T a a2 w2) → K2 a2 w2) → if Region.wanted oj (yielded ops a1.tmps) = true then Oper.wp P oj a1 w1 K2 Q else K2 (a1.put oj.dst undef) w1) → K a1 w1) → if Region.wanted oi (yielded ops a.tmps) = true then Oper.wp P oi a w K Q else K (a.put oi.dst undef) w)
 (h2 : ∀ K : Act → World → Prop, Shut (∀ a1 w1, (need j = true → S w1) → ((need j = true → S w1) → ∀ K2 : Act → World → Prop, Shut (∀ a2 w2, (need i = true → S w2) → ((need i = true → S w2) → T a a2 w2) → K2 a2 w2) → if Region.wanted oi (yielded ops a1.tmps) = true then Oper.wp P oi a1 w1 K2 Q else K2 (a1.put oi.dst undef) w1) → K a1 w1) → if Region.wanted oj (yielded ops a.tmps) = true then Oper.wp P oj a w K Q else K (a.put oj.dst undef) w)
 (h : ∀ a2 w2, S w2 → T a a2 w2 → wpAnyN P md ops Q S need fuel l2 a2 w2)
 (hoi : ops[i]? = some oi := by rfl) (hoj : ops[j]? = some oj := by rfl) (hr : Region.ready md ops listed = [i, j] := by kernel_rfl) (hri : Region.ready md ops li = [j] := by kernel_rfl) (hrj : Region.ready md ops lj = [i] := by kernel_rfl)
 (hli : listed.setIfInBounds i true = li := by kernel_rfl) (hlj : listed.setIfInBounds j true = lj := by kernel_rfl) (h2i : li.setIfInBounds j true = l2 := by kernel_rfl) (h2j : lj.setIfInBounds i true = l2 := by kernel_rfl)
 (hni : need i = true := by rfl) (hnj : need j = true := by rfl) : wpAnyN P md ops Q S need (fuel + 2) listed a w := by
 refine ⟨fun h0 => (by rw [hr] at h0; cases h0), fun x hx => ?_⟩
 rw [hr, List.mem_cons, List.mem_singleton] at hx
 rcases hx with rfl | rfl
 ·rw [hli]
  exact wpOp_step hoi fun K hK => h1 K fun a1 w1 hS hW => hK a1 w1 ⟨hS, wpAnyN_step hri hoj h2i fun K2 hK2 => hW hS K2 fun a2 w2 hS2 hT => hK2 a2 w2 hS2 fun q => h a2 w2 (q hnj) (hT q)⟩
 ·rw [hlj]
  exact wpOp_step hoj fun K hK => h2 K fun a1 w1 hS hW => hK a1 w1 ⟨hS, wpAnyN_step hrj hoi h2j fun K2 hK2 => hW hS K2 fun a2 w2 hS2 hT => hK2 a2 w2 hS2 fun q => h a2 w2 (q hni) (hT q)⟩
end
end Go.Proofs.Ytncbgnpoffolcaa
