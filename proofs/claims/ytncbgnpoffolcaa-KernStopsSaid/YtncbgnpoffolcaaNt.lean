/-
  Drawn regions, printed short.
-/
import Derived.Test.YtncbgnpoffolcaaNd
import Derived.Test.YtncbgnpoffolcaaNh
namespace Go.Proofs.Ytncbgnpoffolcaa
/-- A set of operations, as a number. -/
def bs (n m : Nat) : Array Bool := ((List.range n).map fun k => m.testBit k).toArray
section
variable {P : Program} {md : Region.Mode} {ops : Array Oper} {Q : Exit → Act → World → Prop} {S : World → Prop} {need : Nat → Bool}
theorem tk (i : Nat) (listed' : Array Bool) {oi : Oper} {v : Value} {fuel : Nat} {listed : Array Bool} {a : Act} {w : World}
    (hy : ∀ w, S w → (execOp a.eval oi).run P w = .ok (.value v) w) (h : wpAnyN P md ops Q S need fuel listed' (a.put oi.dst v) w)
    (hi : ops[i]? = some oi := by rfl) (hs : Region.noSelect ops = true := by kernel_rfl) (hf : Region.free md ops listed i = true := by kernel_rfl) (hr : ((Region.ready md ops listed).contains i && lateB md ops need i && closedB md ops listed) = true := by kernel_rfl)
    (hl : listed.setIfInBounds i true = listed' := by kernel_rfl) (hQ : ∀ c a w, Q (.panic c) (a.put oi.dst v) w → Q (.panic c) a w := by exact fun _ _ _ h => h) (hg : oi.guard = none := by rfl) (hS : S w := by assumption) : wpAnyN P md ops Q S need (fuel + 1) listed a w :=
  wpAnyN_take hi hs hf hr hl hQ (Or.inl ⟨by simp [Region.wanted, hg], hy⟩) hS h
/-- Two operations may come up next, in either order: what comes behind both is walked once. -/
theorem wpAnyN_fork (i j : Nat) (li lj l2 : Array Bool) (T : Act → Act → World → Prop) {oi oj : Oper} {fuel : Nat} {listed : Array Bool} {a : Act} {w : World}
    (h1 : ∀ K : Act → World → Prop, Shut (∀ a1 w1, (need i = true → S w1) → ((need i = true → S w1) → ∀ K2 : Act → World → Prop, Shut (∀ a2 w2, (need j = true → S w2) → ((need j = true → S w2) → T a a2 w2) → K2 a2 w2) → if Region.wanted oj (yielded ops a1.tmps) = true then Oper.wp P oj a1 w1 K2 Q else K2 (a1.put oj.dst undef) w1) → K a1 w1) → if Region.wanted oi (yielded ops a.tmps) = true then Oper.wp P oi a w K Q else K (a.put oi.dst undef) w)
    (h2 : ∀ K : Act → World → Prop, Shut (∀ a1 w1, (need j = true → S w1) → ((need j = true → S w1) → ∀ K2 : Act → World → Prop, Shut (∀ a2 w2, (need i = true → S w2) → ((need i = true → S w2) → T a a2 w2) → K2 a2 w2) → if Region.wanted oi (yielded ops a1.tmps) = true then Oper.wp P oi a1 w1 K2 Q else K2 (a1.put oi.dst undef) w1) → K a1 w1) → if Region.wanted oj (yielded ops a.tmps) = true then Oper.wp P oj a w K Q else K (a.put oj.dst undef) w)
    (h : ∀ a2 w2, S w2 → T a a2 w2 → wpAnyN P md ops Q S need fuel l2 a2 w2)
    (hoi : ops[i]? = some oi := by rfl) (hoj : ops[j]? = some oj := by rfl) (hr : Region.ready md ops listed = [i, j] := by kernel_rfl) (hri : Region.ready md ops li = [j] := by kernel_rfl) (hrj : Region.ready md ops lj = [i] := by kernel_rfl)
    (hli : listed.setIfInBounds i true = li := by kernel_rfl) (hlj : listed.setIfInBounds j true = lj := by kernel_rfl) (h2i : li.setIfInBounds j true = l2 := by kernel_rfl) (h2j : lj.setIfInBounds i true = l2 := by kernel_rfl)
    (hni : need i = true := by rfl) (hnj : need j = true := by rfl) : wpAnyN P md ops Q S need (fuel + 2) listed a w := by
  refine ⟨fun h0 => (by rw [hr] at h0; cases h0), fun x hx => ?_⟩
  rw [hr, List.mem_cons, List.mem_singleton] at hx
  rcases hx with rfl | rfl
  · rw [hli]
    exact wpOp_step hoi fun K hK => h1 K fun a1 w1 hS hW => hK a1 w1 ⟨hS, wpAnyN_step hri hoj h2i fun K2 hK2 => hW hS K2 fun a2 w2 hS2 hT => hK2 a2 w2 hS2 fun q => h a2 w2 (q hnj) (hT q)⟩
  · rw [hlj]
    exact wpOp_step hoj fun K hK => h2 K fun a1 w1 hS hW => hK a1 w1 ⟨hS, wpAnyN_step hrj hoi h2j fun K2 hK2 => hW hS K2 fun a2 w2 hS2 hT => hK2 a2 w2 hS2 fun q => h a2 w2 (q hni) (hT q)⟩
end
end Go.Proofs.Ytncbgnpoffolcaa
