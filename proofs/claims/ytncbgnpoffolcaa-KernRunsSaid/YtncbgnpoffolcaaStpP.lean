/-
  Runs as rounds in turn; a kernel without mutexes as functions of its tasks and lists. KernStops: a run with more operations and ticks goes through the end of the one with fewer.
-/
import Derived.Test.YtncbgnpoffolcaaM17
namespace Go.Proofs.Ytncbgnpoffolcaa
namespace Kn
/-- Rounds in turn. -/
inductive Steps (ticks ops : Nat) : K → K → Prop
 | refl (k : K) : Steps ticks ops k k
 | step {k k' k'' : K} : k.round ticks ops = some k' → Steps ticks ops k' k'' → Steps ticks ops k k''
end Kn
end Go.Proofs.Ytncbgnpoffolcaa
namespace Go.Proofs.Ytncbgnpoffolcaa
namespace Kn
variable {ticks ops ticks' ops' : Nat} {k k' : K}
theorem round_more (h1 : ticks ≤ ticks') (h2 : ops ≤ ops') (e : k.round ticks ops = some k') : k.round ticks' ops' = some k' := by
 unfold K.round at e ⊢
 by_cases hr : k.running < 0
 ·rw [if_pos hr] at e ⊢
  by_cases hc : k.timed = false ∨ ticks ≤ k.ticks
  ·rw [if_pos hc] at e
   cases e
  ·rw [if_neg hc] at e
   rw [if_neg (fun q => hc (q.imp id (fun q => zt h1 q)))]
   exact e
 ·rw [if_neg hr] at e ⊢
  by_cases hc : ops ≤ k.ops
  ·rw [if_pos hc] at e
   cases e
  ·rw [if_neg hc] at e
   rw [if_neg (by omega)]
   exact e
theorem Steps.more (h1 : ticks ≤ ticks') (h2 : ops ≤ ops') (s : Steps ticks ops k k') : Steps ticks' ops' k k' := by
 induction s with
 | refl => exact .refl _
 | step e _ ih => exact .step (round_more h1 h2 e) ih
theorem steps_run (ticks ops : Nat) : ∀ (f : Nat) (k : K), Steps ticks ops k (K.run ticks ops f k)
 | 0, k => .refl k
 | f + 1, k => by
   rw [run_round]
   match e : k.round ticks ops with
   | none => exact .refl k
   | some k' => exact .step e (steps_run ticks ops f k')
theorem Steps.pass (s : Steps ticks ops k k') : ∀ f, Ok k → k.rest ticks ops < f → ∃ g, K.run ticks ops f k = K.run ticks ops g k' := by
 induction s with
 | refl k => exact fun f _ _ => ⟨f, rfl⟩
 | step e _ ih =>
   intro f ho hf
   obtain ⟨g, rfl⟩ : ∃ g, f = g + 1 := ⟨f - 1, by omega⟩
   obtain ⟨h1, _, h3, _⟩ := ho.round e
   rw [run_round, e]
   exact ih g h1 (by omega)
theorem round_nums (e : k.round ticks ops = some k') : k.ticks ≤ k'.ticks ∧ k.ops ≤ k'.ops ∧ (k.ticks ≤ ticks → k'.ticks ≤ ticks) ∧ (k.ops ≤ ops → k'.ops ≤ ops) ∧ ∃ l, k'.out = k.out ++ l := by
 unfold K.round at e
 split at e
 ·split at e
  ·cases e
  ·rename_i hc
   injection e with e
   subst e
   obtain ⟨a, b, c⟩ := tick_nums k
   have ht : ¬ ticks ≤ k.ticks := fun q => hc (.inr q)
   exact ⟨by omega, by omega, by omega, by omega, [], by rw [c, List.append_nil]⟩
 ·split at e
  ·cases e
  ·rename_i hop
   split at e
   ·injection e with e
    subst e
    obtain ⟨a, b, c⟩ := anew_nums (k.fin k.running) k.running
    obtain ⟨a', b', c'⟩ := fin_nums k k.running
    exact ⟨by omega, by omega, by omega, by omega, [], by rw [c, c', List.append_nil]⟩
   ·injection e with e
    subst e
    obtain ⟨a, b, c⟩ := anew_nums (K.do_ { k with ops := k.ops + 1 } k.running) k.running
    obtain ⟨a', b', l, c'⟩ := do_nums { k with ops := k.ops + 1 } k.running
    have e1 : ({ k with ops := k.ops + 1 } : K).ops = k.ops + 1 := rfl
    have e2 : ({ k with ops := k.ops + 1 } : K).ticks = k.ticks := rfl
    exact ⟨by omega, by omega, by omega, by omega, l, by rw [c, c']⟩
theorem Steps.nums (s : Steps ticks ops k k') : k.ticks ≤ k'.ticks ∧ k.ops ≤ k'.ops ∧ (k.ticks ≤ ticks → k'.ticks ≤ ticks) ∧ (k.ops ≤ ops → k'.ops ≤ ops) ∧ ∃ l, k'.out = k.out ++ l := by
 induction s with
 | refl k => exact ⟨zl _, zl _, id, id, [], (List.append_nil _).symm⟩
 | step e _ ih =>
   obtain ⟨a, b, c, d, l, hl⟩ := round_nums e
   obtain ⟨a', b', c', d', l', hl'⟩ := ih
   exact ⟨zt a a', zt b b', fun h => c' (c h), fun h => d' (d h), l ++ l', by rw [hl', hl, List.append_assoc]⟩
/-- With more ticks and operations: what was done is done the same. -/
theorem stops_run {t : Table} (hf : t.fits = true) (h1 : ticks ≤ ticks') (h2 : ops ≤ ops') : (runT t ticks ops).ops ≤ ops ∧ (runT t ticks ops).ticks ≤ ticks ∧ (runT t ticks ops).ops ≤ (runT t ticks' ops').ops ∧ (runT t ticks ops).ticks ≤ (runT t ticks' ops').ticks ∧ ∃ l, (runT t ticks' ops').out = (runT t ticks ops).out ++ l := by
 have s := steps_run ticks ops (ticks + ops + t.tasks.length + 1) (begin t)
 have e1 : (begin t).ticks = 0 := rfl
 have e2 : (begin t).ops = 0 := rfl
 obtain ⟨_, _, a, b, _⟩ := s.nums
 obtain ⟨g, hg⟩ := (s.more h1 h2).pass (ticks' + ops' + t.tasks.length + 1) (begin_ok hf) (begin_rest t ticks' ops')
 have s2 := steps_run ticks' ops' g (K.run ticks ops (ticks + ops + t.tasks.length + 1) (begin t))
 rw [← hg] at s2
 obtain ⟨c, d, _, _, l, hl⟩ := s2.nums
 exact ⟨b (by omega), a (by omega), d, c, l, hl⟩
end Kn
end Go.Proofs.Ytncbgnpoffolcaa
