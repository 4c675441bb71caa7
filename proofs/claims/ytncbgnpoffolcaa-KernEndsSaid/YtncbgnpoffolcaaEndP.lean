/-
  KernEnds: what its table writes, at every input (each one is run).
-/
import Derived.Test.YtncbgnpoffolcaaM3
namespace Go.Proofs.Ytncbgnpoffolcaa
def endsLast (p : Bool) : Kn.Op := ⟨if p then 12 else 1, 0, 0⟩
def endsT (p : Bool) (low high : Int) : Kn.Table := ⟨[⟨0, [⟨5, 0, 0⟩, ⟨2, 2, 0⟩, endsLast p]⟩, ⟨low, [⟨2, 1, 0⟩, ⟨5, 0, 0⟩, ⟨0, 108, 0⟩, ⟨6, 0, 0⟩]⟩, ⟨high, [⟨2, 1, 0⟩, ⟨5, 0, 0⟩, ⟨0, 104, 0⟩, ⟨6, 0, 0⟩]⟩], [], 1, []⟩
def endsOk (p : Bool) (low high : Nat) : Bool := (Kn.runT (endsT p low high) 100 1000).out == (if p then [33, 104, 108] else [104, 108]) && (Kn.runT (endsT p low high) 100 1000).tasks.map (·.state) == [2, 2, 2]
theorem ends_all_f : ((List.range 31).all fun low => (List.range low).all fun high => high == 0 || endsOk false low high) = true := by decide +kernel
theorem ends_all_t : ((List.range 31).all fun low => (List.range low).all fun high => high == 0 || endsOk true low high) = true := by decide +kernel
theorem ends_fits {p : Bool} {low high : Int} (h1 : 1 ≤ high) (h2 : high < low) (h3 : low ≤ 30) : (endsT p low high).fits = true := by
  cases p
  · simp [endsT, endsLast, Kn.Table.fits, Kn.Task.fits, Kn.opsFit, Kn.Op.fits, Kn.bounds]
    omega
  · simp [endsT, endsLast, Kn.Table.fits, Kn.Task.fits, Kn.opsFit, Kn.Op.fits, Kn.bounds]
    omega
theorem ends_run {p : Bool} {low high : Nat} (h1 : 1 ≤ high) (h2 : high < low) (h3 : low ≤ 30) : (Kn.runT (endsT p low high) 100 1000).out = (if p then [33, 104, 108] else [104, 108]) ∧ (Kn.runT (endsT p low high) 100 1000).tasks.map (·.state) = [2, 2, 2] := by
  have h : endsOk p low high = true := by
    have e1 : (high == 0) = false := by simp; omega
    cases p
    · have h := List.all_eq_true.1 (List.all_eq_true.1 ends_all_f low (List.mem_range.2 (by omega))) high (List.mem_range.2 h2)
      rw [e1, Bool.false_or] at h
      exact h
    · have h := List.all_eq_true.1 (List.all_eq_true.1 ends_all_t low (List.mem_range.2 (by omega))) high (List.mem_range.2 h2)
      rw [e1, Bool.false_or] at h
      exact h
  unfold endsOk at h
  rw [Bool.and_eq_true] at h
  exact ⟨eq_of_beq h.1, eq_of_beq h.2⟩
end Go.Proofs.Ytncbgnpoffolcaa
