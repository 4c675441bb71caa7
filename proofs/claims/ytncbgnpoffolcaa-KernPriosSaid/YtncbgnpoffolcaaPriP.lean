/-
  KernPrios: what its table writes, at every input (each one is run).
-/
import Derived.Test.YtncbgnpoffolcaaM3
namespace Go.Proofs.Ytncbgnpoffolcaa
def priosT (p other : Int) : Kn.Table := ⟨[⟨0, [⟨0, 97, 0⟩, ⟨13, p, 0⟩, ⟨0, 98, 0⟩]⟩, ⟨other, [⟨0, 99, 0⟩]⟩], [], 0, []⟩
theorem prios_fits {a b : Int} (h1 : 0 ≤ a) (h2 : a ≤ 31) (h3 : 1 ≤ b) (h4 : b ≤ 31) : (priosT a b).fits = true := by
  simp [priosT, Kn.Table.fits, Kn.Task.fits, Kn.opsFit, Kn.Op.fits, Kn.bounds]
  omega
theorem prios_all : ((List.range 32).all fun a => (List.range 32).all fun b => b == 0 || a == b || (Kn.runT (priosT a b) 0 100).out == (if b < a then [97, 99, 98] else [97, 98, 99])) = true := by decide +kernel
theorem prios_run {a b : Int} (h1 : 0 ≤ a) (h2 : a ≤ 31) (h3 : 1 ≤ b) (h4 : b ≤ 31) (h5 : a ≠ b) : (Kn.runT (priosT a b) 0 100).out = if b < a then [97, 99, 98] else [97, 98, 99] := by
  obtain ⟨x, rfl⟩ := Int.eq_ofNat_of_zero_le h1
  obtain ⟨y, rfl⟩ := Int.eq_ofNat_of_zero_le (show 0 ≤ b by omega)
  have h := List.all_eq_true.1 (List.all_eq_true.1 prios_all x (List.mem_range.2 (by omega))) y (List.mem_range.2 (by omega))
  have e1 : (y == 0) = false := by simp; omega
  have e2 : (x == y) = false := by simp; omega
  rw [e1, e2, Bool.false_or, Bool.false_or] at h
  have h := eq_of_beq h
  rw [h]
  by_cases q : y < x
  · rw [if_pos q, if_pos (by omega)]
  · rw [if_neg q, if_neg (by omega)]
end Go.Proofs.Ytncbgnpoffolcaa
