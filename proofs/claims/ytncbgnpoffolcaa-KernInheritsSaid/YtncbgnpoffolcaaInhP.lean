/-
  KernInherits: what its table writes, at every input (each one is run).
-/
import Derived.Test.YtncbgnpoffolcaaInhF0
import Derived.Test.YtncbgnpoffolcaaInhF1
import Derived.Test.YtncbgnpoffolcaaInhF2
import Derived.Test.YtncbgnpoffolcaaInhF3
import Derived.Test.YtncbgnpoffolcaaInhT0
import Derived.Test.YtncbgnpoffolcaaInhT1
import Derived.Test.YtncbgnpoffolcaaInhT2
import Derived.Test.YtncbgnpoffolcaaInhT3
namespace Go.Proofs.Ytncbgnpoffolcaa
theorem inh_all {low : Nat} {chain : Bool} (h : low ≤ 31) : inhAll low chain = true := by
  have hd : low = 0 ∨ low = 1 ∨ low = 2 ∨ low = 3 ∨ low = 4 ∨ low = 5 ∨ low = 6 ∨ low = 7 ∨ low = 8 ∨ low = 9 ∨ low = 10 ∨ low = 11 ∨ low = 12 ∨ low = 13 ∨ low = 14 ∨ low = 15 ∨ low = 16 ∨ low = 17 ∨ low = 18 ∨ low = 19 ∨ low = 20 ∨ low = 21 ∨ low = 22 ∨ low = 23 ∨ low = 24 ∨ low = 25 ∨ low = 26 ∨ low = 27 ∨ low = 28 ∨ low = 29 ∨ low = 30 ∨ low = 31 := by omega
  cases chain
  · rcases hd with rfl | rfl | rfl | rfl | rfl | rfl | rfl | rfl | rfl | rfl | rfl | rfl | rfl | rfl | rfl | rfl | rfl | rfl | rfl | rfl | rfl | rfl | rfl | rfl | rfl | rfl | rfl | rfl | rfl | rfl | rfl | rfl
    · exact inh_false_0
    · exact inh_false_1
    · exact inh_false_2
    · exact inh_false_3
    · exact inh_false_4
    · exact inh_false_5
    · exact inh_false_6
    · exact inh_false_7
    · exact inh_false_8
    · exact inh_false_9
    · exact inh_false_10
    · exact inh_false_11
    · exact inh_false_12
    · exact inh_false_13
    · exact inh_false_14
    · exact inh_false_15
    · exact inh_false_16
    · exact inh_false_17
    · exact inh_false_18
    · exact inh_false_19
    · exact inh_false_20
    · exact inh_false_21
    · exact inh_false_22
    · exact inh_false_23
    · exact inh_false_24
    · exact inh_false_25
    · exact inh_false_26
    · exact inh_false_27
    · exact inh_false_28
    · exact inh_false_29
    · exact inh_false_30
    · exact inh_false_31
  · rcases hd with rfl | rfl | rfl | rfl | rfl | rfl | rfl | rfl | rfl | rfl | rfl | rfl | rfl | rfl | rfl | rfl | rfl | rfl | rfl | rfl | rfl | rfl | rfl | rfl | rfl | rfl | rfl | rfl | rfl | rfl | rfl | rfl
    · exact inh_true_0
    · exact inh_true_1
    · exact inh_true_2
    · exact inh_true_3
    · exact inh_true_4
    · exact inh_true_5
    · exact inh_true_6
    · exact inh_true_7
    · exact inh_true_8
    · exact inh_true_9
    · exact inh_true_10
    · exact inh_true_11
    · exact inh_true_12
    · exact inh_true_13
    · exact inh_true_14
    · exact inh_true_15
    · exact inh_true_16
    · exact inh_true_17
    · exact inh_true_18
    · exact inh_true_19
    · exact inh_true_20
    · exact inh_true_21
    · exact inh_true_22
    · exact inh_true_23
    · exact inh_true_24
    · exact inh_true_25
    · exact inh_true_26
    · exact inh_true_27
    · exact inh_true_28
    · exact inh_true_29
    · exact inh_true_30
    · exact inh_true_31
theorem inh_run {low mid high : Nat} {chain : Bool} (h1 : 1 ≤ high) (h2 : high < mid) (h3 : mid < low) (h4 : low ≤ 31) : (Kn.runT (inhT low mid high chain) 100 1000).out = [108, 104, 109, 122] := by
  have h := inh_all (chain := chain) h4
  have e1 : (high == 0) = false := by simp; omega
  have h := List.all_eq_true.1 (List.all_eq_true.1 h mid (List.mem_range.2 h3)) high (List.mem_range.2 h2)
  rw [e1, Bool.false_or] at h
  exact eq_of_beq h
theorem inh_fits {low mid high : Int} {chain : Bool} (h1 : 1 ≤ high) (h2 : high < mid) (h3 : mid < low) (h4 : low ≤ 31) : (inhT low mid high chain).fits = true := by
  cases chain
  · simp [inhT, Kn.Table.fits, Kn.Task.fits, Kn.opsFit, Kn.Op.fits, Kn.bounds]
    omega
  · simp [inhT, Kn.Table.fits, Kn.Task.fits, Kn.opsFit, Kn.Op.fits, Kn.bounds]
    omega
end Go.Proofs.Ytncbgnpoffolcaa
