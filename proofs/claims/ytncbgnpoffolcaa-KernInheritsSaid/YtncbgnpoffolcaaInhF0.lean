/-
  KernInherits: runs.
-/
import Derived.Test.YtncbgnpoffolcaaInh0
namespace Go.Proofs.Ytncbgnpoffolcaa
theorem inh_false_0 : inhAll 0 false = true := by decide +kernel
theorem inh_false_1 : inhAll 1 false = true := by decide +kernel
theorem inh_false_2 : inhAll 2 false = true := by decide +kernel
theorem inh_false_3 : inhAll 3 false = true := by decide +kernel
theorem inh_false_4 : inhAll 4 false = true := by decide +kernel
theorem inh_false_5 : inhAll 5 false = true := by decide +kernel
theorem inh_false_6 : inhAll 6 false = true := by decide +kernel
theorem inh_false_7 : inhAll 7 false = true := by decide +kernel
theorem inh_false_8 : inhAll 8 false = true := by decide +kernel
theorem inh_false_9 : inhAll 9 false = true := by decide +kernel
theorem inh_false_10 : inhAll 10 false = true := by decide +kernel
theorem inh_false_11 : inhAll 11 false = true := by decide +kernel
theorem inh_false_12 : inhAll 12 false = true := by decide +kernel
theorem inh_false_13 : inhAll 13 false = true := by decide +kernel
theorem inh_false_14 : inhAll 14 false = true := by decide +kernel
theorem inh_false_15 : inhAll 15 false = true := by decide +kernel
theorem inh_false_16 : inhAll 16 false = true := by decide +kernel
theorem inh_false_17 : inhAll 17 false = true := by decide +kernel
theorem inh_false_18 : inhAll 18 false = true := by decide +kernel
theorem inh_false_19 : inhAll 19 false = true := by decide +kernel
end Go.Proofs.Ytncbgnpoffolcaa
