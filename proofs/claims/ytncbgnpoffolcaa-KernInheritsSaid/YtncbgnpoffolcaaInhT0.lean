/-
  KernInherits: runs.
-/
import Derived.Test.YtncbgnpoffolcaaInh0
namespace Go.Proofs.Ytncbgnpoffolcaa
theorem inh_true_0 : inhAll 0 true = true := by decide +kernel
theorem inh_true_1 : inhAll 1 true = true := by decide +kernel
theorem inh_true_2 : inhAll 2 true = true := by decide +kernel
theorem inh_true_3 : inhAll 3 true = true := by decide +kernel
theorem inh_true_4 : inhAll 4 true = true := by decide +kernel
theorem inh_true_5 : inhAll 5 true = true := by decide +kernel
theorem inh_true_6 : inhAll 6 true = true := by decide +kernel
theorem inh_true_7 : inhAll 7 true = true := by decide +kernel
theorem inh_true_8 : inhAll 8 true = true := by decide +kernel
theorem inh_true_9 : inhAll 9 true = true := by decide +kernel
theorem inh_true_10 : inhAll 10 true = true := by decide +kernel
theorem inh_true_11 : inhAll 11 true = true := by decide +kernel
theorem inh_true_12 : inhAll 12 true = true := by decide +kernel
theorem inh_true_13 : inhAll 13 true = true := by decide +kernel
theorem inh_true_14 : inhAll 14 true = true := by decide +kernel
theorem inh_true_15 : inhAll 15 true = true := by decide +kernel
theorem inh_true_16 : inhAll 16 true = true := by decide +kernel
theorem inh_true_17 : inhAll 17 true = true := by decide +kernel
theorem inh_true_18 : inhAll 18 true = true := by decide +kernel
theorem inh_true_19 : inhAll 19 true = true := by decide +kernel
end Go.Proofs.Ytncbgnpoffolcaa
