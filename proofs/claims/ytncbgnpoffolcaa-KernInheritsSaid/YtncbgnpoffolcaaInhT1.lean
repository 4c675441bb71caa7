/-
  KernInherits: runs.
-/
import Derived.Test.YtncbgnpoffolcaaInh0
namespace Go.Proofs.Ytncbgnpoffolcaa
theorem inh_true_20 : inhAll 20 true = true := by decide +kernel
theorem inh_true_21 : inhAll 21 true = true := by decide +kernel
theorem inh_true_22 : inhAll 22 true = true := by decide +kernel
theorem inh_true_23 : inhAll 23 true = true := by decide +kernel
theorem inh_true_24 : inhAll 24 true = true := by decide +kernel
end Go.Proofs.Ytncbgnpoffolcaa
