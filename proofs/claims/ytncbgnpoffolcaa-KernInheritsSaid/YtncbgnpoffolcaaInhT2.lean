/-
  KernInherits: runs.
-/
import Derived.Test.YtncbgnpoffolcaaInh0
namespace Go.Proofs.Ytncbgnpoffolcaa
theorem inh_true_25 : inhAll 25 true = true := by decide +kernel
theorem inh_true_26 : inhAll 26 true = true := by decide +kernel
theorem inh_true_27 : inhAll 27 true = true := by decide +kernel
theorem inh_true_28 : inhAll 28 true = true := by decide +kernel
end Go.Proofs.Ytncbgnpoffolcaa
