/-
  KernInherits: runs.
-/
import Derived.Test.YtncbgnpoffolcaaInh0
namespace Go.Proofs.Ytncbgnpoffolcaa
theorem inh_true_29 : inhAll 29 true = true := by decide +kernel
theorem inh_true_30 : inhAll 30 true = true := by decide +kernel
theorem inh_true_31 : inhAll 31 true = true := by decide +kernel
end Go.Proofs.Ytncbgnpoffolcaa
