/-
  KernInherits: runs.
-/
import Derived.Test.YtncbgnpoffolcaaInh0
namespace Go.Proofs.Ytncbgnpoffolcaa
theorem inh_false_29 : inhAll 29 false = true := by decide +kernel
theorem inh_false_30 : inhAll 30 false = true := by decide +kernel
theorem inh_false_31 : inhAll 31 false = true := by decide +kernel
end Go.Proofs.Ytncbgnpoffolcaa
