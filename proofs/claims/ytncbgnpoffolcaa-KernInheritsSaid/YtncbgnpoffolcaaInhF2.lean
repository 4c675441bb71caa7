/-
  KernInherits: runs.
-/
import Derived.Test.YtncbgnpoffolcaaInh0
namespace Go.Proofs.Ytncbgnpoffolcaa
theorem inh_false_25 : inhAll 25 false = true := by decide +kernel
theorem inh_false_26 : inhAll 26 false = true := by decide +kernel
theorem inh_false_27 : inhAll 27 false = true := by decide +kernel
theorem inh_false_28 : inhAll 28 false = true := by decide +kernel
end Go.Proofs.Ytncbgnpoffolcaa
