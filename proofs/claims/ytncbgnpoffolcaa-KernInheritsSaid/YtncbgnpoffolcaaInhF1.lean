/-
  KernInherits: runs.
-/
import Derived.Test.YtncbgnpoffolcaaInh0
namespace Go.Proofs.Ytncbgnpoffolcaa
theorem inh_false_20 : inhAll 20 false = true := by decide +kernel
theorem inh_false_21 : inhAll 21 false = true := by decide +kernel
theorem inh_false_22 : inhAll 22 false = true := by decide +kernel
theorem inh_false_23 : inhAll 23 false = true := by decide +kernel
theorem inh_false_24 : inhAll 24 false = true := by decide +kernel
end Go.Proofs.Ytncbgnpoffolcaa
