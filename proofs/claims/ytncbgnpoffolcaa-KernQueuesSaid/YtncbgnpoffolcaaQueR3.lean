/-
  KernQueues: runs.
-/
import Derived.Test.YtncbgnpoffolcaaQue0
namespace Go.Proofs.Ytncbgnpoffolcaa
theorem ques_false_13 : quesAll 13 false = true := by decide +kernel
theorem ques_false_14 : quesAll 14 false = true := by decide +kernel
theorem ques_false_15 : quesAll 15 false = true := by decide +kernel
theorem ques_false_16 : quesAll 16 false = true := by decide +kernel
theorem ques_true_13 : quesAll 13 true = true := by decide +kernel
theorem ques_true_14 : quesAll 14 true = true := by decide +kernel
theorem ques_true_15 : quesAll 15 true = true := by decide +kernel
theorem ques_true_16 : quesAll 16 true = true := by decide +kernel
end Go.Proofs.Ytncbgnpoffolcaa
