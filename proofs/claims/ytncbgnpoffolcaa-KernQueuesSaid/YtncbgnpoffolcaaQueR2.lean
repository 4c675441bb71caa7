/-
  KernQueues: runs.
-/
import Derived.Test.YtncbgnpoffolcaaQue0
namespace Go.Proofs.Ytncbgnpoffolcaa
theorem ques_false_9 : quesAll 9 false = true := by decide +kernel
theorem ques_false_10 : quesAll 10 false = true := by decide +kernel
theorem ques_false_11 : quesAll 11 false = true := by decide +kernel
theorem ques_false_12 : quesAll 12 false = true := by decide +kernel
theorem ques_true_9 : quesAll 9 true = true := by decide +kernel
theorem ques_true_10 : quesAll 10 true = true := by decide +kernel
theorem ques_true_11 : quesAll 11 true = true := by decide +kernel
theorem ques_true_12 : quesAll 12 true = true := by decide +kernel
end Go.Proofs.Ytncbgnpoffolcaa
