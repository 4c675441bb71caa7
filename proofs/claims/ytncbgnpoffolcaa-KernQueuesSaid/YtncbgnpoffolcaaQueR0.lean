/-
  KernQueues: runs.
-/
import Derived.Test.YtncbgnpoffolcaaQue0
namespace Go.Proofs.Ytncbgnpoffolcaa
theorem ques_false_1 : quesAll 1 false = true := by decide +kernel
theorem ques_false_2 : quesAll 2 false = true := by decide +kernel
theorem ques_false_3 : quesAll 3 false = true := by decide +kernel
theorem ques_false_4 : quesAll 4 false = true := by decide +kernel
theorem ques_true_1 : quesAll 1 true = true := by decide +kernel
theorem ques_true_2 : quesAll 2 true = true := by decide +kernel
theorem ques_true_3 : quesAll 3 true = true := by decide +kernel
theorem ques_true_4 : quesAll 4 true = true := by decide +kernel
end Go.Proofs.Ytncbgnpoffolcaa
