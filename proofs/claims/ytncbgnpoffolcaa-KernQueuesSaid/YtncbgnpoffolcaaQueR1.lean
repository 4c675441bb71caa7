/-
  KernQueues: runs.
-/
import Derived.Test.YtncbgnpoffolcaaQue0
namespace Go.Proofs.Ytncbgnpoffolcaa
theorem ques_false_5 : quesAll 5 false = true := by decide +kernel
theorem ques_false_6 : quesAll 6 false = true := by decide +kernel
theorem ques_false_7 : quesAll 7 false = true := by decide +kernel
theorem ques_false_8 : quesAll 8 false = true := by decide +kernel
theorem ques_true_5 : quesAll 5 true = true := by decide +kernel
theorem ques_true_6 : quesAll 6 true = true := by decide +kernel
theorem ques_true_7 : quesAll 7 true = true := by decide +kernel
theorem ques_true_8 : quesAll 8 true = true := by decide +kernel
end Go.Proofs.Ytncbgnpoffolcaa
