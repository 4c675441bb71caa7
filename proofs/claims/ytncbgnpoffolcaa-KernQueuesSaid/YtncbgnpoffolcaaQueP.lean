/-
  KernQueues: what its table writes, at every input (each one is run).
-/
import Derived.Test.YtncbgnpoffolcaaQueR0
import Derived.Test.YtncbgnpoffolcaaQueR1
import Derived.Test.YtncbgnpoffolcaaQueR2
import Derived.Test.YtncbgnpoffolcaaQueR3
namespace Go.Proofs.Ytncbgnpoffolcaa
theorem ques_all {size : Nat} {first : Bool} (h1 : 1 ≤ size) (h2 : size ≤ 16) : quesAll size first = true := by
  have hd : size = 1 ∨ size = 2 ∨ size = 3 ∨ size = 4 ∨ size = 5 ∨ size = 6 ∨ size = 7 ∨ size = 8 ∨ size = 9 ∨ size = 10 ∨ size = 11 ∨ size = 12 ∨ size = 13 ∨ size = 14 ∨ size = 15 ∨ size = 16 := by omega
  cases first
  · rcases hd with rfl | rfl | rfl | rfl | rfl | rfl | rfl | rfl | rfl | rfl | rfl | rfl | rfl | rfl | rfl | rfl
    · exact ques_false_1
    · exact ques_false_2
    · exact ques_false_3
    · exact ques_false_4
    · exact ques_false_5
    · exact ques_false_6
    · exact ques_false_7
    · exact ques_false_8
    · exact ques_false_9
    · exact ques_false_10
    · exact ques_false_11
    · exact ques_false_12
    · exact ques_false_13
    · exact ques_false_14
    · exact ques_false_15
    · exact ques_false_16
  · rcases hd with rfl | rfl | rfl | rfl | rfl | rfl | rfl | rfl | rfl | rfl | rfl | rfl | rfl | rfl | rfl | rfl
    · exact ques_true_1
    · exact ques_true_2
    · exact ques_true_3
    · exact ques_true_4
    · exact ques_true_5
    · exact ques_true_6
    · exact ques_true_7
    · exact ques_true_8
    · exact ques_true_9
    · exact ques_true_10
    · exact ques_true_11
    · exact ques_true_12
    · exact ques_true_13
    · exact ques_true_14
    · exact ques_true_15
    · exact ques_true_16
theorem ques_run {size n : Nat} {first : Bool} (h1 : 1 ≤ size) (h2 : size ≤ 16) (h3 : 1 ≤ n) (h4 : n ≤ 20) : (quesT size n first).fits = true ∧ (Kn.runT (quesT size n first) 10 1000).out = ((List.range n).map fun i => UInt8.ofNat (97 + i)) ∧ (Kn.runT (quesT size n first) 10 1000).tasks.map (·.state) = [2, 2] := by
  have h := List.all_eq_true.1 (ques_all (first := first) h1 h2) n (List.mem_range.2 (by omega))
  have e1 : (n == 0) = false := by simp; omega
  rw [e1, Bool.false_or] at h
  unfold quesOk at h
  rw [Bool.and_eq_true, Bool.and_eq_true] at h
  exact ⟨h.1.1, eq_of_beq h.1.2, eq_of_beq h.2⟩
end Go.Proofs.Ytncbgnpoffolcaa
