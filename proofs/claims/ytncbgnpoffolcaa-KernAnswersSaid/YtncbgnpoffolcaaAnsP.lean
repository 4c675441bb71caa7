/-
  KernAnswers: what its table writes, at every input (each one is run).
-/
import Derived.Test.YtncbgnpoffolcaaM3
namespace Go.Proofs.Ytncbgnpoffolcaa
def ansOps (id : Int) : List Kn.Op := [⟨3, id, 0⟩, ⟨9, 0, 0⟩, ⟨4, id, 0⟩, ⟨4, id, 0⟩, ⟨9, 0, 0⟩, ⟨6, id, 0⟩, ⟨9, 0, 0⟩, ⟨5, id, 0⟩, ⟨5, id, 0⟩, ⟨9, 0, 0⟩, ⟨11, 0, 0⟩, ⟨9, 0, 0⟩, ⟨14, 0, 0⟩, ⟨9, 0, 0⟩, ⟨12, 0, 0⟩, ⟨0, 65, 0⟩]
def ansT (id : Int) : Kn.Table := ⟨[⟨0, ansOps id⟩], [100], 1, [1]⟩
theorem ans_all : ((List.range 16).all fun i => (ansT i).fits && (Kn.runT (ansT i) 0 1000).out == (if i = 0 then [97, 101, 100, 100, 102, 97, 33] else [99, 99, 99, 99, 102, 97, 33]) && (Kn.runT (ansT i) 0 1000).tasks.map (·.state) == [2]) = true := by decide +kernel
theorem ans_run {id : Int} (h1 : 0 ≤ id) (h2 : id ≤ 15) : (ansT id).fits = true ∧ (Kn.runT (ansT id) 0 1000).out = (if 0 < id then [99, 99, 99, 99, 102, 97, 33] else [97, 101, 100, 100, 102, 97, 33]) ∧ (Kn.runT (ansT id) 0 1000).tasks.map (·.state) = [2] := by
  obtain ⟨x, rfl⟩ := Int.eq_ofNat_of_zero_le h1
  have h := List.all_eq_true.1 ans_all x (List.mem_range.2 (by omega))
  rw [Bool.and_eq_true, Bool.and_eq_true] at h
  refine ⟨h.1.1, ?_, eq_of_beq h.2⟩
  rw [eq_of_beq h.1.2]
  by_cases q : x = 0
  · rw [if_pos q, if_neg (by omega)]
  · rw [if_neg q, if_pos (by omega)]
end Go.Proofs.Ytncbgnpoffolcaa
