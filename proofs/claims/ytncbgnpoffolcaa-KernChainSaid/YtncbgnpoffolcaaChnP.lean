/-
  KernChain: what its table writes, at every input (each one is run).
-/
import Derived.Test.YtncbgnpoffolcaaM3
namespace Go.Proofs.Ytncbgnpoffolcaa
def chainF (i : Nat) : Kn.Task := ⟨30 - (i : Int), [⟨2, 1 + i, 0⟩, ⟨5, i, 0⟩, if i = 0 then ⟨2, 30, 0⟩ else ⟨5, (i : Int) - 1, 0⟩, ⟨0, 97 + i, 0⟩]⟩
def chainT (n : Nat) : Kn.Table := ⟨(List.range n).map chainF ++ [⟨1, [⟨2, 15, 0⟩, ⟨5, (n : Int) - 1, 0⟩, ⟨0, 90, 0⟩]⟩, ⟨5, [⟨2, 31, 0⟩, ⟨0, 77, 0⟩]⟩], [], n, []⟩
def chainOk (n : Nat) : Bool := (chainT n).fits && (Kn.runT (chainT n) 200 1000).out == ((List.range n).map fun i => UInt8.ofNat (97 + i)) ++ [90, 77]
theorem chain_all : ((List.range 8).all fun n => n == 0 || chainOk n) = true := by decide +kernel
theorem chain_run {n : Nat} (h1 : 1 ≤ n) (h2 : n ≤ 7) : (chainT n).fits = true ∧ (Kn.runT (chainT n) 200 1000).out = ((List.range n).map fun i => UInt8.ofNat (97 + i)) ++ [90, 77] := by
  have h := List.all_eq_true.1 chain_all n (List.mem_range.2 (by omega))
  have e1 : (n == 0) = false := by simp; omega
  rw [e1, Bool.false_or] at h
  unfold chainOk at h
  rw [Bool.and_eq_true] at h
  exact ⟨h.1, eq_of_beq h.2⟩
end Go.Proofs.Ytncbgnpoffolcaa
