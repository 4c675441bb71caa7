/-
  KernQueues: its table.
-/
import Derived.Test.YtncbgnpoffolcaaM3
namespace Go.Proofs.Ytncbgnpoffolcaa
def quesS (n : Nat) : List Kn.Op := (List.range n).map fun (i : Nat) => (⟨7, 0, (i : Int)⟩ : Kn.Op)
def quesR (n : Nat) : List Kn.Op := (List.range n).flatMap fun _ => [⟨8, 0, 0⟩, ⟨9, 0, 0⟩]
def quesT (size n : Nat) (first : Bool) : Kn.Table := ⟨[⟨5, quesS n⟩, ⟨if first then 4 else 6, quesR n⟩], [], 0, [(size : Int)]⟩
def quesOk (size n : Nat) (first : Bool) : Bool := (quesT size n first).fits && ((Kn.runT (quesT size n first) 10 1000).out == (List.range n).map fun i => UInt8.ofNat (97 + i)) && (Kn.runT (quesT size n first) 10 1000).tasks.map (·.state) == [2, 2]
def quesAll (size : Nat) (first : Bool) : Bool := (List.range 21).all fun n => n == 0 || quesOk size n first
end Go.Proofs.Ytncbgnpoffolcaa
