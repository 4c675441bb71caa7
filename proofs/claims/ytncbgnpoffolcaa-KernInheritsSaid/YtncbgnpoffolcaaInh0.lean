/-
  KernInherits: its table.
-/
import Derived.Test.YtncbgnpoffolcaaM3
namespace Go.Proofs.Ytncbgnpoffolcaa
def inhT (low mid high : Int) (chain : Bool) : Kn.Table := ⟨[⟨low, [⟨5, 0, 0⟩, ⟨2, 1, 0⟩, ⟨0, 108, 0⟩, ⟨6, 0, 0⟩, ⟨0, 122, 0⟩]⟩, ⟨mid, [⟨2, 1, 0⟩, ⟨0, 109, 0⟩]⟩, ⟨high, [⟨2, 1, 0⟩, ⟨5, 0, 0⟩, ⟨0, 104, 0⟩]⟩] ++ (if chain then [⟨high, [⟨5, 1, 0⟩]⟩] else []), [], 2, []⟩
def inhOk (low mid high : Nat) (chain : Bool) : Bool := (Kn.runT (inhT low mid high chain) 100 1000).out == [108, 104, 109, 122]
def inhAll (low : Nat) (chain : Bool) : Bool := (List.range low).all fun mid => (List.range mid).all fun high => high == 0 || inhOk low mid high chain
end Go.Proofs.Ytncbgnpoffolcaa
