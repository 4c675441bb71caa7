/-
  Show, told by one text; Go's tables in a later world.
-/
import Derived.Test.YtmfldcacjpligaaDoorE1
import Derived.Lib.QuietBelow
import Derived.Laws.StructEq
namespace Go.Proofs.YtmfldcacjpligaaDoor
open Go.RowKit Go.Sort
theorem show_lit (i : Is.Ins) (w : World) (ht : Tabs w) : Calls Tryd.prog 14 #[insV i] w fun e w' => e = .returned (.string ⟨(Is.text i).toArray⟩) ∧ Below w.heap.size w w' :=
  (show_any i w ht).mono fun e w' ⟨r, he, hr, hb⟩ => ⟨by rw [he, show r = ⟨(Is.text i).toArray⟩ from bytesOf_inj hr], hb⟩
theorem rshow_lit (i : Is.Ins) (w : World) : Calls Tryd.prog 21 #[insV i] w fun e w' => e = .returned (.string ⟨(Is.text i).toArray⟩) ∧ Below w.heap.size w w' :=
  (rshow_any i w).mono fun e w' ⟨r, he, hr, hb⟩ => ⟨by rw [he, show r = ⟨(Is.text i).toArray⟩ from bytesOf_inj hr], hb⟩
theorem empty_eq {N : ByteArray} (h : bytesOf N = []) : N = ⟨#[]⟩ := bytesOf_inj h
/-- In a world of the class the tables stand. -/
theorem Tabs.regrown {w : World} (h : Tabs w) (d : Nat) (os : Array Obj) : Tabs (grow (redrawn w d) os) := h.below (below_regrown w d os)
end Go.Proofs.YtmfldcacjpligaaDoor
