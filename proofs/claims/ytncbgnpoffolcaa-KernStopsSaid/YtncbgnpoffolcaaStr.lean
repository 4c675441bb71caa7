/-
  What is written, as a text.
-/
import Derived.Test.YtncbgnpoffolcaaM1
import Derived.Laws.IdiomStrings
import Derived.Lib.BufferRead
namespace Go.Proofs.Ytncbgnpoffolcaa
open Go.RowKit
theorem KM.outConv {w : World} {B : Nat} {k : Kn.K} {L : Lay} (h : KM w B k L) : (convert 34 9 (L.hd .out k.out.length)).run Try.prog w = .ok (.string ⟨k.out.toArray⟩) w := by
  unfold Lay.hd
  split
  · rename_i q
    have e := h.nil.2.2.2.2.1 q
    have e2 : k.out = [] := List.length_eq_zero_iff.1 e
    rw [e2]
    exact Lib.run_convert_nil_bytes w 34 9 5 0 Try.underlying34 Try.underlying5 Try.underlying9
  · rename_i q
    have q : L.nil .out = false := by simpa using q
    obtain ⟨e, cur, hb, hn, -, -, hc⟩ := h.cont .out q
    rw [e]
    refine run_convert_bytes_back w 34 9 5 ⟨L.b .out, 0, none⟩ (L.cap .out) k.out Try.underlying34 Try.underlying5 Try.underlying9 fun j hj => ?_
    have e2 : (⟨L.b .out, 0, none⟩ : Addr).add j = ⟨L.b .out, j, none⟩ := by unfold Addr.add; simp; try (intro q; exact q.symm)
    rw [e2, cell_of_row w (L.b .out) j cur 5 (0, 0) hb]
    have h1 : (cur.toList.take k.out.length)[j]? = cur[j]? := by
      rw [List.getElem?_take_of_lt hj]
      simp
    rw [← h1, hc]
    simp [hj]
end Go.Proofs.Ytncbgnpoffolcaa
