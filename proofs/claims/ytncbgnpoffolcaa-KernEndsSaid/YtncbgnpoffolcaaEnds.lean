/-
  KernEnds: the walk of the law.
-/
import Derived.Test.YtncbgnpoffolcaaEndF
import Derived.Test.YtncbgnpoffolcaaEndT
namespace Go.Proofs.Ytncbgnpoffolcaa
open Go.RowKit
theorem kernEnds_any (f : Bool) (a b : Int) (w : World) : Calls Try.prog 16 #[.bool f, .int .i64 a, .int .i64 b] w fun r w' => r = .returned (.bool true) ∧ Below w.heap.size w w' := by
  by_cases b0 : b < 1
  · as_aux_lemma =>
      go_enter Try.func16, Try.ntmps16
      go_wp2_with fail
      refine (alive_any w).mono ?_
      rintro e w1 ⟨rfl, hb1⟩
      go_wp2_with fail
      go_ret
      exact ⟨rfl, hb1⟩
  by_cases b1 : a ≤ b
  · as_aux_lemma =>
      go_enter Try.func16, Try.ntmps16
      go_wp2_with fail
      refine (alive_any w).mono ?_
      rintro e w1 ⟨rfl, hb1⟩
      go_wp2_with fail
      go_ret
      exact ⟨rfl, hb1⟩
  by_cases b2 : 30 < a
  · as_aux_lemma =>
      go_enter Try.func16, Try.ntmps16
      go_wp2_with fail
      refine (alive_any w).mono ?_
      rintro e w1 ⟨rfl, hb1⟩
      go_wp2_with fail
      go_ret
      exact ⟨rfl, hb1⟩
  obtain ⟨low, rfl⟩ : ∃ n : Nat, a = n := ⟨a.toNat, by omega⟩
  obtain ⟨high, rfl⟩ : ∃ n : Nat, b = n := ⟨b.toNat, by omega⟩
  cases f
  · exact kernEnds_f low high w b0 b1 b2
  · exact kernEnds_t low high w b0 b1 b2
end Go.Proofs.Ytncbgnpoffolcaa
