/-
  Two lists of numbers are one: the walk of SameInts.
-/
import Derived.Test.YtncbgnpoffolcaaM18
namespace Go.Proofs.Ytncbgnpoffolcaa
open Go.RowKit
set_option maxRecDepth 100000 in
set_option maxHeartbeats 4000000 in
theorem sameInts_any {w : World} {B1 B2 : Nat} {A1 A2 : Option Addr} {c1 c2 : Nat} {l : List Int} (h1 : Reads w B1 1 A1 l.length (intV l)) (h2 : Reads w B2 1 A2 l.length (intV l)) (hl : l.length ≤ maxLen) :
    Calls Try.prog 29 #[.slice A1 l.length c1, .slice A2 l.length c2] w fun e w' => e = .returned (.bool true) ∧ Below w.heap.size w w' := by
  unfold maxLen at hl
  have H1 := Lib.hid h1
  have H2 := Lib.hid h2
  clear h1 h2
  go_enter Try.func29, Try.ntmps29
  go_wp2_with fail
  go_loopg [5] l.length (fun kk i wr => ∃ k : Nat, k ≤ l.length ∧ i = .int .i64 k ∧ (∃ n, wr = w.drewN n) ∧ l.length - k ≤ kk)
  case atStart => exact ⟨0, Nat.zero_le _, rfl, ⟨0, rfl⟩, by omega⟩
  case round =>
    obtain ⟨k, hk, rfl, ⟨n, rfl⟩, hkk⟩ := hrel
    by_cases hlt : k < l.length
    · have hlt' : (k : Int) < l.length := by omega
      obtain ⟨ad1, e1, had1, hc1⟩ := H1.out.int hlt
      obtain ⟨ad2, e2, had2, hc2⟩ := H2.out.int hlt
      subst e1
      subst e2
      generalize l[k] = x at *
      go_wp2
      go_quiet (fail)
      go_wp2_with fail
      go_roundg (l.length - (k + 1))
      case measure => omega
      case rel => exact ⟨k + 1, by omega, by go_num, ⟨_, rfl⟩, Nat.le_refl _⟩
    · have hge : ¬ (k : Int) < l.length := by omega
      go_wp2_with fail
      go_ret
      exact ⟨rfl, (Below.refl _ _).drewN' n⟩
end Go.Proofs.Ytncbgnpoffolcaa
