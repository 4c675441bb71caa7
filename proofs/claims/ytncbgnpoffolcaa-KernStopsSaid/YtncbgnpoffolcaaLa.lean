/-
  The laws' small functions: num, O, T: the walks.
-/
import Derived.Test.YtncbgnpoffolcaaM17
import Derived.Test.YtncbgnpoffolcaaM3
namespace Go.Proofs.Ytncbgnpoffolcaa
open Go.RowKit
theorem num_any (e : Int) (w : World) : Calls Try.prog 23 #[.int .i64 e] w fun r w' => r = .returned (.int .i64 e) ∧ w = w' := by
  go_enter Try.func23, Try.ntmps23
  go_wp2
  go_ret
  exact ⟨rfl, rfl⟩
theorem results_one {fn : Func} {p : Tmp} {ty : TypeId} (h : fn.results = #[.cell p ty]) (tmps : Array Value) (w : World) (g : Nat) (t : TypeId) (cs : Array Value) (fr : Nat × Nat) (fs : Array Field)
    (hp : tmps.getD p undef = .pointer (some ⟨g, 0, none⟩)) (hg : w.heap[g]? = some (.cells cs t fr))
    (hu : Try.prog.underlying ty = some (.struct fs)) (hi : (Try.prog.info? ty).map (·.size) = some cs.size) :
    (results fn tmps).run Try.prog w = .ok (.agg cs) w := by
  have hp' : tmps[p]?.getD undef = .pointer (some ⟨g, 0, none⟩) := by simpa using hp
  simp [results, h, hp', asAddr, run_loadVar_row w g t ty cs fr (.struct fs) hg hu rfl hi]
set_option maxRecDepth 100000 in
theorem o_any (kd a b : Int) (w : World) : Calls Try.prog 21 #[.int .i64 kd, .int .i64 a, .int .i64 b] w fun r w' => r = .returned (.agg #[.int .i64 kd, .int .i64 a, .int .i64 b]) ∧ Below w.heap.size w w' := by
  go_enter Try.func21, Try.ntmps21
  go_wp2_with fail
  exact bodyPost_ret (results_one rfl _ _ w.heap.size 32 _ (0, 0) _ rfl (Whole.made w 32 #[.int .i64 kd, .int .i64 a, .int .i64 b]) Try.underlying32 (by kernel_rfl)) rfl ⟨rfl, (Below.refl _ _).alloc (Nat.le_refl _) _⟩
set_option maxRecDepth 100000 in
theorem t_any (p : Int) (A : Option Addr) (n c : Nat) (w : World) : Calls Try.prog 20 #[.int .i64 p, .slice A n c] w fun r w' => r = .returned (.agg #[.int .i64 p, .slice A n c]) ∧ Below w.heap.size w w' := by
  go_enter Try.func20, Try.ntmps20
  go_wp2_with fail
  exact bodyPost_ret (results_one rfl _ _ w.heap.size 29 _ (0, 0) _ rfl (Whole.made w 29 #[.int .i64 p, .slice A n c]) Try.underlying29 (by kernel_rfl)) rfl ⟨rfl, (Below.refl _ _).alloc (Nat.le_refl _) _⟩
end Go.Proofs.Ytncbgnpoffolcaa
