/-
  The document's example: the walk of alive.
-/
import Derived.Test.YtncbgnpoffolcaaM18
import Derived.Test.YtncbgnpoffolcaaHas
namespace Go.Proofs.Ytncbgnpoffolcaa
open Go.RowKit
def aliveT : Kn.Table := ⟨[⟨1, [⟨0, 65, 0⟩, ⟨1, 0, 0⟩, ⟨0, 66, 0⟩]⟩, ⟨1, [⟨0, 65, 0⟩, ⟨1, 0, 0⟩, ⟨0, 66, 0⟩]⟩], [], 0, []⟩
theorem alive_fits : aliveT.fits = true := by decide +kernel
theorem alive_run : (Kn.runT aliveT 10 100).out = [65, 65, 66, 66] ∧ (Kn.runT aliveT 10 100).ops = 6 := by decide +kernel
set_option maxRecDepth 100000 in
set_option maxHeartbeats 4000000 in
theorem alive_any (w : World) : Calls Try.prog 19 #[] w fun r w' => r = .returned (.bool true) ∧ Below w.heap.size w w' := by
 have HH := zh (Hs.nil (zr w.heap.size w))
 go_enter Try.func19, Try.ntmps19
 go_wp2_with (first
  | (go_at_call 21; refine (o_any _ _ _ _).mono ?_; rintro e w1 ⟨rfl, hb⟩; (first | replace HH := zh (HH.out.call0 hb) | replace HH := zh (HH.out.call1 hb) | replace HH := zh (HH.out.call2 hb)); (clear hb))
  | (go_at_call 20; refine (t_any _ _ _ _ _).mono ?_; rintro e w1 ⟨rfl, hb⟩; (first | replace HH := zh (HH.out.call0 hb) | replace HH := zh (HH.out.call1 hb) | replace HH := zh (HH.out.call2 hb)); (clear hb)))
 refine (run_good (t := aliveT) (ticks := 10) (ops := 100) ?tab alive_fits (by decide) (by decide)).mono ?_
 case tab =>
  refine ((HH.out.alloc _ _).alloc _ _).tab (rs := [(⟨1, [⟨0, 65, 0⟩, ⟨1, 0, 0⟩, ⟨0, 66, 0⟩]⟩, some ⟨_, 0, none⟩, 3), (⟨1, [⟨0, 65, 0⟩, ⟨1, 0, 0⟩, ⟨0, 66, 0⟩]⟩, some ⟨_, 0, none⟩, 3)]) (.tail _ (.head _)) rfl ?_ ⟨Nat.le_of_ble_eq_true rfl, .inl rfl⟩ ⟨Nat.le_of_ble_eq_true rfl, .inl rfl⟩ (Nat.le_of_ble_eq_true rfl)
  refine List.forall_mem_cons.2 ⟨⟨Nat.le_of_ble_eq_true rfl, .inr ⟨_, rfl, .tail _ (.tail _ (.tail _ (.head _)))⟩⟩, List.forall_mem_cons.2 ⟨⟨Nat.le_of_ble_eq_true rfl, .inr ⟨_, rfl, .tail _ (.tail _ (.head _))⟩⟩, fun _ h => by cases h⟩⟩
 rintro e w9 hR
 obtain ⟨P, Q, R, pn, pc, qn, qc, rn, rc, rfl, hb9, HR⟩ := hR.opened
 obtain ⟨hout, hops⟩ := alive_run
 generalize Kn.runT aliveT 10 100 = k at *
 replace HH := zh (HH.out.call2 hb9)
 clear hb9
 have HO := zh hout
 rw [hops]
 clear hout hops
 go_upto_region 3 with (first | (go_at_call 23; refine (num_any _ _).mono ?_; rintro e w3 ⟨rfl, rfl⟩))
 have hconv := HR.out.conv _ ((zr w9.heap.size w9).alloc (zl _) (.cells #[.slice P pn pc, .slice Q qn qc, .slice R rn rc, .int .i64 k.ticks, .int .i64 6] 36))
 rw [HO.out] at hconv
 go_wp2_with (first | (go_at_call 23; refine (num_any _ _).mono ?_; rintro e w3 ⟨rfl, rfl⟩))

 go_ret
 exact ⟨rfl, HH.out.bel.alloc HH.out.bel.size _⟩
end Go.Proofs.Ytncbgnpoffolcaa
