/-
  KernLate: the walk of the law.
-/
import Derived.Test.YtncbgnpoffolcaaAlv
import Derived.Test.YtncbgnpoffolcaaLatP
namespace Go.Proofs.Ytncbgnpoffolcaa
open Go.RowKit
set_option maxRecDepth 100000 in
set_option maxHeartbeats 4000000 in
theorem kernLate_any (a b : Int) (w : World) : Calls Try.prog 12 #[.int .i64 a, .int .i64 b] w fun r w' => r = .returned (.bool true) ∧ Below w.heap.size w w' := by
  by_cases b0 : a < 0
  · as_aux_lemma =>
      go_enter Try.func12, Try.ntmps12
      go_wp2_with fail
      refine (alive_any w).mono ?_
      rintro e w1 ⟨rfl, hb1⟩
      go_wp2_with fail
      go_ret
      exact ⟨rfl, hb1⟩
  by_cases b1 : 50 < a
  · as_aux_lemma =>
      go_enter Try.func12, Try.ntmps12
      go_wp2_with fail
      refine (alive_any w).mono ?_
      rintro e w1 ⟨rfl, hb1⟩
      go_wp2_with fail
      go_ret
      exact ⟨rfl, hb1⟩
  by_cases b2 : b < 1
  · as_aux_lemma =>
      go_enter Try.func12, Try.ntmps12
      go_wp2_with fail
      refine (alive_any w).mono ?_
      rintro e w1 ⟨rfl, hb1⟩
      go_wp2_with fail
      go_ret
      exact ⟨rfl, hb1⟩
  by_cases b3 : 50 < b
  · as_aux_lemma =>
      go_enter Try.func12, Try.ntmps12
      go_wp2_with fail
      refine (alive_any w).mono ?_
      rintro e w1 ⟨rfl, hb1⟩
      go_wp2_with fail
      go_ret
      exact ⟨rfl, hb1⟩
  by_cases b4 : a = b
  · have e4 : (a == b) = true := by simpa using b4
    as_aux_lemma =>
      go_enter Try.func12, Try.ntmps12
      go_wp2_with fail
      refine (alive_any w).mono ?_
      rintro e w1 ⟨rfl, hb1⟩
      go_wp2_with fail
      go_ret
      exact ⟨rfl, hb1⟩
  obtain ⟨x, rfl⟩ := Int.eq_ofNat_of_zero_le (show 0 ≤ a by omega)
  obtain ⟨y, rfl⟩ := Int.eq_ofNat_of_zero_le (show 0 ≤ b by omega)
  have HF := Lib.hid (Kn.late_fits (w := x) (g := y) (by omega) (by omega) (by omega) (by omega))
  have e4 : ((x : Int) == (y : Int)) = false := by simpa using b4
  go_enter Try.func12, Try.ntmps12
  go_wp2_with fail
  refine (alive_any w).mono ?_
  rintro e w0 ⟨rfl, hb0⟩
  have HH := Lib.hid (Hs.nil hb0)
  clear hb0
  go_wp2_with (first
    | (go_at_call 21; refine (o_any _ _ _ _).mono ?_; rintro e w1 ⟨rfl, hb⟩; (first | replace HH := Lib.hid (HH.out.call0 hb) | replace HH := Lib.hid (HH.out.call1 hb) | replace HH := Lib.hid (HH.out.call2 hb)); (clear hb))
    | (go_at_call 20; refine (t_any _ _ _ _ _).mono ?_; rintro e w1 ⟨rfl, hb⟩; (first | replace HH := Lib.hid (HH.out.call0 hb) | replace HH := Lib.hid (HH.out.call1 hb) | replace HH := Lib.hid (HH.out.call2 hb)); (clear hb)))
  refine (run_to (t := Kn.lateT x y) (T := 200) (O := 1000) (ticks := 200) (ops := 1000) (by omega) (by omega) ?tab HF.out (by decide) (by decide)).mono ?_
  case tab =>
    refine ((HH.out.alloc _ _).alloc _ _).tab (rs := [(Kn.lateF x y 0, some ⟨_, 0, none⟩, 2), (Kn.lateF x y 1, some ⟨_, 0, none⟩, 2)]) (.tail _ (.head _)) rfl ?_ ⟨Nat.le_of_ble_eq_true rfl, .inr ⟨_, rfl, .tail _ (.tail _ (.tail _ (.tail _ (.head _))))⟩⟩ ⟨Nat.le_of_ble_eq_true rfl, .inl rfl⟩ (Nat.le_of_ble_eq_true rfl)
    refine List.forall_mem_cons.2 ⟨⟨Nat.le_of_ble_eq_true rfl, .inr ⟨_, rfl, .tail _ (.tail _ (.tail _ (.head _)))⟩⟩, List.forall_mem_cons.2 ⟨⟨Nat.le_of_ble_eq_true rfl, .inr ⟨_, rfl, .tail _ (.tail _ (.head _))⟩⟩, fun _ h => by cases h⟩⟩
  rintro e w9 hR
  obtain ⟨P, Q, R, pn, pc, qn, qc, rn, rc, rfl, hb9, HR⟩ := hR.opened
  have HO := Lib.hid (Kn.late_run (w := x) (g := y) (by omega) (by omega) (by omega) (by omega))
  generalize Kn.runT (Kn.lateT x y) 200 1000 = k at *
  replace HH := Lib.hid (HH.out.call2 hb9)
  clear hb9 hR
  have hconv := HR.out.conv _ ((Below.refl w9.heap.size w9).alloc (Nat.le_refl _) (.cells #[.slice P pn pc, .slice Q qn qc, .slice R rn rc, .int .i64 k.ticks, .int .i64 k.ops] 36))
  rw [HO.out] at hconv
  clear HO
  by_cases hab : y < x
  · have hab2 : (y : Int) < x := by omega
    rw [if_pos hab] at hconv
    go_wp2_with (first | (go_at_call 23; refine (num_any _ _).mono ?_; rintro e w3 ⟨rfl, rfl⟩))
    go_ret
    exact ⟨rfl, HH.out.bel.alloc HH.out.bel.size _⟩
  · have hab2 : ¬ (y : Int) < x := by omega
    rw [if_neg hab] at hconv
    go_wp2_with (first | (go_at_call 23; refine (num_any _ _).mono ?_; rintro e w3 ⟨rfl, rfl⟩))
    go_ret
    exact ⟨rfl, HH.out.bel.alloc HH.out.bel.size _⟩
end Go.Proofs.Ytncbgnpoffolcaa
