/-
  KernAnswers: the walk of the law.
-/
import Derived.Test.YtncbgnpoffolcaaAlv
import Derived.Test.YtncbgnpoffolcaaAnsP
namespace Go.Proofs.Ytncbgnpoffolcaa
open Go.RowKit
set_option maxRecDepth 100000 in
set_option maxHeartbeats 4000000 in
theorem kernAnswers_any (a : Int) (w : World) : Calls Try.prog 13 #[.int .i64 a] w fun r w' => r = .returned (.bool true) ∧ Below w.heap.size w w' := by
  by_cases b0 : a < 0
  · as_aux_lemma =>
      go_enter Try.func13, Try.ntmps13
      go_wp2_with fail
      refine (alive_any w).mono ?_
      rintro e w1 ⟨rfl, hb1⟩
      go_wp2_with fail
      go_ret
      exact ⟨rfl, hb1⟩
  by_cases b1 : 15 < a
  · as_aux_lemma =>
      go_enter Try.func13, Try.ntmps13
      go_wp2_with fail
      refine (alive_any w).mono ?_
      rintro e w1 ⟨rfl, hb1⟩
      go_wp2_with fail
      go_ret
      exact ⟨rfl, hb1⟩
  obtain ⟨hfits, hout, htk⟩ := ans_run (id := a) (by omega) (by omega)
  have HF := Lib.hid hfits
  have HO := Lib.hid hout
  have HT := Lib.hid htk
  clear hfits hout htk
  go_enter Try.func13, Try.ntmps13
  go_wp2_with fail
  refine (alive_any w).mono ?_
  rintro e w0 ⟨rfl, hb0⟩
  have HZ := hb0.size
  have HH := Lib.hid (Hs.nil hb0)
  clear hb0
  go_upto_region 5 with fail
  go_wp2_with (first | (go_at_call 21; refine (o_any _ _ _ _).mono ?_; rintro e w1 ⟨rfl, hb⟩; (first | replace HH := Lib.hid (HH.out.call0 hb) | replace HH := Lib.hid (HH.out.call3 hb)); (clear hb)) | (go_at_call 20; refine (t_any _ _ _ _ _).mono ?_; rintro e w1 ⟨rfl, hb⟩; (replace HH := Lib.hid (HH.out.call1 hb)); (clear hb); (have hwh := HH.out.whole (t := 26) (.tail _ (.head _))); (have c0 := hwh.cell 0); (have c1 := hwh.cell 1); (have c2 := hwh.cell 2); (have c3 := hwh.cell 3); (have f0 := hwh.frozen 0); (have hlt := hwh.lt); (simp only [World.size_alloc, List.getElem?_toArray, List.getElem?_cons_zero, List.getElem?_cons_succ] at c0 c1 c2 c3 f0 hlt); (replace hwh := Lib.hid hwh)))
  refine (run_good (t := ansT a) (ticks := 0) (ops := 1000) ?tab HF.out (by decide) (by decide)).mono ?_
  case tab =>
    have h2 := HH.out
    simp only [World.size_alloc] at h2
    refine ((h2.put (t := 26) (.tail _ (.head _)) (by omega) 0 _).alloc_at _ 29 (World.size_setCell _ _ _)).tab (rs := [(⟨0, ansOps a⟩, some ⟨_, 0, none⟩, 16)]) (.head _) rfl ?_ ⟨Nat.le_of_ble_eq_true rfl, .inr ⟨_, rfl, .tail _ (.tail _ (List.mem_filter.2 ⟨.tail _ (.tail _ (.tail _ (.head _))), rfl⟩))⟩⟩ ⟨Nat.le_of_ble_eq_true rfl, .inr ⟨_, rfl, .tail _ (.tail _ (List.mem_filter.2 ⟨.tail _ (.tail _ (.head _)), rfl⟩))⟩⟩ (Nat.le_of_ble_eq_true rfl)
    exact List.forall_mem_cons.2 ⟨⟨Nat.le_of_ble_eq_true rfl, .inr ⟨_, rfl, .tail _ (.tail _ (List.mem_filter.2 ⟨.head _, rfl⟩))⟩⟩, fun _ h => by cases h⟩
  rintro e w9 hR
  obtain ⟨P, Q, R, pn, pc, qn, qc, rn, rc, rfl, hb9, HR⟩ := hR.opened
  generalize Kn.runT (ansT a) 0 1000 = k at *
  have hq := HR.out.tlen
  have hl1 := congrArg List.length HT.out
  rw [List.length_map, List.length_singleton] at hl1
  rw [hl1] at hq
  subst hq
  have hbel := (((HH.out.bel.setCell (p := ⟨w0.heap.size + 1 + 1, 0, none⟩) (by show w.heap.size ≤ w0.heap.size + 1 + 1; omega) (.slice (some ⟨w1.heap.size, 0, none⟩) 1 1)).alloc (by have := HH.out.bel.size; simp; omega) _).trans (hb9.mono (by have := HH.out.bel.size; simp; omega)))
  have HB := Lib.hid hbel
  clear hb9 hbel
  have HC := HR.out.conv _ ((Below.refl w9.heap.size w9).alloc (Nat.le_refl _) (.cells #[.slice P pn pc, .slice Q 1 qc, .slice R rn rc, .int .i64 k.ticks, .int .i64 k.ops] 36))
  have HR2 := HR.out.tasks _ ((Below.refl w9.heap.size w9).alloc (Nat.le_refl _) (.cells #[.slice P pn pc, .slice Q 1 qc, .slice R rn rc, .int .i64 k.ticks, .int .i64 k.ops] 36))
  rw [HT.out] at HR2
  obtain ⟨ad, rfl, hab, hac⟩ := HR2.intAt (k := 0) (by decide)
  have hz9 : ad.add 0 = ad := by cases ad; rfl
  rw [hz9] at hac
  by_cases hpa : 0 < a
  · rw [HO.out, if_pos hpa] at HC
    go_wp2_with (first | (go_at_call 23; refine (num_any _ _).mono ?_; rintro e w3 ⟨rfl, rfl⟩))
    go_ret
    exact ⟨rfl, HB.out.alloc HB.out.size _⟩
  · rw [HO.out, if_neg hpa] at HC
    go_wp2_with (first | (go_at_call 23; refine (num_any _ _).mono ?_; rintro e w3 ⟨rfl, rfl⟩))
    go_ret
    exact ⟨rfl, HB.out.alloc HB.out.size _⟩
end Go.Proofs.Ytncbgnpoffolcaa
