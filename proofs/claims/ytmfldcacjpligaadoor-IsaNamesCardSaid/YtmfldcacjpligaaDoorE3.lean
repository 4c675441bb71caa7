/-
  IsaNames: the walk of the law.
-/
import Derived.Test.YtmfldcacjpligaaDoorE0
namespace Go.Proofs.YtmfldcacjpligaaDoor
open Go.RowKit Go.Sort
set_option maxRecDepth 100000 in
set_option maxHeartbeats 8000000 in
theorem isaNames_any (op : Int) (s : ByteArray) (i : Is.Ins) (w : World) (ht : Tabs w) : Calls Tryd.prog 5 #[.int .i64 op, .string s, insV i] w (Yes w) := by
  have SH := fun W (h : Tabs W) => show_lit i W h
  have RSH := fun W => rshow_lit i W
  obtain ⟨T, eT⟩ : ∃ T : ByteArray, (⟨(Is.text i).toArray⟩ : ByteArray) = T := ⟨_, rfl⟩
  rw [eT] at SH RSH
  clear eT
  obtain ⟨N, eN⟩ : ∃ N : ByteArray, (⟨(Is.name op).toArray⟩ : ByteArray) = N := ⟨_, rfl⟩
  have hN : bytesOf N = Is.name op := by rw [← eN]; rfl
  have NM : ∀ W, Tabs W → Calls Tryd.prog 16 #[.int .i64 op] W fun e w' => e = .returned (.string N) ∧ Below W.heap.size W w' := by
    intro W hW
    have h := name_any op W hW
    unfold NamePost nameV at h
    rw [eN] at h
    exact h
  have C17 : ∀ W, ∃ f : Int, Calls Tryd.prog 17 #[.int .i64 op] W fun e w' => e = .returned (.tuple #[.int .u8 f, .string N]) ∧ W = w' := by
    intro W
    have h := rform_any op W
    unfold nameV at h
    rw [eN] at h
    exact ⟨_, h⟩
  clear eN
  obtain ⟨o, eo⟩ : ∃ o, Is.opOf (bytesOf s) = o := ⟨_, rfl⟩
  have OP : ∀ W, Tabs W → Calls Tryd.prog 19 #[.string s] W fun e w' => e = .returned (.int .i64 o) ∧ Below W.heap.size W w' := by
    intro W hW
    have h := op_any s W hW
    unfold OpPost at h
    rw [eo] at h
    exact h
  have ROP : ∀ W, Calls Tryd.prog 20 #[.string s] W fun e w' => e = .returned (.int .i64 o) ∧ Below W.heap.size W w' := by
    intro W
    have h := rop_any s W
    rw [eo] at h
    exact h.mono fun e w' ⟨he, hw⟩ => ⟨he, by rw [← hw]; exact Below.refl _ _⟩
  clear eo
  have OPN : bytesOf N ≠ [] → ∀ W, Tabs W → Calls Tryd.prog 19 #[.string N] W fun e w' => e = .returned (.int .i64 op) ∧ Below W.heap.size W w' := by
    intro hne W hW
    have h := op_any N W hW
    unfold OpPost at h
    rw [Is.opOf_at hne hN.symm] at h
    exact h
  clear hN
  obtain ⟨iop, ia, ib, ic, im⟩ := i
  unfold insV at SH RSH ⊢
  have hb1 := (Below.refl w.heap.size w).alloc (Nat.le_refl _) (.cells #[.int .i64 iop, .int .i64 ia, .int .i64 ib, .int .i64 ic, .int .i64 im] 23)
  have wa := Whole.made w 23 #[.int .i64 iop, .int .i64 ia, .int .i64 ib, .int .i64 ic, .int .i64 im]
  have HT := Lib.hid (ht.below hb1)
  clear ht
  by_cases hs : 1000 < s.size
  · have hs' : (1000 : Int) < s.size := by omega
    go_enter Tryd.func5, Tryd.ntmps5
    go_wp2_with fail
    refine (alive_any _ HT.out).mono ?_
    rintro e w2 ⟨rfl, hb2⟩
    go_wp2_with fail
    go_ret
    exact ⟨rfl, hb1.trans (hb2.mono (by simp))⟩
  have hs' : ¬ (1000 : Int) < s.size := by omega
  clear hs
  go_enter Tryd.func5, Tryd.ntmps5
  go_wp2_with fail
  refine (alive_any _ HT.out).mono ?_
  rintro e w2 ⟨rfl, hb2⟩
  have hb12 := hb1.trans (hb2.mono (by simp))
  have wa2 := wa.same (hb2.block _ (by simp))
  have T2 := HT.out.below hb2
  have k0 := wa2.cell 0
  have k1 := wa2.cell 1
  have k2 := wa2.cell 2
  have k3 := wa2.cell 3
  have k4 := wa2.cell 4
  simp at k0 k1 k2 k3 k4
  have q0 := fun d os => cell_regrown k0 d os
  have q1 := fun d os => cell_regrown k1 d os
  have q2 := fun d os => cell_regrown k2 d os
  have q3 := fun d os => cell_regrown k3 d os
  have q4 := fun d os => cell_regrown k4 d os
  have cN := fun d os => Calls.regrown_of (NM _ (T2.regrown d os))
  have cO := fun d os => Calls.regrown_of (OP _ (T2.regrown d os))
  have cR := fun d os => Calls.regrown_of (ROP (grow (redrawn w2 d) os))
  have cS := fun d os => Calls.regrown_of (SH _ (T2.regrown d os))
  have cT := fun d os => Calls.regrown_of (RSH (grow (redrawn w2 d) os))
  have cP := fun (hne : bytesOf N ≠ []) d os => Calls.regrown_of (OPN hne _ (T2.regrown d os))
  have CN := Lib.hid cN
  have CO := Lib.hid cO
  have CR := Lib.hid cR
  have CS := Lib.hid cS
  have CT := Lib.hid cT
  have CP0 := Lib.hid cP
  obtain ⟨f, C17'⟩ := C17 w2
  clear wa2 T2 k0 k1 k2 k3 k4 NM OP ROP SH RSH OPN C17 cN cO cR cS cT cP
  go_wp2_with fail
  refine C17'.mono ?_
  rintro e w' ⟨rfl, rfl⟩
  by_cases hne : bytesOf N = []
  · obtain rfl := empty_eq hne
    clear hne CP0
    go_wp2_with fail
    refine wp_region_quiet_below (by kernel_rfl) (by kernel_rfl) ?_
    go_big_quiet_step (fail)
    go_big_quiet_step ((go_at_call 16; exact CN.out _ _))
    go_big_quiet_step (fail)
    go_big_quiet_step (fail)
    go_big_quiet_step (fail)
    go_big_quiet_step (fail)
    go_big_quiet_step ((go_at_call 19; exact CO.out _ _))
    go_big_quiet_step (fail)
    go_big_quiet_step ((go_at_call 20; exact CR.out _ _))
    go_big_quiet_step (fail)
    go_big_quiet_step (fail)
    go_big_quiet_step (fail)
    go_big_quiet_step (fail)
    go_big_quiet_step ((go_at_call 14; exact CS.out _ _))
    go_big_quiet_step (fail)
    go_big_quiet_step ((go_at_call 21; exact CT.out _ _))
    go_big_quiet_step (fail)
    go_big_quiet_step (fail)
    go_big_quiet_step (fail)
    go_big_quiet_step (fail)
    go_big_quiet_step (fail)
    go_big_quiet_step (fail)
    go_big_quiet_step (fail)
    go_big_quiet_step (fail)
    go_big_quiet_step (fail)
    go_big_quiet_step (fail)
    go_big_quiet_step (fail)
    go_big_quiet_step (fail)
    go_big_quiet_step (fail)
    refine wpQuiet_nil ?_
    intro _ hw'
    obtain ⟨⟨dq, osq⟩, hw''⟩ := hw'
    subst hw''
    go_wp2_with fail
    go_ret
    exact ⟨rfl, hb12.trans ((below_regrown w2 dq osq).mono hb12.size)⟩
  · have CP := Lib.hid (CP0.out hne)
    have e0 : N.toList.isEmpty = false := by
      rw [ByteArray.toList_eq]
      exact List.isEmpty_eq_false_iff.2 hne
    have e0'' : ¬ N.toList = [] := by rw [ByteArray.toList_eq]; exact hne
    clear CP0 hne
    go_wp2_with fail
    refine wp_region_quiet_below (by kernel_rfl) (by kernel_rfl) ?_
    go_big_quiet_step (fail)
    go_big_quiet_step ((go_at_call 16; exact CN.out _ _))
    go_big_quiet_step (fail)
    go_big_quiet_step (fail)
    go_big_quiet_step (fail)
    go_big_quiet_step (fail)
    go_big_quiet_step ((go_at_call 19; exact CO.out _ _))
    go_big_quiet_step (fail)
    go_big_quiet_step ((go_at_call 20; exact CR.out _ _))
    go_big_quiet_step (fail)
    go_big_quiet_step (fail)
    go_big_quiet_step (fail)
    go_big_quiet_step (fail)
    go_big_quiet_step ((go_at_call 14; exact CS.out _ _))
    go_big_quiet_step (fail)
    go_big_quiet_step ((go_at_call 21; exact CT.out _ _))
    go_big_quiet_step (fail)
    go_big_quiet_step (fail)
    go_big_quiet_step (fail)
    go_big_quiet_step (fail)
    go_big_quiet_step (fail)
    go_big_quiet_step (fail)
    go_big_quiet_step (fail)
    go_big_quiet_step ((go_at_call 19; exact CP.out _ _))
    go_big_quiet_step (fail)
    go_big_quiet_step (fail)
    go_big_quiet_step (fail)
    go_big_quiet_step (fail)
    go_big_quiet_step (fail)
    refine wpQuiet_nil ?_
    intro _ hw'
    obtain ⟨⟨dq, osq⟩, hw''⟩ := hw'
    subst hw''
    go_wp2_with fail
    go_ret
    exact ⟨rfl, hb12.trans ((below_regrown w2 dq osq).mono hb12.size)⟩
end Go.Proofs.YtmfldcacjpligaaDoor
