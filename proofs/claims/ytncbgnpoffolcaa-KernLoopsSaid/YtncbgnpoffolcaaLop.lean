/-
  KernLoops: the walk of the law.
-/
import Derived.Test.YtncbgnpoffolcaaAlv
import Derived.Test.YtncbgnpoffolcaaLopP
namespace Go.Proofs.Ytncbgnpoffolcaa
open Go.RowKit
theorem u8_ne {v c : UInt8} (h : v ≠ c) : ((v.toNat : Int) == (c.toNat : Int)) = false := by
  rw [beq_eq_false_iff_ne]
  intro e
  exact h (UInt8.toNat_inj.1 (by omega))
theorem count_take_succ {l : List UInt8} {j : Nat} (h : j < l.length) (v : UInt8) : (l.take (j + 1)).count v = (l.take j).count v + if l[j] = v then 1 else 0 := by
  rw [List.take_succ_eq_append_getElem h, List.count_append, List.count_singleton]
  by_cases e : l[j] = v
  · simp [e]
  · simp [e]
set_option maxRecDepth 100000 in
set_option maxHeartbeats 4000000 in
theorem kernLoops_any (a b c : Int) (w : World) : Calls Try.prog 15 #[.int .i64 a, .int .i64 b, .int .i64 c] w fun r w' => r = .returned (.bool true) ∧ Below w.heap.size w w' := by
  by_cases b0 : a < 1
  · as_aux_lemma =>
      go_enter Try.func15, Try.ntmps15
      go_wp2_with fail
      refine (alive_any w).mono ?_
      rintro e w1 ⟨rfl, hb1⟩
      go_wp2_with fail
      go_ret
      exact ⟨rfl, hb1⟩
  by_cases b1 : 10 < a
  · as_aux_lemma =>
      go_enter Try.func15, Try.ntmps15
      go_wp2_with fail
      refine (alive_any w).mono ?_
      rintro e w1 ⟨rfl, hb1⟩
      go_wp2_with fail
      go_ret
      exact ⟨rfl, hb1⟩
  by_cases b2 : b < 1
  · as_aux_lemma =>
      go_enter Try.func15, Try.ntmps15
      go_wp2_with fail
      refine (alive_any w).mono ?_
      rintro e w1 ⟨rfl, hb1⟩
      go_wp2_with fail
      go_ret
      exact ⟨rfl, hb1⟩
  by_cases b3 : 10 < b
  · as_aux_lemma =>
      go_enter Try.func15, Try.ntmps15
      go_wp2_with fail
      refine (alive_any w).mono ?_
      rintro e w1 ⟨rfl, hb1⟩
      go_wp2_with fail
      go_ret
      exact ⟨rfl, hb1⟩
  by_cases b4 : c < 1
  · as_aux_lemma =>
      go_enter Try.func15, Try.ntmps15
      go_wp2_with fail
      refine (alive_any w).mono ?_
      rintro e w1 ⟨rfl, hb1⟩
      go_wp2_with fail
      go_ret
      exact ⟨rfl, hb1⟩
  by_cases b5 : 10 < c
  · as_aux_lemma =>
      go_enter Try.func15, Try.ntmps15
      go_wp2_with fail
      refine (alive_any w).mono ?_
      rintro e w1 ⟨rfl, hb1⟩
      go_wp2_with fail
      go_ret
      exact ⟨rfl, hb1⟩
  obtain ⟨A, rfl⟩ := Int.eq_ofNat_of_zero_le (show 0 ≤ a by omega)
  obtain ⟨B, rfl⟩ := Int.eq_ofNat_of_zero_le (show 0 ≤ b by omega)
  obtain ⟨C, rfl⟩ := Int.eq_ofNat_of_zero_le (show 0 ≤ c by omega)
  have HF := Lib.hid (Kn.loops_fits (a := A) (b := B) (c := C) (by omega) (by omega) (by omega) (by omega) (by omega) (by omega))
  go_enter Try.func15, Try.ntmps15
  go_wp2_with fail
  refine (alive_any w).mono ?_
  rintro e w0 ⟨rfl, hb0⟩
  have HH := Lib.hid (Hs.nil hb0)
  clear hb0
  go_wp2_with (first
    | (go_at_call 21; refine (o_any _ _ _ _).mono ?_; rintro e w1 ⟨rfl, hb⟩; (first | replace HH := Lib.hid (HH.out.call0 hb) | replace HH := Lib.hid (HH.out.call1 hb) | replace HH := Lib.hid (HH.out.call2 hb)); (clear hb))
    | (go_at_call 20; refine (t_any _ _ _ _ _).mono ?_; rintro e w1 ⟨rfl, hb⟩; (first | replace HH := Lib.hid (HH.out.call0 hb) | replace HH := Lib.hid (HH.out.call1 hb) | replace HH := Lib.hid (HH.out.call2 hb)); (clear hb)))
  refine (run_to (t := Kn.loopsT A B C) (T := 0) (O := 100000) (ticks := 0) (ops := 100000) (by omega) (by omega) ?tab HF.out (by decide) (by decide)).mono ?_
  case tab =>
    refine ((HH.out.alloc _ _).alloc _ _).tab (rs := [(Kn.loopsF A B C, some ⟨_, 0, none⟩, 6)]) (.tail _ (.head _)) rfl ?_ ⟨Nat.le_of_ble_eq_true rfl, .inl rfl⟩ ⟨Nat.le_of_ble_eq_true rfl, .inl rfl⟩ (Nat.le_of_ble_eq_true rfl)
    exact List.forall_mem_cons.2 ⟨⟨Nat.le_of_ble_eq_true rfl, .inr ⟨_, rfl, .tail _ (.tail _ (.head _))⟩⟩, fun _ h => by cases h⟩
  rintro e w9 hR
  have HO := Lib.hid (Kn.loops_run (A := A) (B := B) (C := C) (by omega) (by omega) (by omega) (by omega) (by omega) (by omega))
  have HN := Lib.hid (Kn.loops_counts A B C)
  obtain ⟨P, Q, R, pn, pc, qn, qc, rn, rc, rfl, hb9, HR⟩ := hR.opened
  replace HH := Lib.hid (HH.out.call2 hb9)
  clear hb9
  have hout : Hid ((Kn.runT (Kn.loopsT A B C) 0 100000).out = Kn.rep (Kn.zUnit A B) (C + 1)) := HO
  generalize Kn.runT (Kn.loopsT A B C) 0 100000 = k at *
  have hpn : pn = k.out.length := HR.out.len
  obtain ⟨l, hl⟩ : ∃ l, l = k.out := ⟨_, rfl⟩
  have hm1 : (A + 1) * (B + 1) ≤ 11 * 11 := Nat.mul_le_mul (by omega) (by omega)
  have hm2 : (A + 1) * (B + 1) * (C + 1) ≤ 11 * 11 * 11 := Nat.mul_le_mul hm1 (by omega)
  have hm3 : (B + 1) * (C + 1) ≤ 11 * 11 := Nat.mul_le_mul (by omega) (by omega)
  have hlen : l.length ≤ 2000 := by
    have := HN.out.2.2.2
    rw [hl, hout.out, this]
    omega
  have HK : Hid (l.count 120 = (A + 1) * (B + 1) * (C + 1) ∧ l.count 121 = (B + 1) * (C + 1) ∧ l.count 122 = C + 1) := by
    refine Lib.hid ?_
    rw [hl, hout.out]
    exact ⟨HN.out.1, HN.out.2.1, HN.out.2.2.1⟩
  have HBY : Hid (∀ W, Below w9.heap.size w9 W → ∀ j (h : j < l.length), ∃ ad : Addr, P = some ad ∧ ad.block < w9.heap.size ∧ W.cell? (ad.add j) = some (.int .u8 l[j].toNat)) := by
    refine Lib.hid ?_
    subst hl
    exact HR.out.bytes
  rw [← hl] at hpn
  subst hpn
  clear hR hl hout HO HR HN hm1 hm2 hm3
  go_wp2_with fail
  go_loopg [11, 12, 13, 14] l.length (fun kk x y z i wr => ∃ (j : Nat), j ≤ l.length ∧ i = .int .i64 j ∧ x = .int .i64 ((l.take j).count 120 : Nat) ∧ y = .int .i64 ((l.take j).count 121 : Nat) ∧ z = .int .i64 ((l.take j).count 122 : Nat) ∧
    wr = w9.alloc (.cells #[.slice P l.length pc, .slice Q qn qc, .slice R rn rc, .int .i64 k.ticks, .int .i64 k.ops] 36) ∧ l.length - j ≤ kk)
  case atStart => exact ⟨0, Nat.zero_le _, rfl, by simp, by simp, by simp, rfl, by omega⟩
  case round =>
    obtain ⟨j, hj, rfl, rfl, rfl, rfl, rfl, hkk⟩ := hrel
    by_cases hlt : j < l.length
    · have hlt' : (j : Int) < l.length := by omega
      obtain ⟨ad, eP, hab, hac⟩ := HBY.out _ ((Below.refl w9.heap.size w9).alloc (Nat.le_refl _) (.cells #[.slice P l.length pc, .slice Q qn qc, .slice R rn rc, .int .i64 k.ticks, .int .i64 k.ops] 36)) j hlt
      subst eP
      have C0 : Hid (∀ v, (l.take (j + 1)).count v = (l.take j).count v + if l[j] = v then 1 else 0) := Lib.hid fun v => count_take_succ hlt v
      have B0 : Hid (∀ v : UInt8, (l.take j).count v ≤ j) := Lib.hid fun v => Nat.le_trans List.count_le_length (by rw [List.length_take]; omega)
      have q0 := B0.out 120
      have q1 := B0.out 121
      have q2 := B0.out 122
      generalize l[j] = v at *
      have hall : Hid (((l.take (j + 1)).count 120 = (l.take j).count 120 + if v = 120 then 1 else 0) ∧ ((l.take (j + 1)).count 121 = (l.take j).count 121 + if v = 121 then 1 else 0) ∧ ((l.take (j + 1)).count 122 = (l.take j).count 122 + if v = 122 then 1 else 0)) := Lib.hid ⟨C0.out 120, C0.out 121, C0.out 122⟩
      clear C0 B0
      rcases (show v = 120 ∨ v = 121 ∨ v = 122 ∨ (v ≠ 120 ∧ v ≠ 121 ∧ v ≠ 122) by
        by_cases h0 : v = 120
        · exact .inl h0
        by_cases h1 : v = 121
        · exact .inr (.inl h1)
        by_cases h2 : v = 122
        · exact .inr (.inr (.inl h2))
        exact .inr (.inr (.inr ⟨h0, h1, h2⟩))) with e | e | e | ⟨n0, n1, n2⟩
      · subst e
        obtain ⟨k0, k1, k2⟩ := hall.out
        rw [if_pos rfl] at k0
        rw [if_neg (by decide), Nat.add_zero] at k1
        rw [if_neg (by decide), Nat.add_zero] at k2
        replace k0 := Lib.hid k0
        replace k1 := Lib.hid k1
        replace k2 := Lib.hid k2
        clear hall
        go_wp2_with fail
        go_roundg (l.length - (j + 1))
        case measure => omega
        case rel => exact ⟨j + 1, by omega, by go_num, by rw [k0.out]; go_num, by rw [k1.out]; go_num, by rw [k2.out]; go_num, rfl, Nat.le_refl _⟩
      · subst e
        obtain ⟨k0, k1, k2⟩ := hall.out
        rw [if_neg (by decide), Nat.add_zero] at k0
        rw [if_pos rfl] at k1
        rw [if_neg (by decide), Nat.add_zero] at k2
        replace k0 := Lib.hid k0
        replace k1 := Lib.hid k1
        replace k2 := Lib.hid k2
        clear hall
        go_wp2_with fail
        go_roundg (l.length - (j + 1))
        case measure => omega
        case rel => exact ⟨j + 1, by omega, by go_num, by rw [k0.out]; go_num, by rw [k1.out]; go_num, by rw [k2.out]; go_num, rfl, Nat.le_refl _⟩
      · subst e
        obtain ⟨k0, k1, k2⟩ := hall.out
        rw [if_neg (by decide), Nat.add_zero] at k0
        rw [if_neg (by decide), Nat.add_zero] at k1
        rw [if_pos rfl] at k2
        replace k0 := Lib.hid k0
        replace k1 := Lib.hid k1
        replace k2 := Lib.hid k2
        clear hall
        go_wp2_with fail
        go_roundg (l.length - (j + 1))
        case measure => omega
        case rel => exact ⟨j + 1, by omega, by go_num, by rw [k0.out]; go_num, by rw [k1.out]; go_num, by rw [k2.out]; go_num, rfl, Nat.le_refl _⟩
      · have e0 : ((v.toNat : Int) == 120) = false := u8_ne n0
        have e1 : ((v.toNat : Int) == 121) = false := u8_ne n1
        have e2 : ((v.toNat : Int) == 122) = false := u8_ne n2
        obtain ⟨k0, k1, k2⟩ := hall.out
        rw [if_neg n0, Nat.add_zero] at k0
        rw [if_neg n1, Nat.add_zero] at k1
        rw [if_neg n2, Nat.add_zero] at k2
        replace k0 := Lib.hid k0
        replace k1 := Lib.hid k1
        replace k2 := Lib.hid k2
        clear hall
        go_wp2_with fail
        go_roundg (l.length - (j + 1))
        case measure => omega
        case rel => exact ⟨j + 1, by omega, by go_num, by rw [k0.out]; go_num, by rw [k1.out]; go_num, by rw [k2.out]; go_num, rfl, Nat.le_refl _⟩
    · have hge : ¬ (j : Int) < l.length := by omega
      have hjl : j = l.length := by omega
      subst hjl
      rw [List.take_length]
      obtain ⟨k0, k1, k2⟩ := HK.out
      rw [k0, k1, k2]
      have w1 : ((((A + 1) * (B + 1) * (C + 1) : Nat)) : Int) = ((A : Int) + 1) * ((B : Int) + 1) * ((C : Int) + 1) := by push_cast; rfl
      have w2 : ((((B + 1) * (C + 1) : Nat)) : Int) = ((B : Int) + 1) * ((C : Int) + 1) := by push_cast; rfl
      have g1 : IntKind.i64.wrap ((A : Int) + 1) = (A : Int) + 1 := by rw [IntKind.wrap_i64]; omega
      have g2 : IntKind.i64.wrap ((B : Int) + 1) = (B : Int) + 1 := by rw [IntKind.wrap_i64]; omega
      have g3 : IntKind.i64.wrap ((C : Int) + 1) = (C : Int) + 1 := by rw [IntKind.wrap_i64]; omega
      have hm1 : (A + 1) * (B + 1) ≤ 11 * 11 := Nat.mul_le_mul (by omega) (by omega)
      have hm2 : (A + 1) * (B + 1) * (C + 1) ≤ 11 * 11 * 11 := Nat.mul_le_mul hm1 (by omega)
      have hm3 : (B + 1) * (C + 1) ≤ 11 * 11 := Nat.mul_le_mul (by omega) (by omega)
      have w0 : (((A + 1) * (B + 1) : Nat) : Int) = ((A : Int) + 1) * ((B : Int) + 1) := by push_cast; rfl
      have g4 : IntKind.i64.wrap (((A : Int) + 1) * ((B : Int) + 1)) = (((A + 1) * (B + 1) : Nat) : Int) := by rw [← w0, IntKind.wrap_i64]; omega
      have g5 : IntKind.i64.wrap (((B : Int) + 1) * ((C : Int) + 1)) = (((B + 1) * (C + 1) : Nat) : Int) := by rw [← w2, IntKind.wrap_i64]; omega
      have g6 : IntKind.i64.wrap ((((A + 1) * (B + 1) : Nat) : Int) * ((C : Int) + 1)) = (((A + 1) * (B + 1) * (C + 1) : Nat) : Int) := by rw [w0, ← w1, IntKind.wrap_i64]; omega
      generalize (((A + 1) * (B + 1) * (C + 1) : Nat)) = X at *
      generalize (((B + 1) * (C + 1) : Nat)) = Y at *
      generalize (((A + 1) * (B + 1) : Nat)) = Z at *
      clear w0 w1 w2 hm1 hm2 hm3
      go_wp2_with (first | (go_at_call 23; refine (num_any _ _).mono ?_; rintro e w3 ⟨rfl, rfl⟩))
      go_ret
      exact ⟨rfl, HH.out.bel.alloc HH.out.bel.size _⟩
end Go.Proofs.Ytncbgnpoffolcaa
