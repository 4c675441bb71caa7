/-
  IsaFields: the walk of the law.
-/
import Derived.Test.YtmfldcacjpligaaDoorE2
namespace Go.Proofs.YtmfldcacjpligaaDoor
open Go.RowKit
set_option maxRecDepth 100000 in
set_option maxHeartbeats 4000000 in
theorem fields_far (i : Is.Ins) (bit : Int) (w : World) (ht : Tabs w) (h : bit < 0 ∨ 31 < bit ∨ (Is.enc i).2 ≠ 0) : Calls Tryd.prog 9 #[insV i, .int .i64 bit] w (Yes w) := by
  obtain ⟨⟨x, e⟩, hx⟩ : ∃ p, Is.enc i = p := ⟨_, rfl⟩
  have CI := renc_lit hx
  rw [hx] at h
  dsimp only at h
  have key : (e != 0) = true ∨ ((e != 0) = false ∧ decide (bit < 0) = true) ∨ ((e != 0) = false ∧ decide (bit < 0) = false ∧ decide (31 < bit) = true) := by
    by_cases he : e = 0
    · subst he
      rcases h with h | h | h
      · exact .inr (.inl ⟨rfl, decide_eq_true h⟩)
      · exact .inr (.inr ⟨rfl, decide_eq_false (by omega), decide_eq_true h⟩)
      · exact absurd rfl h
    · exact .inl (by rw [bne_iff_ne]; exact he)
  clear h hx
  obtain ⟨op, a, b, c, m⟩ := i
  unfold insV at CI ⊢
  have hb1 := (Below.refl w.heap.size w).alloc (Nat.le_refl _) (.cells #[.int .i64 op, .int .i64 a, .int .i64 b, .int .i64 c, .int .i64 m] 23)
  have wa := Whole.made w 23 #[.int .i64 op, .int .i64 a, .int .i64 b, .int .i64 c, .int .i64 m]
  have HT := Lib.hid (ht.below hb1)
  clear ht
  rcases key with d0 | ⟨d0, d1⟩ | ⟨d0, d1, d2⟩
  all_goals
    go_enter Tryd.func9, Tryd.ntmps9
    go_wp2_with fail
    refine (alive_any _ HT.out).mono ?_
    rintro e w2 ⟨rfl, hb2⟩
    have hb12 := hb1.trans (hb2.mono (by simp))
    have hz2 := hb12.size
    have wa2 := wa.same (hb2.block _ (by simp))
    have k0 := wa2.cell 0
    have k1 := wa2.cell 1
    have k2 := wa2.cell 2
    have k3 := wa2.cell 3
    have k4 := wa2.cell 4
    simp at k0 k1 k2 k3 k4
    go_wp2_with fail
    refine (CI _).mono ?_
    rintro e w3 ⟨rfl, hb3⟩
    have hb13 := hb12.trans (hb3.mono hz2)
    go_wp2_with fail
    go_ret
    exact ⟨rfl, hb13⟩
def FK (ci g bit op a b m op' a' b' m' : Int) : Prop :=
  (g = 5 ∧ ci = 82 ∧ bit < 12) ∨ (g = 5 ∧ ci = 78 ∧ bit < 24) ∨ (g = 5 ∧ ci = 76 ∧ 16 ≤ bit ∧ bit < 20) ∨ (g = 5 ∧ ci = 67 ∧ 16 ≤ bit ∧ bit < 20)
  ∨ (g = 0 ∧ op' = op ∧ b' = b ∧ m' = m ∧ bits .xor .i64 a (2 ^ (bit - 20).toNat) = a' ∧ 20 ≤ bit ∧ bit < 24 ∧ ci = 82)
  ∨ (g = 0 ∧ op' = op ∧ b' = b ∧ m' = m ∧ bits .xor .i64 a (2 ^ (bit - 20).toNat) = a' ∧ 20 ≤ bit ∧ bit < 24 ∧ ci = 76)
  ∨ (g = 0 ∧ op' = op ∧ b' = b ∧ m' = m ∧ bits .xor .i64 a (2 ^ (bit - 20).toNat) = a' ∧ 20 ≤ bit ∧ bit < 24 ∧ ci = 67)
  ∨ (g = 0 ∧ op' = op ∧ b' = b ∧ m' = m ∧ bits .xor .i64 a (2 ^ (bit - 20).toNat) = a' ∧ 20 ≤ bit ∧ bit < 24 ∧ ci ≠ 82 ∧ ci ≠ 78 ∧ ci ≠ 76 ∧ ci ≠ 67)
  ∨ (ci = 82 ∧ 12 ≤ bit ∧ bit < 20) ∨ (ci = 82 ∧ 24 ≤ bit) ∨ (ci = 78 ∧ 24 ≤ bit) ∨ (ci = 76 ∧ bit < 16) ∨ (ci = 76 ∧ 24 ≤ bit) ∨ (ci = 67 ∧ bit < 16) ∨ (ci = 67 ∧ 24 ≤ bit)
  ∨ (bit < 20 ∧ ci ≠ 82 ∧ ci ≠ 78 ∧ ci ≠ 76 ∧ ci ≠ 67) ∨ (24 ≤ bit ∧ ci ≠ 82 ∧ ci ≠ 78 ∧ ci ≠ 76 ∧ ci ≠ 67)
theorem pow_small {k : Nat} (h : k ≤ 31) : (2 : Int) ^ k ≤ 2147483648 ∧ 0 < (2 : Int) ^ k := by
  have h1 := Nat.pow_le_pow_right (n := 2) (by decide) h
  have h2 := Nat.pow_pos (n := k) (show 0 < 2 by decide)
  have e : ((2 ^ k : Nat) : Int) = (2 : Int) ^ k := by push_cast; rfl
  have e2 : (2 ^ 31 : Nat) = 2147483648 := by decide
  rw [← e]
  exact ⟨by omega, by omega⟩
set_option maxRecDepth 100000 in
set_option maxHeartbeats 4000000 in
theorem fields_near (op a b c m x bit F op' a' b' c' m' g ci : Int) (cd : UInt8) (w : World) (ht : Tabs w) (hx : Is.enc ⟨op, a, b, c, m⟩ = (x, 0)) (f : Is.form op = cd) (h0 : 0 ≤ bit) (h31 : bit ≤ 31)
    (hF : bits .xor .i64 x (2 ^ bit.toNat) = F) (D : decR F = (⟨op', a', b', c', m'⟩, g)) (hci : (cd.toNat : Int) = ci) (K : FK ci g bit op a b m op' a' b' m') : Calls Tryd.prog 9 #[insV ⟨op, a, b, c, m⟩, .int .i64 bit] w (Yes w) := by
  have CI := renc_lit hx
  have C17 : ∀ W, Calls Tryd.prog 17 #[.int .i64 op] W fun e w' => e = .returned (.tuple #[.int .u8 (cd.toNat : Int), nameV op]) ∧ W = w' := fun W => form_lit f W
  have C22 := decode_lit D
  have C23 := rdecode_lit D
  rw [hci] at C17
  have KK := Lib.hid K
  unfold insV at CI C22 C23 ⊢
  have hb1 := (Below.refl w.heap.size w).alloc (Nat.le_refl _) (.cells #[.int .i64 op, .int .i64 a, .int .i64 b, .int .i64 c, .int .i64 m] 23)
  have wa := Whole.made w 23 #[.int .i64 op, .int .i64 a, .int .i64 b, .int .i64 c, .int .i64 m]
  have HT := Lib.hid (ht.below hb1)
  clear ht hx f D K
  have d1 : decide (bit < 0) = false := decide_eq_false (by omega)
  have d2 : decide (31 < bit) = false := decide_eq_false (by omega)
  have wu : IntKind.u64.wrap bit = bit := by rw [IntKind.wrap_u64]; omega
  have hP : (2 : Int) ^ bit.toNat ≤ 2147483648 ∧ 0 < (2 : Int) ^ bit.toNat := pow_small (by omega)
  obtain ⟨P, eP⟩ : ∃ P, (2 : Int) ^ bit.toNat = P := ⟨_, rfl⟩
  rw [eP] at hP hF
  have hm : min bit.toNat 64 = bit.toNat := by omega
  have ws : IntKind.i64.wrap P = P := by rw [IntKind.wrap_i64]; omega
  have hP0 := hP.1
  have hP1 := hP.2
  clear hP
  go_enter Tryd.func9, Tryd.ntmps9
  go_wp2_with fail
  refine (alive_any _ HT.out).mono ?_
  rintro e w2 ⟨rfl, hb2⟩
  have hb12 := hb1.trans (hb2.mono (by simp))
  have hz2 := hb12.size
  have wa2 := wa.same (hb2.block _ (by simp))
  have k0 := wa2.cell 0
  have k1 := wa2.cell 1
  have k2 := wa2.cell 2
  have k3 := wa2.cell 3
  have k4 := wa2.cell 4
  simp at k0 k1 k2 k3 k4
  go_wp2_with fail
  refine (CI _).mono ?_
  rintro e w3 ⟨rfl, hb3⟩
  have hb13 := hb12.trans (hb3.mono hz2)
  have wa3 := wa2.same (hb3.block _ wa2.lt)
  clear k0 k1 k2 k3 k4
  have k0 := wa3.cell 0
  have k1 := wa3.cell 1
  have k2 := wa3.cell 2
  have k3 := wa3.cell 3
  have k4 := wa3.cell 4
  simp at k0 k1 k2 k3 k4
  go_wp2_with fail
  refine (C17 _).mono ?_
  rintro e w' ⟨rfl, rfl⟩
  go_wp2_with fail
  refine (C22 _).mono ?_
  rintro e w4 ⟨rfl, hb4⟩
  have hb14 := (hb13.trans (hb4.mono hb13.size)).alloc (hb13.trans (hb4.mono hb13.size)).size (.cells #[.int .i64 op', .int .i64 a', .int .i64 b', .int .i64 c', .int .i64 m'] 23)
  have wa4 := (wa3.same (hb4.block _ wa3.lt)).alloc (.cells #[.int .i64 op', .int .i64 a', .int .i64 b', .int .i64 c', .int .i64 m'] 23)
  have wj4 := Whole.made w4 23 #[.int .i64 op', .int .i64 a', .int .i64 b', .int .i64 c', .int .i64 m']
  go_wp2_with fail
  refine (C23 _).mono ?_
  rintro e w5 ⟨rfl, hb5⟩
  have hb15 := hb14.trans (hb5.mono hb14.size)
  have wa5 := wa4.same (hb5.block _ wa4.lt)
  have wj5 := wj4.same (hb5.block _ wj4.lt)
  clear k0 k1 k2 k3 k4
  have k0 := wa5.cell 0
  have k1 := wa5.cell 1
  have k2 := wa5.cell 2
  have k3 := wa5.cell 3
  have k4 := wa5.cell 4
  have l0 := wj5.cell 0
  have l1 := wj5.cell 1
  have l2 := wj5.cell 2
  have l3 := wj5.cell 3
  have l4 := wj5.cell 4
  simp at k0 k1 k2 k3 k4 l0 l1 l2 l3 l4
  have hlt : w.heap.size < w5.heap.size := wa5.lt
  have hltj : w4.heap.size < w5.heap.size := wj5.lt
  have hne : ¬ w.heap.size = w5.heap.size := by omega
  have hnej : ¬ w4.heap.size = w5.heap.size := by omega
  have n0 := World.new_ne w5 ⟨w.heap.size, 0, none⟩ k0
  have o0 := World.new_ne w5 ⟨w4.heap.size, 0, none⟩ l0
  have n1 := World.new_ne w5 ⟨w.heap.size, 1, none⟩ k1
  have o1 := World.new_ne w5 ⟨w4.heap.size, 1, none⟩ l1
  have n2 := World.new_ne w5 ⟨w.heap.size, 2, none⟩ k2
  have o2 := World.new_ne w5 ⟨w4.heap.size, 2, none⟩ l2
  have n3 := World.new_ne w5 ⟨w.heap.size, 3, none⟩ k3
  have o3 := World.new_ne w5 ⟨w4.heap.size, 3, none⟩ l3
  have n4 := World.new_ne w5 ⟨w.heap.size, 4, none⟩ k4
  have o4 := World.new_ne w5 ⟨w4.heap.size, 4, none⟩ l4
  go_wp2_with fail
  refine (num_any _ _).mono ?_
  rintro e w' ⟨rfl, rfl⟩
  have egg : (g != g) = false := by simp
  rcases KK.out with ⟨h1, h2, h3⟩ | ⟨h1, h2, h3⟩ | ⟨h1, h2, h3, h4⟩ | ⟨h1, h2, h3, h4⟩ | ⟨h1, h2, h3, h4, h5, h6, h7, h8⟩ | ⟨h1, h2, h3, h4, h5, h6, h7, h8⟩ | ⟨h1, h2, h3, h4, h5, h6, h7, h8⟩ | ⟨h1, h2, h3, h4, h5, h6, h7, h8, h9, h10, h11⟩ | ⟨h1, h2, h3⟩ | ⟨h1, h2⟩ | ⟨h1, h2⟩ | ⟨h1, h2⟩ | ⟨h1, h2⟩ | ⟨h1, h2⟩ | ⟨h1, h2⟩ | ⟨h1, h2, h3, h4, h5⟩ | ⟨h1, h2, h3, h4, h5⟩
  · subst h1
    subst h2
    first | have _da := (decide_eq_true (by omega) : decide (bit < 12) = true) | have _da := (decide_eq_false (by omega) : decide (bit < 12) = false) | skip
    first | have _db := (decide_eq_true (by omega) : decide (bit < 24) = true) | have _db := (decide_eq_false (by omega) : decide (bit < 24) = false) | skip
    first | have _dc := (decide_eq_true (by omega) : decide (16 ≤ bit) = true) | have _dc := (decide_eq_false (by omega) : decide (16 ≤ bit) = false) | skip
    first | have _dd := (decide_eq_true (by omega) : decide (bit < 20) = true) | have _dd := (decide_eq_false (by omega) : decide (bit < 20) = false) | skip
    first | have _de := (decide_eq_true (by omega) : decide (20 ≤ bit) = true) | have _de := (decide_eq_false (by omega) : decide (20 ≤ bit) = false) | skip
    go_wp2_with fail
    refine (num_any _ _).mono ?_
    rintro e w' ⟨rfl, rfl⟩
    go_wp2_with fail
    go_ret
    exact ⟨rfl, hb15.alloc hb15.size _⟩
  · subst h1
    subst h2
    first | have _da := (decide_eq_true (by omega) : decide (bit < 12) = true) | have _da := (decide_eq_false (by omega) : decide (bit < 12) = false) | skip
    first | have _db := (decide_eq_true (by omega) : decide (bit < 24) = true) | have _db := (decide_eq_false (by omega) : decide (bit < 24) = false) | skip
    first | have _dc := (decide_eq_true (by omega) : decide (16 ≤ bit) = true) | have _dc := (decide_eq_false (by omega) : decide (16 ≤ bit) = false) | skip
    first | have _dd := (decide_eq_true (by omega) : decide (bit < 20) = true) | have _dd := (decide_eq_false (by omega) : decide (bit < 20) = false) | skip
    first | have _de := (decide_eq_true (by omega) : decide (20 ≤ bit) = true) | have _de := (decide_eq_false (by omega) : decide (20 ≤ bit) = false) | skip
    go_wp2_with fail
    refine (num_any _ _).mono ?_
    rintro e w' ⟨rfl, rfl⟩
    go_wp2_with fail
    go_ret
    exact ⟨rfl, hb15.alloc hb15.size _⟩
  · subst h1
    subst h2
    first | have _da := (decide_eq_true (by omega) : decide (bit < 12) = true) | have _da := (decide_eq_false (by omega) : decide (bit < 12) = false) | skip
    first | have _db := (decide_eq_true (by omega) : decide (bit < 24) = true) | have _db := (decide_eq_false (by omega) : decide (bit < 24) = false) | skip
    first | have _dc := (decide_eq_true (by omega) : decide (16 ≤ bit) = true) | have _dc := (decide_eq_false (by omega) : decide (16 ≤ bit) = false) | skip
    first | have _dd := (decide_eq_true (by omega) : decide (bit < 20) = true) | have _dd := (decide_eq_false (by omega) : decide (bit < 20) = false) | skip
    first | have _de := (decide_eq_true (by omega) : decide (20 ≤ bit) = true) | have _de := (decide_eq_false (by omega) : decide (20 ≤ bit) = false) | skip
    go_wp2_with fail
    refine (num_any _ _).mono ?_
    rintro e w' ⟨rfl, rfl⟩
    go_wp2_with fail
    go_ret
    exact ⟨rfl, hb15.alloc hb15.size _⟩
  · subst h1
    subst h2
    first | have _da := (decide_eq_true (by omega) : decide (bit < 12) = true) | have _da := (decide_eq_false (by omega) : decide (bit < 12) = false) | skip
    first | have _db := (decide_eq_true (by omega) : decide (bit < 24) = true) | have _db := (decide_eq_false (by omega) : decide (bit < 24) = false) | skip
    first | have _dc := (decide_eq_true (by omega) : decide (16 ≤ bit) = true) | have _dc := (decide_eq_false (by omega) : decide (16 ≤ bit) = false) | skip
    first | have _dd := (decide_eq_true (by omega) : decide (bit < 20) = true) | have _dd := (decide_eq_false (by omega) : decide (bit < 20) = false) | skip
    first | have _de := (decide_eq_true (by omega) : decide (20 ≤ bit) = true) | have _de := (decide_eq_false (by omega) : decide (20 ≤ bit) = false) | skip
    go_wp2_with fail
    refine (num_any _ _).mono ?_
    rintro e w' ⟨rfl, rfl⟩
    go_wp2_with fail
    go_ret
    exact ⟨rfl, hb15.alloc hb15.size _⟩
  · subst h1
    subst h2
    subst h3
    subst h4
    subst h8
    first | have _da := (decide_eq_true (by omega) : decide (bit < 12) = true) | have _da := (decide_eq_false (by omega) : decide (bit < 12) = false) | skip
    first | have _db := (decide_eq_true (by omega) : decide (bit < 24) = true) | have _db := (decide_eq_false (by omega) : decide (bit < 24) = false) | skip
    first | have _dc := (decide_eq_true (by omega) : decide (16 ≤ bit) = true) | have _dc := (decide_eq_false (by omega) : decide (16 ≤ bit) = false) | skip
    first | have _dd := (decide_eq_true (by omega) : decide (bit < 20) = true) | have _dd := (decide_eq_false (by omega) : decide (bit < 20) = false) | skip
    first | have _de := (decide_eq_true (by omega) : decide (20 ≤ bit) = true) | have _de := (decide_eq_false (by omega) : decide (20 ≤ bit) = false) | skip
    have hQ : (2 : Int) ^ (bit - 20).toNat ≤ 2147483648 ∧ 0 < (2 : Int) ^ (bit - 20).toNat := pow_small (by omega)
    have ht0 : 0 ≤ bit - 20 := by omega
    have ht1 : bit - 20 ≤ 31 := by omega
    obtain ⟨t, et⟩ : ∃ t, bit - 20 = t := ⟨_, rfl⟩
    rw [et] at hQ h5 ht0 ht1
    obtain ⟨Q, eQ⟩ : ∃ Q, (2 : Int) ^ t.toNat = Q := ⟨_, rfl⟩
    rw [eQ] at hQ h5
    have wt : IntKind.i64.wrap t = t := by rw [IntKind.wrap_i64]; omega
    have wut : IntKind.u64.wrap t = t := by rw [IntKind.wrap_u64]; omega
    have mt : min t.toNat 64 = t.toNat := by omega
    have wQ : IntKind.i64.wrap Q = Q := by rw [IntKind.wrap_i64]; omega
    have hQ0 := hQ.1
    have hQ1 := hQ.2
    clear hQ
    go_wp2_with fail
    refine (num_any _ _).mono ?_
    rintro e w' ⟨rfl, rfl⟩
    go_wp2_with fail
    go_ret
    exact ⟨rfl, hb15.alloc hb15.size _⟩
  · subst h1
    subst h2
    subst h3
    subst h4
    subst h8
    first | have _da := (decide_eq_true (by omega) : decide (bit < 12) = true) | have _da := (decide_eq_false (by omega) : decide (bit < 12) = false) | skip
    first | have _db := (decide_eq_true (by omega) : decide (bit < 24) = true) | have _db := (decide_eq_false (by omega) : decide (bit < 24) = false) | skip
    first | have _dc := (decide_eq_true (by omega) : decide (16 ≤ bit) = true) | have _dc := (decide_eq_false (by omega) : decide (16 ≤ bit) = false) | skip
    first | have _dd := (decide_eq_true (by omega) : decide (bit < 20) = true) | have _dd := (decide_eq_false (by omega) : decide (bit < 20) = false) | skip
    first | have _de := (decide_eq_true (by omega) : decide (20 ≤ bit) = true) | have _de := (decide_eq_false (by omega) : decide (20 ≤ bit) = false) | skip
    have hQ : (2 : Int) ^ (bit - 20).toNat ≤ 2147483648 ∧ 0 < (2 : Int) ^ (bit - 20).toNat := pow_small (by omega)
    have ht0 : 0 ≤ bit - 20 := by omega
    have ht1 : bit - 20 ≤ 31 := by omega
    obtain ⟨t, et⟩ : ∃ t, bit - 20 = t := ⟨_, rfl⟩
    rw [et] at hQ h5 ht0 ht1
    obtain ⟨Q, eQ⟩ : ∃ Q, (2 : Int) ^ t.toNat = Q := ⟨_, rfl⟩
    rw [eQ] at hQ h5
    have wt : IntKind.i64.wrap t = t := by rw [IntKind.wrap_i64]; omega
    have wut : IntKind.u64.wrap t = t := by rw [IntKind.wrap_u64]; omega
    have mt : min t.toNat 64 = t.toNat := by omega
    have wQ : IntKind.i64.wrap Q = Q := by rw [IntKind.wrap_i64]; omega
    have hQ0 := hQ.1
    have hQ1 := hQ.2
    clear hQ
    go_wp2_with fail
    refine (num_any _ _).mono ?_
    rintro e w' ⟨rfl, rfl⟩
    go_wp2_with fail
    go_ret
    exact ⟨rfl, hb15.alloc hb15.size _⟩
  · subst h1
    subst h2
    subst h3
    subst h4
    subst h8
    first | have _da := (decide_eq_true (by omega) : decide (bit < 12) = true) | have _da := (decide_eq_false (by omega) : decide (bit < 12) = false) | skip
    first | have _db := (decide_eq_true (by omega) : decide (bit < 24) = true) | have _db := (decide_eq_false (by omega) : decide (bit < 24) = false) | skip
    first | have _dc := (decide_eq_true (by omega) : decide (16 ≤ bit) = true) | have _dc := (decide_eq_false (by omega) : decide (16 ≤ bit) = false) | skip
    first | have _dd := (decide_eq_true (by omega) : decide (bit < 20) = true) | have _dd := (decide_eq_false (by omega) : decide (bit < 20) = false) | skip
    first | have _de := (decide_eq_true (by omega) : decide (20 ≤ bit) = true) | have _de := (decide_eq_false (by omega) : decide (20 ≤ bit) = false) | skip
    have hQ : (2 : Int) ^ (bit - 20).toNat ≤ 2147483648 ∧ 0 < (2 : Int) ^ (bit - 20).toNat := pow_small (by omega)
    have ht0 : 0 ≤ bit - 20 := by omega
    have ht1 : bit - 20 ≤ 31 := by omega
    obtain ⟨t, et⟩ : ∃ t, bit - 20 = t := ⟨_, rfl⟩
    rw [et] at hQ h5 ht0 ht1
    obtain ⟨Q, eQ⟩ : ∃ Q, (2 : Int) ^ t.toNat = Q := ⟨_, rfl⟩
    rw [eQ] at hQ h5
    have wt : IntKind.i64.wrap t = t := by rw [IntKind.wrap_i64]; omega
    have wut : IntKind.u64.wrap t = t := by rw [IntKind.wrap_u64]; omega
    have mt : min t.toNat 64 = t.toNat := by omega
    have wQ : IntKind.i64.wrap Q = Q := by rw [IntKind.wrap_i64]; omega
    have hQ0 := hQ.1
    have hQ1 := hQ.2
    clear hQ
    go_wp2_with fail
    refine (num_any _ _).mono ?_
    rintro e w' ⟨rfl, rfl⟩
    go_wp2_with fail
    go_ret
    exact ⟨rfl, hb15.alloc hb15.size _⟩
  · subst h1
    subst h2
    subst h3
    subst h4
    have f1 : (ci == 82) = false := ne_eq h8
    have f2 : (ci == 78) = false := ne_eq h9
    have f3 : (ci == 76) = false := ne_eq h10
    have f4 : (ci == 67) = false := ne_eq h11
    have f5 : (ci != 78) = true := by rw [bne_iff_ne]; exact h9
    first | have _da := (decide_eq_true (by omega) : decide (bit < 12) = true) | have _da := (decide_eq_false (by omega) : decide (bit < 12) = false) | skip
    first | have _db := (decide_eq_true (by omega) : decide (bit < 24) = true) | have _db := (decide_eq_false (by omega) : decide (bit < 24) = false) | skip
    first | have _dc := (decide_eq_true (by omega) : decide (16 ≤ bit) = true) | have _dc := (decide_eq_false (by omega) : decide (16 ≤ bit) = false) | skip
    first | have _dd := (decide_eq_true (by omega) : decide (bit < 20) = true) | have _dd := (decide_eq_false (by omega) : decide (bit < 20) = false) | skip
    first | have _de := (decide_eq_true (by omega) : decide (20 ≤ bit) = true) | have _de := (decide_eq_false (by omega) : decide (20 ≤ bit) = false) | skip
    have hQ : (2 : Int) ^ (bit - 20).toNat ≤ 2147483648 ∧ 0 < (2 : Int) ^ (bit - 20).toNat := pow_small (by omega)
    have ht0 : 0 ≤ bit - 20 := by omega
    have ht1 : bit - 20 ≤ 31 := by omega
    obtain ⟨t, et⟩ : ∃ t, bit - 20 = t := ⟨_, rfl⟩
    rw [et] at hQ h5 ht0 ht1
    obtain ⟨Q, eQ⟩ : ∃ Q, (2 : Int) ^ t.toNat = Q := ⟨_, rfl⟩
    rw [eQ] at hQ h5
    have wt : IntKind.i64.wrap t = t := by rw [IntKind.wrap_i64]; omega
    have wut : IntKind.u64.wrap t = t := by rw [IntKind.wrap_u64]; omega
    have mt : min t.toNat 64 = t.toNat := by omega
    have wQ : IntKind.i64.wrap Q = Q := by rw [IntKind.wrap_i64]; omega
    have hQ0 := hQ.1
    have hQ1 := hQ.2
    clear hQ
    go_wp2_with fail
    refine (num_any _ _).mono ?_
    rintro e w' ⟨rfl, rfl⟩
    go_wp2_with fail
    go_ret
    exact ⟨rfl, hb15.alloc hb15.size _⟩
  · subst h1
    first | have _da := (decide_eq_true (by omega) : decide (bit < 12) = true) | have _da := (decide_eq_false (by omega) : decide (bit < 12) = false) | skip
    first | have _db := (decide_eq_true (by omega) : decide (bit < 24) = true) | have _db := (decide_eq_false (by omega) : decide (bit < 24) = false) | skip
    first | have _dc := (decide_eq_true (by omega) : decide (16 ≤ bit) = true) | have _dc := (decide_eq_false (by omega) : decide (16 ≤ bit) = false) | skip
    first | have _dd := (decide_eq_true (by omega) : decide (bit < 20) = true) | have _dd := (decide_eq_false (by omega) : decide (bit < 20) = false) | skip
    first | have _de := (decide_eq_true (by omega) : decide (20 ≤ bit) = true) | have _de := (decide_eq_false (by omega) : decide (20 ≤ bit) = false) | skip
    go_wp2_with fail
    go_ret
    exact ⟨rfl, hb15.alloc hb15.size _⟩
  · subst h1
    first | have _da := (decide_eq_true (by omega) : decide (bit < 12) = true) | have _da := (decide_eq_false (by omega) : decide (bit < 12) = false) | skip
    first | have _db := (decide_eq_true (by omega) : decide (bit < 24) = true) | have _db := (decide_eq_false (by omega) : decide (bit < 24) = false) | skip
    first | have _dc := (decide_eq_true (by omega) : decide (16 ≤ bit) = true) | have _dc := (decide_eq_false (by omega) : decide (16 ≤ bit) = false) | skip
    first | have _dd := (decide_eq_true (by omega) : decide (bit < 20) = true) | have _dd := (decide_eq_false (by omega) : decide (bit < 20) = false) | skip
    first | have _de := (decide_eq_true (by omega) : decide (20 ≤ bit) = true) | have _de := (decide_eq_false (by omega) : decide (20 ≤ bit) = false) | skip
    go_wp2_with fail
    go_ret
    exact ⟨rfl, hb15.alloc hb15.size _⟩
  · subst h1
    first | have _da := (decide_eq_true (by omega) : decide (bit < 12) = true) | have _da := (decide_eq_false (by omega) : decide (bit < 12) = false) | skip
    first | have _db := (decide_eq_true (by omega) : decide (bit < 24) = true) | have _db := (decide_eq_false (by omega) : decide (bit < 24) = false) | skip
    first | have _dc := (decide_eq_true (by omega) : decide (16 ≤ bit) = true) | have _dc := (decide_eq_false (by omega) : decide (16 ≤ bit) = false) | skip
    first | have _dd := (decide_eq_true (by omega) : decide (bit < 20) = true) | have _dd := (decide_eq_false (by omega) : decide (bit < 20) = false) | skip
    first | have _de := (decide_eq_true (by omega) : decide (20 ≤ bit) = true) | have _de := (decide_eq_false (by omega) : decide (20 ≤ bit) = false) | skip
    go_wp2_with fail
    go_ret
    exact ⟨rfl, hb15.alloc hb15.size _⟩
  · subst h1
    first | have _da := (decide_eq_true (by omega) : decide (bit < 12) = true) | have _da := (decide_eq_false (by omega) : decide (bit < 12) = false) | skip
    first | have _db := (decide_eq_true (by omega) : decide (bit < 24) = true) | have _db := (decide_eq_false (by omega) : decide (bit < 24) = false) | skip
    first | have _dc := (decide_eq_true (by omega) : decide (16 ≤ bit) = true) | have _dc := (decide_eq_false (by omega) : decide (16 ≤ bit) = false) | skip
    first | have _dd := (decide_eq_true (by omega) : decide (bit < 20) = true) | have _dd := (decide_eq_false (by omega) : decide (bit < 20) = false) | skip
    first | have _de := (decide_eq_true (by omega) : decide (20 ≤ bit) = true) | have _de := (decide_eq_false (by omega) : decide (20 ≤ bit) = false) | skip
    go_wp2_with fail
    go_ret
    exact ⟨rfl, hb15.alloc hb15.size _⟩
  · subst h1
    first | have _da := (decide_eq_true (by omega) : decide (bit < 12) = true) | have _da := (decide_eq_false (by omega) : decide (bit < 12) = false) | skip
    first | have _db := (decide_eq_true (by omega) : decide (bit < 24) = true) | have _db := (decide_eq_false (by omega) : decide (bit < 24) = false) | skip
    first | have _dc := (decide_eq_true (by omega) : decide (16 ≤ bit) = true) | have _dc := (decide_eq_false (by omega) : decide (16 ≤ bit) = false) | skip
    first | have _dd := (decide_eq_true (by omega) : decide (bit < 20) = true) | have _dd := (decide_eq_false (by omega) : decide (bit < 20) = false) | skip
    first | have _de := (decide_eq_true (by omega) : decide (20 ≤ bit) = true) | have _de := (decide_eq_false (by omega) : decide (20 ≤ bit) = false) | skip
    go_wp2_with fail
    go_ret
    exact ⟨rfl, hb15.alloc hb15.size _⟩
  · subst h1
    first | have _da := (decide_eq_true (by omega) : decide (bit < 12) = true) | have _da := (decide_eq_false (by omega) : decide (bit < 12) = false) | skip
    first | have _db := (decide_eq_true (by omega) : decide (bit < 24) = true) | have _db := (decide_eq_false (by omega) : decide (bit < 24) = false) | skip
    first | have _dc := (decide_eq_true (by omega) : decide (16 ≤ bit) = true) | have _dc := (decide_eq_false (by omega) : decide (16 ≤ bit) = false) | skip
    first | have _dd := (decide_eq_true (by omega) : decide (bit < 20) = true) | have _dd := (decide_eq_false (by omega) : decide (bit < 20) = false) | skip
    first | have _de := (decide_eq_true (by omega) : decide (20 ≤ bit) = true) | have _de := (decide_eq_false (by omega) : decide (20 ≤ bit) = false) | skip
    go_wp2_with fail
    go_ret
    exact ⟨rfl, hb15.alloc hb15.size _⟩
  · subst h1
    first | have _da := (decide_eq_true (by omega) : decide (bit < 12) = true) | have _da := (decide_eq_false (by omega) : decide (bit < 12) = false) | skip
    first | have _db := (decide_eq_true (by omega) : decide (bit < 24) = true) | have _db := (decide_eq_false (by omega) : decide (bit < 24) = false) | skip
    first | have _dc := (decide_eq_true (by omega) : decide (16 ≤ bit) = true) | have _dc := (decide_eq_false (by omega) : decide (16 ≤ bit) = false) | skip
    first | have _dd := (decide_eq_true (by omega) : decide (bit < 20) = true) | have _dd := (decide_eq_false (by omega) : decide (bit < 20) = false) | skip
    first | have _de := (decide_eq_true (by omega) : decide (20 ≤ bit) = true) | have _de := (decide_eq_false (by omega) : decide (20 ≤ bit) = false) | skip
    go_wp2_with fail
    go_ret
    exact ⟨rfl, hb15.alloc hb15.size _⟩
  · have f1 : (ci == 82) = false := ne_eq h2
    have f2 : (ci == 78) = false := ne_eq h3
    have f3 : (ci == 76) = false := ne_eq h4
    have f4 : (ci == 67) = false := ne_eq h5
    have f5 : (ci != 78) = true := by rw [bne_iff_ne]; exact h3
    first | have _da := (decide_eq_true (by omega) : decide (bit < 12) = true) | have _da := (decide_eq_false (by omega) : decide (bit < 12) = false) | skip
    first | have _db := (decide_eq_true (by omega) : decide (bit < 24) = true) | have _db := (decide_eq_false (by omega) : decide (bit < 24) = false) | skip
    first | have _dc := (decide_eq_true (by omega) : decide (16 ≤ bit) = true) | have _dc := (decide_eq_false (by omega) : decide (16 ≤ bit) = false) | skip
    first | have _dd := (decide_eq_true (by omega) : decide (bit < 20) = true) | have _dd := (decide_eq_false (by omega) : decide (bit < 20) = false) | skip
    first | have _de := (decide_eq_true (by omega) : decide (20 ≤ bit) = true) | have _de := (decide_eq_false (by omega) : decide (20 ≤ bit) = false) | skip
    go_wp2_with fail
    go_ret
    exact ⟨rfl, hb15.alloc hb15.size _⟩
  · have f1 : (ci == 82) = false := ne_eq h2
    have f2 : (ci == 78) = false := ne_eq h3
    have f3 : (ci == 76) = false := ne_eq h4
    have f4 : (ci == 67) = false := ne_eq h5
    have f5 : (ci != 78) = true := by rw [bne_iff_ne]; exact h3
    first | have _da := (decide_eq_true (by omega) : decide (bit < 12) = true) | have _da := (decide_eq_false (by omega) : decide (bit < 12) = false) | skip
    first | have _db := (decide_eq_true (by omega) : decide (bit < 24) = true) | have _db := (decide_eq_false (by omega) : decide (bit < 24) = false) | skip
    first | have _dc := (decide_eq_true (by omega) : decide (16 ≤ bit) = true) | have _dc := (decide_eq_false (by omega) : decide (16 ≤ bit) = false) | skip
    first | have _dd := (decide_eq_true (by omega) : decide (bit < 20) = true) | have _dd := (decide_eq_false (by omega) : decide (bit < 20) = false) | skip
    first | have _de := (decide_eq_true (by omega) : decide (20 ≤ bit) = true) | have _de := (decide_eq_false (by omega) : decide (20 ≤ bit) = false) | skip
    go_wp2_with fail
    go_ret
    exact ⟨rfl, hb15.alloc hb15.size _⟩
end Go.Proofs.YtmfldcacjpligaaDoor
