/-
  The given Fast and Decode: the walks.
-/
import Derived.Test.YtmfldcacjpligaaDoorW3
namespace Go.Proofs.YtmfldcacjpligaaDoor
open Go.RowKit
theorem wraps_u32 (n : Int) (h₀ : 0 ≤ n) (h₁ : n < 2 ^ 32) : IntKind.u32.wrap n = n := by rw [IntKind.wrap_u32]; omega
theorem u32_and15 {x : Int} (h₀ : 0 ≤ x) (h₁ : x < 4294967296) : bits .and .u32 x 15 = x % 16 := bits_mask .u32 32 (by decide) wraps_u32 4 (by decide) x h₀ (by omega)
theorem u32_and12 {x : Int} (h₀ : 0 ≤ x) (h₁ : x < 4294967296) : bits .and .u32 x 4095 = x % 4096 := bits_mask .u32 32 (by decide) wraps_u32 12 (by decide) x h₀ (by omega)
theorem u32_and16 {x : Int} (h₀ : 0 ≤ x) (h₁ : x < 4294967296) : bits .and .u32 x 65535 = x % 65536 := bits_mask .u32 32 (by decide) wraps_u32 16 (by decide) x h₀ (by omega)
theorem u32_and24 {x : Int} (h₀ : 0 ≤ x) (h₁ : x < 4294967296) : bits .and .u32 x 16777215 = x % 16777216 := bits_mask .u32 32 (by decide) wraps_u32 24 (by decide) x h₀ (by omega)
theorem ret_int {k : IntKind} {a b : Int} (h : a = b) : Ending.returned (.int k a) = .returned (.int k b) := by rw [h]
theorem ext20 (v : Int) (h0 : 0 ≤ v) (h1 : v < 4294967296) (w : World) : Calls Tryd.prog 40 #[.int .i64 v, .int .i64 20] w fun e w' => e = .returned (.int .i64 (Is.sgn20 (v % 1048576) % 4294967296)) ∧ w = w' := by
  have E : Hid (wrap64 (wrap32 (v * 4096 % 4294967296) / 4096) % 4294967296 = Is.sgn20 (v % 1048576) % 4294967296) := by
    show _ = _
    unfold Is.sgn20 wrap64 wrap32
    split <;> omega
  go_enter Tryd.func40, Tryd.ntmps40
  go_wp2
  go_ret
  exact ⟨ret_int E.out, rfl⟩
def sgn32 (x : Int) : Int := if 2147483648 ≤ x then x - 4294967296 else x
theorem sign_any (x : Int) (h0 : 0 ≤ x) (h1 : x < 4294967296) (w : World) : Calls Tryd.prog 39 #[.int .i64 x] w fun e w' => e = .returned (.int .i64 (sgn32 x)) ∧ w = w' := by
  have E : Hid (wrap64 (wrap32 x) = sgn32 x) := by
    show _ = _
    unfold sgn32 wrap64 wrap32
    split <;> omega
  go_enter Tryd.func39, Tryd.ntmps39
  go_wp2
  go_ret
  exact ⟨ret_int E.out, rfl⟩
theorem sgn_back (m : Int) (h : 0 ≤ m) (h1 : m < 1048576) : sgn32 (Is.sgn20 m % 4294967296) = Is.sgn20 m := by
  unfold sgn32 Is.sgn20
  split <;> split <;> omega
/-- What Fast says of a word. -/
def Dec (v : Int) (i : Is.Ins) (b : Bool) : Prop := Is.decW v = if b = true then some i else none
def FastPost (v : Int) (w : World) (e : Ending) (w' : World) : Prop := ∃ i b, e = .returned (.tuple #[insV i, .bool b]) ∧ Dec v i b ∧ Below w.heap.size w w'
theorem dec_none {v : Int} (f : Is.form (v / 16777216) = 0) (i : Is.Ins) : Dec v i false := by
  unfold Dec Is.decW
  dsimp only
  rw [f]
  rfl

theorem dec_R {v : Int} (f : Is.form (v / 16777216) = 82) : Dec v ⟨v / 16777216, v / 1048576 % 16, v / 65536 % 16, v / 4096 % 16, 0⟩ ((v % 4096 == 0)) := by
  unfold Dec Is.decW
  dsimp only
  rw [f, if_pos rfl]
  simp
theorem dec_I {v : Int} (f : Is.form (v / 16777216) = 73) : Dec v ⟨v / 16777216, v / 1048576 % 16, v / 65536 % 16, 0, Is.sgn16 (v % 65536)⟩ (true) := by
  unfold Dec Is.decW
  dsimp only
  rw [f, if_neg (by decide), if_pos rfl]
  simp
theorem dec_U {v : Int} (f : Is.form (v / 16777216) = 85) : Dec v ⟨v / 16777216, v / 1048576 % 16, v / 65536 % 16, 0, (v % 65536)⟩ (true) := by
  unfold Dec Is.decW
  dsimp only
  rw [f, if_neg (by decide), if_neg (by decide), if_pos rfl]
  simp
theorem dec_H {v : Int} (f : Is.form (v / 16777216) = 72) : Dec v ⟨v / 16777216, v / 1048576 % 16, v / 65536 % 16, 0, (v % 65536)⟩ (decide ((v % 65536) < 32)) := by
  unfold Dec Is.decW
  dsimp only
  rw [f, if_neg (by decide), if_neg (by decide), if_neg (by decide), if_pos rfl]
  simp
theorem dec_L {v : Int} (f : Is.form (v / 16777216) = 76) : Dec v ⟨v / 16777216, v / 1048576 % 16, 0, 0, (v % 65536)⟩ ((v / 65536 % 16 == 0)) := by
  unfold Dec Is.decW
  dsimp only
  rw [f, if_neg (by decide), if_neg (by decide), if_neg (by decide), if_neg (by decide), if_pos rfl]
  simp
theorem dec_J {v : Int} (f : Is.form (v / 16777216) = 74) : Dec v ⟨v / 16777216, v / 1048576 % 16, 0, 0, Is.sgn20 (v % 1048576)⟩ (true) := by
  unfold Dec Is.decW
  dsimp only
  rw [f, if_neg (by decide), if_neg (by decide), if_neg (by decide), if_neg (by decide), if_neg (by decide), if_pos rfl]
  simp
theorem dec_C {v : Int} (f : Is.form (v / 16777216) = 67) : Dec v ⟨v / 16777216, v / 1048576 % 16, 0, 0, (v % 65536)⟩ ((v / 65536 % 16 == 0 && decide ((v % 65536) < 11))) := by
  unfold Dec Is.decW
  dsimp only
  rw [f, if_neg (by decide), if_neg (by decide), if_neg (by decide), if_neg (by decide), if_neg (by decide), if_neg (by decide), if_pos rfl]
  simp
theorem dec_N {v : Int} (f : Is.form (v / 16777216) = 78) : Dec v ⟨v / 16777216, v / 1048576 % 16, 0, 0, 0⟩ ((v % 16777216 == 0)) := by
  unfold Dec Is.decW
  dsimp only
  rw [f, if_neg (by decide), if_neg (by decide), if_neg (by decide), if_neg (by decide), if_neg (by decide), if_neg (by decide), if_neg (by decide), if_pos rfl]
  simp
set_option maxRecDepth 100000 in
set_option maxHeartbeats 8000000 in
theorem fast_any (v : Int) (h0 : 0 ≤ v) (h1 : v < 4294967296) (w : World) : Calls Tryd.prog 31 #[.int .u32 v] w (FastPost v w) := by
  have hb1 := ((Below.refl w.heap.size w).alloc (Nat.le_refl _) (.cells #[.int .i64 0, .int .i64 0, .int .i64 0, .int .i64 0, .int .i64 0] 23))
  obtain ⟨op, eop⟩ : ∃ op, v / 16777216 = op := ⟨_, rfl⟩
  obtain ⟨a, ea⟩ : ∃ a, v / 1048576 % 16 = a := ⟨_, rfl⟩
  obtain ⟨b, eb⟩ : ∃ b, v / 65536 % 16 = b := ⟨_, rfl⟩
  obtain ⟨c, ec⟩ : ∃ c, v / 4096 % 16 = c := ⟨_, rfl⟩
  obtain ⟨lo, elo⟩ : ∃ lo, v % 65536 = lo := ⟨_, rfl⟩
  obtain ⟨l12, e12⟩ : ∃ l12, v % 4096 = l12 := ⟨_, rfl⟩
  obtain ⟨l24, e24⟩ : ∃ l24, v % 16777216 = l24 := ⟨_, rfl⟩
  have ga : bits .and .u32 (v / 1048576) 15 = a := by rw [u32_and15 (by omega) (by omega), ea]
  have gb : bits .and .u32 (v / 65536) 15 = b := by rw [u32_and15 (by omega) (by omega), eb]
  have gc : bits .and .u32 (v / 4096) 15 = c := by rw [u32_and15 (by omega) (by omega), ec]
  have gl : bits .and .u32 v 65535 = lo := by rw [u32_and16 (by omega) (by omega), elo]
  have g12 : bits .and .u32 v 4095 = l12 := by rw [u32_and12 (by omega) (by omega), e12]
  have g24 : bits .and .u32 v 16777215 = l24 := by rw [u32_and24 (by omega) (by omega), e24]
  have rop : 0 ≤ op ∧ op < 256 := by omega
  have ra : 0 ≤ a ∧ a < 16 := by omega
  have rb : 0 ≤ b ∧ b < 16 := by omega
  have rc : 0 ≤ c ∧ c < 16 := by omega
  have rlo : 0 ≤ lo ∧ lo < 65536 := by omega
  obtain ⟨rop1, rop2⟩ := rop
  obtain ⟨ra1, ra2⟩ := ra
  obtain ⟨rb1, rb2⟩ := rb
  obtain ⟨rc1, rc2⟩ := rc
  obtain ⟨rl1, rl2⟩ := rlo
  have q16 : IntKind.i16.wrap lo = Is.sgn16 lo := by
    simp only [IntKind.wrap, IntKind.bits, IntKind.signed, Is.sgn16]
    simp
    split <;> omega
  have q16a : -32768 ≤ Is.sgn16 lo := by unfold Is.sgn16; split <;> omega
  have q16b : Is.sgn16 lo ≤ 32767 := by unfold Is.sgn16; split <;> omega
  rcases Is.form_cases op with f | f | f | f | f | f | f | f | f
  · have D := Lib.hid (dec_none (v := v) (by rw [eop]; exact f) ⟨0, 0, 0, 0, 0⟩)
    have C25 : ∀ W, Calls Tryd.prog 25 #[.int .i64 op] W fun e w' => e = .returned (.int .u8 32) ∧ W = w' := by
      intro W
      have h := form_any op W
      unfold formC at h
      rw [f, if_pos rfl] at h
      exact h
    clear f ea eb ec elo e12 e24
    go_enter Tryd.func31, Tryd.ntmps31
    go_wp2_with fail
    refine (C25 _).mono ?_
    rintro e w2 ⟨rfl, rfl⟩
    go_wp2_with fail
    refine bodyPost_ret (v := .tuple #[insV ⟨0, 0, 0, 0, 0⟩, .bool false]) (by simp [results, Tryd.results31, go_sem, insV]) rfl ⟨_, _, rfl, D.out, ((Below.refl _ _).alloc (Nat.le_refl _) _).alloc (by simp) _⟩
  · have D := Lib.hid (dec_R (v := v) (by rw [eop]; exact f))
    rw [eop, ea, eb, ec, e12] at D
    have C25 : ∀ W, Calls Tryd.prog 25 #[.int .i64 op] W fun e w' => e = .returned (.int .u8 82) ∧ W = w' := by
      intro W
      have h := form_any op W
      unfold formC at h
      rw [f, if_neg (by decide)] at h
      exact h
    clear f ea eb ec elo e12 e24
    go_enter Tryd.func31, Tryd.ntmps31
    go_wp2_with fail
    refine (C25 _).mono ?_
    rintro e w2 ⟨rfl, rfl⟩
    go_wp2_with fail
    refine bodyPost_ret (v := .tuple #[insV ⟨op, a, b, c, 0⟩, .bool ((l12 == 0))]) (by simp [results, Tryd.results31, go_sem, insV]) rfl ⟨⟨op, a, b, c, 0⟩, _, rfl, D.out, ((Below.refl _ _).alloc (Nat.le_refl _) _).alloc (by simp) _⟩
  · have D := Lib.hid (dec_I (v := v) (by rw [eop]; exact f))
    rw [eop, ea, eb, elo] at D
    have C25 : ∀ W, Calls Tryd.prog 25 #[.int .i64 op] W fun e w' => e = .returned (.int .u8 73) ∧ W = w' := by
      intro W
      have h := form_any op W
      unfold formC at h
      rw [f, if_neg (by decide)] at h
      exact h
    clear f ea eb ec elo e12 e24
    go_enter Tryd.func31, Tryd.ntmps31
    go_wp2_with fail
    refine (C25 _).mono ?_
    rintro e w2 ⟨rfl, rfl⟩
    go_wp2_with fail
    refine bodyPost_ret (v := .tuple #[insV ⟨op, a, b, 0, Is.sgn16 lo⟩, .bool (true)]) (by simp [results, Tryd.results31, go_sem, insV]) rfl ⟨⟨op, a, b, 0, Is.sgn16 lo⟩, _, rfl, D.out, ((Below.refl _ _).alloc (Nat.le_refl _) _).alloc (by simp) _⟩
  · have D := Lib.hid (dec_U (v := v) (by rw [eop]; exact f))
    rw [eop, ea, eb, elo] at D
    have C25 : ∀ W, Calls Tryd.prog 25 #[.int .i64 op] W fun e w' => e = .returned (.int .u8 85) ∧ W = w' := by
      intro W
      have h := form_any op W
      unfold formC at h
      rw [f, if_neg (by decide)] at h
      exact h
    clear f ea eb ec elo e12 e24
    go_enter Tryd.func31, Tryd.ntmps31
    go_wp2_with fail
    refine (C25 _).mono ?_
    rintro e w2 ⟨rfl, rfl⟩
    go_wp2_with fail
    refine bodyPost_ret (v := .tuple #[insV ⟨op, a, b, 0, lo⟩, .bool (true)]) (by simp [results, Tryd.results31, go_sem, insV]) rfl ⟨⟨op, a, b, 0, lo⟩, _, rfl, D.out, ((Below.refl _ _).alloc (Nat.le_refl _) _).alloc (by simp) _⟩
  · have D := Lib.hid (dec_H (v := v) (by rw [eop]; exact f))
    rw [eop, ea, eb, elo] at D
    have C25 : ∀ W, Calls Tryd.prog 25 #[.int .i64 op] W fun e w' => e = .returned (.int .u8 72) ∧ W = w' := by
      intro W
      have h := form_any op W
      unfold formC at h
      rw [f, if_neg (by decide)] at h
      exact h
    clear f ea eb ec elo e12 e24
    go_enter Tryd.func31, Tryd.ntmps31
    go_wp2_with fail
    refine (C25 _).mono ?_
    rintro e w2 ⟨rfl, rfl⟩
    go_wp2_with fail
    refine bodyPost_ret (v := .tuple #[insV ⟨op, a, b, 0, lo⟩, .bool (decide (lo < 32))]) (by simp [results, Tryd.results31, go_sem, insV]) rfl ⟨⟨op, a, b, 0, lo⟩, _, rfl, D.out, ((Below.refl _ _).alloc (Nat.le_refl _) _).alloc (by simp) _⟩
  · have D := Lib.hid (dec_L (v := v) (by rw [eop]; exact f))
    rw [eop, ea, eb, elo] at D
    have C25 : ∀ W, Calls Tryd.prog 25 #[.int .i64 op] W fun e w' => e = .returned (.int .u8 76) ∧ W = w' := by
      intro W
      have h := form_any op W
      unfold formC at h
      rw [f, if_neg (by decide)] at h
      exact h
    clear f ea eb ec elo e12 e24
    go_enter Tryd.func31, Tryd.ntmps31
    go_wp2_with fail
    refine (C25 _).mono ?_
    rintro e w2 ⟨rfl, rfl⟩
    go_wp2_with fail
    refine bodyPost_ret (v := .tuple #[insV ⟨op, a, 0, 0, lo⟩, .bool ((b == 0))]) (by simp [results, Tryd.results31, go_sem, insV]) rfl ⟨⟨op, a, 0, 0, lo⟩, _, rfl, D.out, ((Below.refl _ _).alloc (Nat.le_refl _) _).alloc (by simp) _⟩
  · have D := Lib.hid (dec_J (v := v) (by rw [eop]; exact f))
    rw [eop, ea] at D
    have C25 : ∀ W, Calls Tryd.prog 25 #[.int .i64 op] W fun e w' => e = .returned (.int .u8 74) ∧ W = w' := by
      intro W
      have h := form_any op W
      unfold formC at h
      rw [f, if_neg (by decide)] at h
      exact h
    clear f ea eb ec elo e12 e24
    go_enter Tryd.func31, Tryd.ntmps31
    go_wp2_with fail
    refine (C25 _).mono ?_
    rintro e w2 ⟨rfl, rfl⟩
    go_wp2_with fail
    refine (ext20 v h0 h1 _).mono ?_
    rintro e w2 ⟨rfl, rfl⟩
    go_wp2_with fail
    refine (sign_any _ (by omega) (by omega) _).mono ?_
    rintro e w2 ⟨rfl, rfl⟩
    rw [sgn_back _ (by omega) (by omega)]
    go_wp2_with fail
    refine bodyPost_ret (v := .tuple #[insV ⟨op, a, 0, 0, Is.sgn20 (v % 1048576)⟩, .bool (true)]) (by simp [results, Tryd.results31, go_sem, insV]) rfl ⟨⟨op, a, 0, 0, Is.sgn20 (v % 1048576)⟩, _, rfl, D.out, ((Below.refl _ _).alloc (Nat.le_refl _) _).alloc (by simp) _⟩
  · have D := Lib.hid (dec_C (v := v) (by rw [eop]; exact f))
    rw [eop, ea, eb, elo] at D
    have C25 : ∀ W, Calls Tryd.prog 25 #[.int .i64 op] W fun e w' => e = .returned (.int .u8 67) ∧ W = w' := by
      intro W
      have h := form_any op W
      unfold formC at h
      rw [f, if_neg (by decide)] at h
      exact h
    clear f ea eb ec elo e12 e24
    by_cases hb0 : b = 0
    · have eb0 : (b == 0) = true := beq_iff_eq.2 hb0
      have D2 : Hid (Dec v ⟨op, a, 0, 0, lo⟩ (decide (lo < 11))) := by have h := D.out; rw [eb0, Bool.true_and] at h; exact h
      clear D hb0
      go_enter Tryd.func31, Tryd.ntmps31
      go_wp2_with fail
      refine (C25 _).mono ?_
      rintro e w2 ⟨rfl, rfl⟩
      go_wp2_with fail
      refine bodyPost_ret (v := .tuple #[insV ⟨op, a, 0, 0, lo⟩, .bool (decide (lo < 11))]) (by simp [results, Tryd.results31, go_sem, insV]) rfl ⟨⟨op, a, 0, 0, lo⟩, _, rfl, D2.out, ((Below.refl _ _).alloc (Nat.le_refl _) _).alloc (by simp) _⟩
    · have eb0 : (b == 0) = false := ne_eq hb0
      have D2 : Hid (Dec v ⟨op, a, 0, 0, lo⟩ false) := by have h := D.out; rw [eb0, Bool.false_and] at h; exact h
      clear D hb0
      go_enter Tryd.func31, Tryd.ntmps31
      go_wp2_with fail
      refine (C25 _).mono ?_
      rintro e w2 ⟨rfl, rfl⟩
      go_wp2_with fail
      refine bodyPost_ret (v := .tuple #[insV ⟨op, a, 0, 0, lo⟩, .bool (false)]) (by simp [results, Tryd.results31, go_sem, insV]) rfl ⟨⟨op, a, 0, 0, lo⟩, _, rfl, D2.out, ((Below.refl _ _).alloc (Nat.le_refl _) _).alloc (by simp) _⟩
  · have D := Lib.hid (dec_N (v := v) (by rw [eop]; exact f))
    rw [eop, ea, e24] at D
    have C25 : ∀ W, Calls Tryd.prog 25 #[.int .i64 op] W fun e w' => e = .returned (.int .u8 78) ∧ W = w' := by
      intro W
      have h := form_any op W
      unfold formC at h
      rw [f, if_neg (by decide)] at h
      exact h
    clear f ea eb ec elo e12 e24
    go_enter Tryd.func31, Tryd.ntmps31
    go_wp2_with fail
    refine (C25 _).mono ?_
    rintro e w2 ⟨rfl, rfl⟩
    go_wp2_with fail
    refine bodyPost_ret (v := .tuple #[insV ⟨op, a, 0, 0, 0⟩, .bool ((l24 == 0))]) (by simp [results, Tryd.results31, go_sem, insV]) rfl ⟨⟨op, a, 0, 0, 0⟩, _, rfl, D.out, ((Below.refl _ _).alloc (Nat.le_refl _) _).alloc (by simp) _⟩
end Go.Proofs.YtmfldcacjpligaaDoor
