/-
  The document's Encode: the walk.
-/
import Derived.Test.YtmfldcacjpligaaDoorW3
namespace Go.Proofs.YtmfldcacjpligaaDoor
open Go.RowKit
theorem regs_cases (r : Int) : r < 0 ∨ (¬ r < 0 ∧ 15 < r) ∨ (¬ r < 0 ∧ ¬ 15 < r ∧ r = 0) ∨ (¬ r < 0 ∧ ¬ 15 < r ∧ r ≠ 0) := by omega
theorem imm_cases (n lo hi : Int) : n < lo ∨ (¬ n < lo ∧ hi < n) ∨ (¬ n < lo ∧ ¬ hi < n) := by omega
/-- What the document's Encode says. -/
def REnc (i : Is.Ins) (w : World) (e : Ending) (w' : World) : Prop := e = .returned (.tuple #[.int .i64 (Is.enc i).1, .int .i64 (Is.enc i).2]) ∧ Below w.heap.size w w'
theorem renc_ret {x y z : Int} {i : Is.Ins} (h : Is.enc i = (y, z)) (hx : x = y) : Ending.returned (.tuple #[.int .i64 x, .int .i64 z]) = .returned (.tuple #[.int .i64 (Is.enc i).1, .int .i64 (Is.enc i).2]) := by rw [h, hx]

theorem renc_R_ok {op a b c n : Int} (f : Is.form op = 82) : Is.regsOk ⟨op, a, b, c, n⟩ = decide ((0 ≤ a ∧ a ≤ 15 ∧ ((3 : Int) ≤ 0 → a = 0)) ∧ (0 ≤ b ∧ b ≤ 15 ∧ ((3 : Int) ≤ 1 → b = 0)) ∧ (0 ≤ c ∧ c ≤ 15 ∧ ((3 : Int) ≤ 2 → c = 0))) ∧ Is.immOk ⟨op, a, b, c, n⟩ = decide (0 ≤ n ∧ n ≤ 0) := by
  unfold Is.regsOk Is.immOk Is.regOk
  dsimp only
  rw [f, Is.shape_R]
  refine ⟨?_, rfl⟩
  rw [Bool.eq_iff_iff, Bool.and_eq_true, Bool.and_eq_true, decide_eq_true_iff, decide_eq_true_iff, decide_eq_true_iff, decide_eq_true_iff, and_assoc]
set_option maxRecDepth 100000 in
set_option maxHeartbeats 4000000 in
theorem renc_R (i : Is.Ins) (hf : Is.form i.op = 82) (w : World) : Calls Tryd.prog 15 #[insV i] w (REnc i w) := by
  obtain ⟨op, a, b, c, n⟩ := i
  unfold insV
  have hb1 := (Below.refl w.heap.size w).alloc (Nat.le_refl _) (.cells #[.int .i64 op, .int .i64 a, .int .i64 b, .int .i64 c, .int .i64 n] 23)
  have hf0 : Is.form op ≠ 0 := by have h : Is.form op = 82 := hf; rw [h]; decide
  have hfn : Hid (Is.form op = 82) := hf
  have HF := Lib.hid hf0
  have hop := Is.form_range hf0
  obtain ⟨e1, e2⟩ := renc_R_ok (a := a) (b := b) (c := c) (n := n) hfn.out
  have R1 := Lib.hid e1
  have R2 := Lib.hid e2
  clear hf hf0 e1 e2
  have C17 : ∀ W, Calls Tryd.prog 17 #[.int .i64 op] W fun e w' => e = .returned (.tuple #[.int .u8 82, nameV op]) ∧ W = w' := by
    intro W
    have h := rform_any op W
    rw [hfn.out] at h
    exact h
  by_cases al : a < 0
  · have E := Lib.hid (enc_bad (i := ⟨op, a, b, c, n⟩) HF.out (by rw [R1.out]; exact decide_eq_false (by omega)))
    have ad : decide (a < 0) = true := decide_eq_true al
    go_enter Tryd.func15, Tryd.ntmps15
    go_wp2_with fail
    refine (C17 _).mono ?_
    rintro e w2 ⟨rfl, rfl⟩
    go_wp2_with fail
    go_ret2
    exact ⟨renc_ret E.out rfl, hb1⟩
  have ad : decide (a < 0) = false := decide_eq_false al
  by_cases ah : 15 < a
  · have E := Lib.hid (enc_bad (i := ⟨op, a, b, c, n⟩) HF.out (by rw [R1.out]; exact decide_eq_false (by omega)))
    have af : decide (15 < a) = true := decide_eq_true ah
    go_enter Tryd.func15, Tryd.ntmps15
    go_wp2_with fail
    refine (C17 _).mono ?_
    rintro e w2 ⟨rfl, rfl⟩
    go_wp2_with fail
    go_ret2
    exact ⟨renc_ret E.out rfl, hb1⟩
  have af : decide (15 < a) = false := decide_eq_false ah
  by_cases bl : b < 0
  · have E := Lib.hid (enc_bad (i := ⟨op, a, b, c, n⟩) HF.out (by rw [R1.out]; exact decide_eq_false (by omega)))
    have bd : decide (b < 0) = true := decide_eq_true bl
    go_enter Tryd.func15, Tryd.ntmps15
    go_wp2_with fail
    refine (C17 _).mono ?_
    rintro e w2 ⟨rfl, rfl⟩
    go_wp2_with fail
    go_ret2
    exact ⟨renc_ret E.out rfl, hb1⟩
  have bd : decide (b < 0) = false := decide_eq_false bl
  by_cases bh : 15 < b
  · have E := Lib.hid (enc_bad (i := ⟨op, a, b, c, n⟩) HF.out (by rw [R1.out]; exact decide_eq_false (by omega)))
    have bf : decide (15 < b) = true := decide_eq_true bh
    go_enter Tryd.func15, Tryd.ntmps15
    go_wp2_with fail
    refine (C17 _).mono ?_
    rintro e w2 ⟨rfl, rfl⟩
    go_wp2_with fail
    go_ret2
    exact ⟨renc_ret E.out rfl, hb1⟩
  have bf : decide (15 < b) = false := decide_eq_false bh
  by_cases cl : c < 0
  · have E := Lib.hid (enc_bad (i := ⟨op, a, b, c, n⟩) HF.out (by rw [R1.out]; exact decide_eq_false (by omega)))
    have cd : decide (c < 0) = true := decide_eq_true cl
    go_enter Tryd.func15, Tryd.ntmps15
    go_wp2_with fail
    refine (C17 _).mono ?_
    rintro e w2 ⟨rfl, rfl⟩
    go_wp2_with fail
    go_ret2
    exact ⟨renc_ret E.out rfl, hb1⟩
  have cd : decide (c < 0) = false := decide_eq_false cl
  by_cases ch : 15 < c
  · have E := Lib.hid (enc_bad (i := ⟨op, a, b, c, n⟩) HF.out (by rw [R1.out]; exact decide_eq_false (by omega)))
    have cf : decide (15 < c) = true := decide_eq_true ch
    go_enter Tryd.func15, Tryd.ntmps15
    go_wp2_with fail
    refine (C17 _).mono ?_
    rintro e w2 ⟨rfl, rfl⟩
    go_wp2_with fail
    go_ret2
    exact ⟨renc_ret E.out rfl, hb1⟩
  have cf : decide (15 < c) = false := decide_eq_false ch
  have hreg : Is.regsOk ⟨op, a, b, c, n⟩ = true := by rw [R1.out]; exact decide_eq_true (by omega)
  have HR := Lib.hid hreg
  clear hreg
  rcases imm_cases n 0 0 with h | ⟨h, h'⟩ | ⟨h, h'⟩
  · have E := Lib.hid (enc_range (i := ⟨op, a, b, c, n⟩) HF.out HR.out (by rw [R2.out]; exact decide_eq_false (by omega)))
    have nd : decide (n < 0) = true := decide_eq_true h
    go_enter Tryd.func15, Tryd.ntmps15
    go_wp2_with fail
    refine (C17 _).mono ?_
    rintro e w2 ⟨rfl, rfl⟩
    go_wp2_with fail
    go_ret2
    exact ⟨renc_ret E.out rfl, hb1⟩
  · have E := Lib.hid (enc_range (i := ⟨op, a, b, c, n⟩) HF.out HR.out (by rw [R2.out]; exact decide_eq_false (by omega)))
    have nd : decide (n < 0) = false := decide_eq_false h
    have nf : decide (0 < n) = true := decide_eq_true h'
    go_enter Tryd.func15, Tryd.ntmps15
    go_wp2_with fail
    refine (C17 _).mono ?_
    rintro e w2 ⟨rfl, rfl⟩
    go_wp2_with fail
    go_ret2
    exact ⟨renc_ret E.out rfl, hb1⟩
  · have hI : Is.immOk ⟨op, a, b, c, n⟩ = true := by rw [R2.out]; exact decide_eq_true (by omega)
    have E := Lib.hid (Is.enc_of (i := ⟨op, a, b, c, n⟩) HF.out HR.out hI)
    have ED : Hid (Is.word ⟨op, a, b, c, n⟩ = op * 16777216 + a * 1048576 + b * 65536 + c * 4096 + n % 2 ^ (0 : Int).toNat) := by show _ = _; unfold Is.word; dsimp only; rw [hfn.out, Is.shape_R]
    clear hI
    have nd : decide (n < 0) = false := decide_eq_false h
    have nf : decide (0 < n) = false := decide_eq_false h'
    have HN := Lib.hid (show 0 ≤ n ∧ n ≤ 0 by omega)
    go_enter Tryd.func15, Tryd.ntmps15
    go_wp2_with fail
    refine (C17 _).mono ?_
    rintro e w2 ⟨rfl, rfl⟩
    go_wp2_with fail
    go_ret2
    exact ⟨renc_ret E.out (by have := HN.out; rw [land16, word_bits ⟨by omega, by omega⟩ (by omega) (by omega) (by omega) (by omega) (.inl (by have := HN.out; omega)), ED.out, Is.p0]; omega), hb1⟩
theorem renc_I_ok {op a b c n : Int} (f : Is.form op = 73) : Is.regsOk ⟨op, a, b, c, n⟩ = decide ((0 ≤ a ∧ a ≤ 15 ∧ ((2 : Int) ≤ 0 → a = 0)) ∧ (0 ≤ b ∧ b ≤ 15 ∧ ((2 : Int) ≤ 1 → b = 0)) ∧ (0 ≤ c ∧ c ≤ 15 ∧ ((2 : Int) ≤ 2 → c = 0))) ∧ Is.immOk ⟨op, a, b, c, n⟩ = decide ((-32768) ≤ n ∧ n ≤ 32767) := by
  unfold Is.regsOk Is.immOk Is.regOk
  dsimp only
  rw [f, Is.shape_I]
  refine ⟨?_, rfl⟩
  rw [Bool.eq_iff_iff, Bool.and_eq_true, Bool.and_eq_true, decide_eq_true_iff, decide_eq_true_iff, decide_eq_true_iff, decide_eq_true_iff, and_assoc]
set_option maxRecDepth 100000 in
set_option maxHeartbeats 4000000 in
theorem renc_I (i : Is.Ins) (hf : Is.form i.op = 73) (w : World) : Calls Tryd.prog 15 #[insV i] w (REnc i w) := by
  obtain ⟨op, a, b, c, n⟩ := i
  unfold insV
  have hb1 := (Below.refl w.heap.size w).alloc (Nat.le_refl _) (.cells #[.int .i64 op, .int .i64 a, .int .i64 b, .int .i64 c, .int .i64 n] 23)
  have hf0 : Is.form op ≠ 0 := by have h : Is.form op = 73 := hf; rw [h]; decide
  have hfn : Hid (Is.form op = 73) := hf
  have HF := Lib.hid hf0
  have hop := Is.form_range hf0
  obtain ⟨e1, e2⟩ := renc_I_ok (a := a) (b := b) (c := c) (n := n) hfn.out
  have R1 := Lib.hid e1
  have R2 := Lib.hid e2
  clear hf hf0 e1 e2
  have C17 : ∀ W, Calls Tryd.prog 17 #[.int .i64 op] W fun e w' => e = .returned (.tuple #[.int .u8 73, nameV op]) ∧ W = w' := by
    intro W
    have h := rform_any op W
    rw [hfn.out] at h
    exact h
  by_cases al : a < 0
  · have E := Lib.hid (enc_bad (i := ⟨op, a, b, c, n⟩) HF.out (by rw [R1.out]; exact decide_eq_false (by omega)))
    have ad : decide (a < 0) = true := decide_eq_true al
    go_enter Tryd.func15, Tryd.ntmps15
    go_wp2_with fail
    refine (C17 _).mono ?_
    rintro e w2 ⟨rfl, rfl⟩
    go_wp2_with fail
    go_ret2
    exact ⟨renc_ret E.out rfl, hb1⟩
  have ad : decide (a < 0) = false := decide_eq_false al
  by_cases ah : 15 < a
  · have E := Lib.hid (enc_bad (i := ⟨op, a, b, c, n⟩) HF.out (by rw [R1.out]; exact decide_eq_false (by omega)))
    have af : decide (15 < a) = true := decide_eq_true ah
    go_enter Tryd.func15, Tryd.ntmps15
    go_wp2_with fail
    refine (C17 _).mono ?_
    rintro e w2 ⟨rfl, rfl⟩
    go_wp2_with fail
    go_ret2
    exact ⟨renc_ret E.out rfl, hb1⟩
  have af : decide (15 < a) = false := decide_eq_false ah
  by_cases bl : b < 0
  · have E := Lib.hid (enc_bad (i := ⟨op, a, b, c, n⟩) HF.out (by rw [R1.out]; exact decide_eq_false (by omega)))
    have bd : decide (b < 0) = true := decide_eq_true bl
    go_enter Tryd.func15, Tryd.ntmps15
    go_wp2_with fail
    refine (C17 _).mono ?_
    rintro e w2 ⟨rfl, rfl⟩
    go_wp2_with fail
    go_ret2
    exact ⟨renc_ret E.out rfl, hb1⟩
  have bd : decide (b < 0) = false := decide_eq_false bl
  by_cases bh : 15 < b
  · have E := Lib.hid (enc_bad (i := ⟨op, a, b, c, n⟩) HF.out (by rw [R1.out]; exact decide_eq_false (by omega)))
    have bf : decide (15 < b) = true := decide_eq_true bh
    go_enter Tryd.func15, Tryd.ntmps15
    go_wp2_with fail
    refine (C17 _).mono ?_
    rintro e w2 ⟨rfl, rfl⟩
    go_wp2_with fail
    go_ret2
    exact ⟨renc_ret E.out rfl, hb1⟩
  have bf : decide (15 < b) = false := decide_eq_false bh
  by_cases cl : c < 0
  · have E := Lib.hid (enc_bad (i := ⟨op, a, b, c, n⟩) HF.out (by rw [R1.out]; exact decide_eq_false (by omega)))
    have cd : decide (c < 0) = true := decide_eq_true cl
    go_enter Tryd.func15, Tryd.ntmps15
    go_wp2_with fail
    refine (C17 _).mono ?_
    rintro e w2 ⟨rfl, rfl⟩
    go_wp2_with fail
    go_ret2
    exact ⟨renc_ret E.out rfl, hb1⟩
  have cd : decide (c < 0) = false := decide_eq_false cl
  by_cases ch : 15 < c
  · have E := Lib.hid (enc_bad (i := ⟨op, a, b, c, n⟩) HF.out (by rw [R1.out]; exact decide_eq_false (by omega)))
    have cf : decide (15 < c) = true := decide_eq_true ch
    go_enter Tryd.func15, Tryd.ntmps15
    go_wp2_with fail
    refine (C17 _).mono ?_
    rintro e w2 ⟨rfl, rfl⟩
    go_wp2_with fail
    go_ret2
    exact ⟨renc_ret E.out rfl, hb1⟩
  have cf : decide (15 < c) = false := decide_eq_false ch
  by_cases cz : c = 0
  rotate_left
  · have E := Lib.hid (enc_bad (i := ⟨op, a, b, c, n⟩) HF.out (by rw [R1.out]; exact decide_eq_false (by omega)))
    have ce : (c == 0) = false := ne_eq cz
    have cn : (c != 0) = true := by rw [bne_iff_ne]; exact cz
    go_enter Tryd.func15, Tryd.ntmps15
    go_wp2_with fail
    refine (C17 _).mono ?_
    rintro e w2 ⟨rfl, rfl⟩
    go_wp2_with fail
    go_ret2
    exact ⟨renc_ret E.out rfl, hb1⟩
  have ce : (c == 0) = true := beq_iff_eq.2 cz
  have cn : (c != 0) = false := by simp [cz]
  have Hc := Lib.hid cz
  have cq0 : c ≤ 0 := by omega
  clear cz
  have hreg : Is.regsOk ⟨op, a, b, c, n⟩ = true := by rw [R1.out]; exact decide_eq_true (by omega)
  have HR := Lib.hid hreg
  clear hreg
  rcases imm_cases n (-32768) 32767 with h | ⟨h, h'⟩ | ⟨h, h'⟩
  · have E := Lib.hid (enc_range (i := ⟨op, a, b, c, n⟩) HF.out HR.out (by rw [R2.out]; exact decide_eq_false (by omega)))
    have nd : decide (n < (-32768)) = true := decide_eq_true h
    go_enter Tryd.func15, Tryd.ntmps15
    go_wp2_with fail
    refine (C17 _).mono ?_
    rintro e w2 ⟨rfl, rfl⟩
    go_wp2_with fail
    go_ret2
    exact ⟨renc_ret E.out rfl, hb1⟩
  · have E := Lib.hid (enc_range (i := ⟨op, a, b, c, n⟩) HF.out HR.out (by rw [R2.out]; exact decide_eq_false (by omega)))
    have nd : decide (n < (-32768)) = false := decide_eq_false h
    have nf : decide (32767 < n) = true := decide_eq_true h'
    go_enter Tryd.func15, Tryd.ntmps15
    go_wp2_with fail
    refine (C17 _).mono ?_
    rintro e w2 ⟨rfl, rfl⟩
    go_wp2_with fail
    go_ret2
    exact ⟨renc_ret E.out rfl, hb1⟩
  · have hI : Is.immOk ⟨op, a, b, c, n⟩ = true := by rw [R2.out]; exact decide_eq_true (by omega)
    have E := Lib.hid (Is.enc_of (i := ⟨op, a, b, c, n⟩) HF.out HR.out hI)
    have ED : Hid (Is.word ⟨op, a, b, c, n⟩ = op * 16777216 + a * 1048576 + b * 65536 + c * 4096 + n % 2 ^ (16 : Int).toNat) := by show _ = _; unfold Is.word; dsimp only; rw [hfn.out, Is.shape_I]
    clear hI
    have nd : decide (n < (-32768)) = false := decide_eq_false h
    have nf : decide (32767 < n) = false := decide_eq_false h'
    have HN := Lib.hid (show (-32768) ≤ n ∧ n ≤ 32767 by omega)
    go_enter Tryd.func15, Tryd.ntmps15
    go_wp2_with fail
    refine (C17 _).mono ?_
    rintro e w2 ⟨rfl, rfl⟩
    go_wp2_with fail
    go_ret2
    exact ⟨renc_ret E.out (by have := HN.out; rw [land16, word_bits ⟨by omega, by omega⟩ (by omega) (by omega) (by omega) (by omega) (.inr (.inl ⟨by omega, Hc.out⟩)), ED.out, Is.p16]), hb1⟩
theorem renc_U_ok {op a b c n : Int} (f : Is.form op = 85) : Is.regsOk ⟨op, a, b, c, n⟩ = decide ((0 ≤ a ∧ a ≤ 15 ∧ ((2 : Int) ≤ 0 → a = 0)) ∧ (0 ≤ b ∧ b ≤ 15 ∧ ((2 : Int) ≤ 1 → b = 0)) ∧ (0 ≤ c ∧ c ≤ 15 ∧ ((2 : Int) ≤ 2 → c = 0))) ∧ Is.immOk ⟨op, a, b, c, n⟩ = decide (0 ≤ n ∧ n ≤ 65535) := by
  unfold Is.regsOk Is.immOk Is.regOk
  dsimp only
  rw [f, Is.shape_U]
  refine ⟨?_, rfl⟩
  rw [Bool.eq_iff_iff, Bool.and_eq_true, Bool.and_eq_true, decide_eq_true_iff, decide_eq_true_iff, decide_eq_true_iff, decide_eq_true_iff, and_assoc]
set_option maxRecDepth 100000 in
set_option maxHeartbeats 4000000 in
theorem renc_U (i : Is.Ins) (hf : Is.form i.op = 85) (w : World) : Calls Tryd.prog 15 #[insV i] w (REnc i w) := by
  obtain ⟨op, a, b, c, n⟩ := i
  unfold insV
  have hb1 := (Below.refl w.heap.size w).alloc (Nat.le_refl _) (.cells #[.int .i64 op, .int .i64 a, .int .i64 b, .int .i64 c, .int .i64 n] 23)
  have hf0 : Is.form op ≠ 0 := by have h : Is.form op = 85 := hf; rw [h]; decide
  have hfn : Hid (Is.form op = 85) := hf
  have HF := Lib.hid hf0
  have hop := Is.form_range hf0
  obtain ⟨e1, e2⟩ := renc_U_ok (a := a) (b := b) (c := c) (n := n) hfn.out
  have R1 := Lib.hid e1
  have R2 := Lib.hid e2
  clear hf hf0 e1 e2
  have C17 : ∀ W, Calls Tryd.prog 17 #[.int .i64 op] W fun e w' => e = .returned (.tuple #[.int .u8 85, nameV op]) ∧ W = w' := by
    intro W
    have h := rform_any op W
    rw [hfn.out] at h
    exact h
  by_cases al : a < 0
  · have E := Lib.hid (enc_bad (i := ⟨op, a, b, c, n⟩) HF.out (by rw [R1.out]; exact decide_eq_false (by omega)))
    have ad : decide (a < 0) = true := decide_eq_true al
    go_enter Tryd.func15, Tryd.ntmps15
    go_wp2_with fail
    refine (C17 _).mono ?_
    rintro e w2 ⟨rfl, rfl⟩
    go_wp2_with fail
    go_ret2
    exact ⟨renc_ret E.out rfl, hb1⟩
  have ad : decide (a < 0) = false := decide_eq_false al
  by_cases ah : 15 < a
  · have E := Lib.hid (enc_bad (i := ⟨op, a, b, c, n⟩) HF.out (by rw [R1.out]; exact decide_eq_false (by omega)))
    have af : decide (15 < a) = true := decide_eq_true ah
    go_enter Tryd.func15, Tryd.ntmps15
    go_wp2_with fail
    refine (C17 _).mono ?_
    rintro e w2 ⟨rfl, rfl⟩
    go_wp2_with fail
    go_ret2
    exact ⟨renc_ret E.out rfl, hb1⟩
  have af : decide (15 < a) = false := decide_eq_false ah
  by_cases bl : b < 0
  · have E := Lib.hid (enc_bad (i := ⟨op, a, b, c, n⟩) HF.out (by rw [R1.out]; exact decide_eq_false (by omega)))
    have bd : decide (b < 0) = true := decide_eq_true bl
    go_enter Tryd.func15, Tryd.ntmps15
    go_wp2_with fail
    refine (C17 _).mono ?_
    rintro e w2 ⟨rfl, rfl⟩
    go_wp2_with fail
    go_ret2
    exact ⟨renc_ret E.out rfl, hb1⟩
  have bd : decide (b < 0) = false := decide_eq_false bl
  by_cases bh : 15 < b
  · have E := Lib.hid (enc_bad (i := ⟨op, a, b, c, n⟩) HF.out (by rw [R1.out]; exact decide_eq_false (by omega)))
    have bf : decide (15 < b) = true := decide_eq_true bh
    go_enter Tryd.func15, Tryd.ntmps15
    go_wp2_with fail
    refine (C17 _).mono ?_
    rintro e w2 ⟨rfl, rfl⟩
    go_wp2_with fail
    go_ret2
    exact ⟨renc_ret E.out rfl, hb1⟩
  have bf : decide (15 < b) = false := decide_eq_false bh
  by_cases cl : c < 0
  · have E := Lib.hid (enc_bad (i := ⟨op, a, b, c, n⟩) HF.out (by rw [R1.out]; exact decide_eq_false (by omega)))
    have cd : decide (c < 0) = true := decide_eq_true cl
    go_enter Tryd.func15, Tryd.ntmps15
    go_wp2_with fail
    refine (C17 _).mono ?_
    rintro e w2 ⟨rfl, rfl⟩
    go_wp2_with fail
    go_ret2
    exact ⟨renc_ret E.out rfl, hb1⟩
  have cd : decide (c < 0) = false := decide_eq_false cl
  by_cases ch : 15 < c
  · have E := Lib.hid (enc_bad (i := ⟨op, a, b, c, n⟩) HF.out (by rw [R1.out]; exact decide_eq_false (by omega)))
    have cf : decide (15 < c) = true := decide_eq_true ch
    go_enter Tryd.func15, Tryd.ntmps15
    go_wp2_with fail
    refine (C17 _).mono ?_
    rintro e w2 ⟨rfl, rfl⟩
    go_wp2_with fail
    go_ret2
    exact ⟨renc_ret E.out rfl, hb1⟩
  have cf : decide (15 < c) = false := decide_eq_false ch
  by_cases cz : c = 0
  rotate_left
  · have E := Lib.hid (enc_bad (i := ⟨op, a, b, c, n⟩) HF.out (by rw [R1.out]; exact decide_eq_false (by omega)))
    have ce : (c == 0) = false := ne_eq cz
    have cn : (c != 0) = true := by rw [bne_iff_ne]; exact cz
    go_enter Tryd.func15, Tryd.ntmps15
    go_wp2_with fail
    refine (C17 _).mono ?_
    rintro e w2 ⟨rfl, rfl⟩
    go_wp2_with fail
    go_ret2
    exact ⟨renc_ret E.out rfl, hb1⟩
  have ce : (c == 0) = true := beq_iff_eq.2 cz
  have cn : (c != 0) = false := by simp [cz]
  have Hc := Lib.hid cz
  have cq0 : c ≤ 0 := by omega
  clear cz
  have hreg : Is.regsOk ⟨op, a, b, c, n⟩ = true := by rw [R1.out]; exact decide_eq_true (by omega)
  have HR := Lib.hid hreg
  clear hreg
  rcases imm_cases n 0 65535 with h | ⟨h, h'⟩ | ⟨h, h'⟩
  · have E := Lib.hid (enc_range (i := ⟨op, a, b, c, n⟩) HF.out HR.out (by rw [R2.out]; exact decide_eq_false (by omega)))
    have nd : decide (n < 0) = true := decide_eq_true h
    go_enter Tryd.func15, Tryd.ntmps15
    go_wp2_with fail
    refine (C17 _).mono ?_
    rintro e w2 ⟨rfl, rfl⟩
    go_wp2_with fail
    go_ret2
    exact ⟨renc_ret E.out rfl, hb1⟩
  · have E := Lib.hid (enc_range (i := ⟨op, a, b, c, n⟩) HF.out HR.out (by rw [R2.out]; exact decide_eq_false (by omega)))
    have nd : decide (n < 0) = false := decide_eq_false h
    have nf : decide (65535 < n) = true := decide_eq_true h'
    go_enter Tryd.func15, Tryd.ntmps15
    go_wp2_with fail
    refine (C17 _).mono ?_
    rintro e w2 ⟨rfl, rfl⟩
    go_wp2_with fail
    go_ret2
    exact ⟨renc_ret E.out rfl, hb1⟩
  · have hI : Is.immOk ⟨op, a, b, c, n⟩ = true := by rw [R2.out]; exact decide_eq_true (by omega)
    have E := Lib.hid (Is.enc_of (i := ⟨op, a, b, c, n⟩) HF.out HR.out hI)
    have ED : Hid (Is.word ⟨op, a, b, c, n⟩ = op * 16777216 + a * 1048576 + b * 65536 + c * 4096 + n % 2 ^ (16 : Int).toNat) := by show _ = _; unfold Is.word; dsimp only; rw [hfn.out, Is.shape_U]
    clear hI
    have nd : decide (n < 0) = false := decide_eq_false h
    have nf : decide (65535 < n) = false := decide_eq_false h'
    have HN := Lib.hid (show 0 ≤ n ∧ n ≤ 65535 by omega)
    go_enter Tryd.func15, Tryd.ntmps15
    go_wp2_with fail
    refine (C17 _).mono ?_
    rintro e w2 ⟨rfl, rfl⟩
    go_wp2_with fail
    go_ret2
    exact ⟨renc_ret E.out (by have := HN.out; rw [land16, word_bits ⟨by omega, by omega⟩ (by omega) (by omega) (by omega) (by omega) (.inr (.inl ⟨by omega, Hc.out⟩)), ED.out, Is.p16]), hb1⟩
theorem renc_H_ok {op a b c n : Int} (f : Is.form op = 72) : Is.regsOk ⟨op, a, b, c, n⟩ = decide ((0 ≤ a ∧ a ≤ 15 ∧ ((2 : Int) ≤ 0 → a = 0)) ∧ (0 ≤ b ∧ b ≤ 15 ∧ ((2 : Int) ≤ 1 → b = 0)) ∧ (0 ≤ c ∧ c ≤ 15 ∧ ((2 : Int) ≤ 2 → c = 0))) ∧ Is.immOk ⟨op, a, b, c, n⟩ = decide (0 ≤ n ∧ n ≤ 31) := by
  unfold Is.regsOk Is.immOk Is.regOk
  dsimp only
  rw [f, Is.shape_H]
  refine ⟨?_, rfl⟩
  rw [Bool.eq_iff_iff, Bool.and_eq_true, Bool.and_eq_true, decide_eq_true_iff, decide_eq_true_iff, decide_eq_true_iff, decide_eq_true_iff, and_assoc]
set_option maxRecDepth 100000 in
set_option maxHeartbeats 4000000 in
theorem renc_H (i : Is.Ins) (hf : Is.form i.op = 72) (w : World) : Calls Tryd.prog 15 #[insV i] w (REnc i w) := by
  obtain ⟨op, a, b, c, n⟩ := i
  unfold insV
  have hb1 := (Below.refl w.heap.size w).alloc (Nat.le_refl _) (.cells #[.int .i64 op, .int .i64 a, .int .i64 b, .int .i64 c, .int .i64 n] 23)
  have hf0 : Is.form op ≠ 0 := by have h : Is.form op = 72 := hf; rw [h]; decide
  have hfn : Hid (Is.form op = 72) := hf
  have HF := Lib.hid hf0
  have hop := Is.form_range hf0
  obtain ⟨e1, e2⟩ := renc_H_ok (a := a) (b := b) (c := c) (n := n) hfn.out
  have R1 := Lib.hid e1
  have R2 := Lib.hid e2
  clear hf hf0 e1 e2
  have C17 : ∀ W, Calls Tryd.prog 17 #[.int .i64 op] W fun e w' => e = .returned (.tuple #[.int .u8 72, nameV op]) ∧ W = w' := by
    intro W
    have h := rform_any op W
    rw [hfn.out] at h
    exact h
  by_cases al : a < 0
  · have E := Lib.hid (enc_bad (i := ⟨op, a, b, c, n⟩) HF.out (by rw [R1.out]; exact decide_eq_false (by omega)))
    have ad : decide (a < 0) = true := decide_eq_true al
    go_enter Tryd.func15, Tryd.ntmps15
    go_wp2_with fail
    refine (C17 _).mono ?_
    rintro e w2 ⟨rfl, rfl⟩
    go_wp2_with fail
    go_ret2
    exact ⟨renc_ret E.out rfl, hb1⟩
  have ad : decide (a < 0) = false := decide_eq_false al
  by_cases ah : 15 < a
  · have E := Lib.hid (enc_bad (i := ⟨op, a, b, c, n⟩) HF.out (by rw [R1.out]; exact decide_eq_false (by omega)))
    have af : decide (15 < a) = true := decide_eq_true ah
    go_enter Tryd.func15, Tryd.ntmps15
    go_wp2_with fail
    refine (C17 _).mono ?_
    rintro e w2 ⟨rfl, rfl⟩
    go_wp2_with fail
    go_ret2
    exact ⟨renc_ret E.out rfl, hb1⟩
  have af : decide (15 < a) = false := decide_eq_false ah
  by_cases bl : b < 0
  · have E := Lib.hid (enc_bad (i := ⟨op, a, b, c, n⟩) HF.out (by rw [R1.out]; exact decide_eq_false (by omega)))
    have bd : decide (b < 0) = true := decide_eq_true bl
    go_enter Tryd.func15, Tryd.ntmps15
    go_wp2_with fail
    refine (C17 _).mono ?_
    rintro e w2 ⟨rfl, rfl⟩
    go_wp2_with fail
    go_ret2
    exact ⟨renc_ret E.out rfl, hb1⟩
  have bd : decide (b < 0) = false := decide_eq_false bl
  by_cases bh : 15 < b
  · have E := Lib.hid (enc_bad (i := ⟨op, a, b, c, n⟩) HF.out (by rw [R1.out]; exact decide_eq_false (by omega)))
    have bf : decide (15 < b) = true := decide_eq_true bh
    go_enter Tryd.func15, Tryd.ntmps15
    go_wp2_with fail
    refine (C17 _).mono ?_
    rintro e w2 ⟨rfl, rfl⟩
    go_wp2_with fail
    go_ret2
    exact ⟨renc_ret E.out rfl, hb1⟩
  have bf : decide (15 < b) = false := decide_eq_false bh
  by_cases cl : c < 0
  · have E := Lib.hid (enc_bad (i := ⟨op, a, b, c, n⟩) HF.out (by rw [R1.out]; exact decide_eq_false (by omega)))
    have cd : decide (c < 0) = true := decide_eq_true cl
    go_enter Tryd.func15, Tryd.ntmps15
    go_wp2_with fail
    refine (C17 _).mono ?_
    rintro e w2 ⟨rfl, rfl⟩
    go_wp2_with fail
    go_ret2
    exact ⟨renc_ret E.out rfl, hb1⟩
  have cd : decide (c < 0) = false := decide_eq_false cl
  by_cases ch : 15 < c
  · have E := Lib.hid (enc_bad (i := ⟨op, a, b, c, n⟩) HF.out (by rw [R1.out]; exact decide_eq_false (by omega)))
    have cf : decide (15 < c) = true := decide_eq_true ch
    go_enter Tryd.func15, Tryd.ntmps15
    go_wp2_with fail
    refine (C17 _).mono ?_
    rintro e w2 ⟨rfl, rfl⟩
    go_wp2_with fail
    go_ret2
    exact ⟨renc_ret E.out rfl, hb1⟩
  have cf : decide (15 < c) = false := decide_eq_false ch
  by_cases cz : c = 0
  rotate_left
  · have E := Lib.hid (enc_bad (i := ⟨op, a, b, c, n⟩) HF.out (by rw [R1.out]; exact decide_eq_false (by omega)))
    have ce : (c == 0) = false := ne_eq cz
    have cn : (c != 0) = true := by rw [bne_iff_ne]; exact cz
    go_enter Tryd.func15, Tryd.ntmps15
    go_wp2_with fail
    refine (C17 _).mono ?_
    rintro e w2 ⟨rfl, rfl⟩
    go_wp2_with fail
    go_ret2
    exact ⟨renc_ret E.out rfl, hb1⟩
  have ce : (c == 0) = true := beq_iff_eq.2 cz
  have cn : (c != 0) = false := by simp [cz]
  have Hc := Lib.hid cz
  have cq0 : c ≤ 0 := by omega
  clear cz
  have hreg : Is.regsOk ⟨op, a, b, c, n⟩ = true := by rw [R1.out]; exact decide_eq_true (by omega)
  have HR := Lib.hid hreg
  clear hreg
  rcases imm_cases n 0 31 with h | ⟨h, h'⟩ | ⟨h, h'⟩
  · have E := Lib.hid (enc_range (i := ⟨op, a, b, c, n⟩) HF.out HR.out (by rw [R2.out]; exact decide_eq_false (by omega)))
    have nd : decide (n < 0) = true := decide_eq_true h
    go_enter Tryd.func15, Tryd.ntmps15
    go_wp2_with fail
    refine (C17 _).mono ?_
    rintro e w2 ⟨rfl, rfl⟩
    go_wp2_with fail
    go_ret2
    exact ⟨renc_ret E.out rfl, hb1⟩
  · have E := Lib.hid (enc_range (i := ⟨op, a, b, c, n⟩) HF.out HR.out (by rw [R2.out]; exact decide_eq_false (by omega)))
    have nd : decide (n < 0) = false := decide_eq_false h
    have nf : decide (31 < n) = true := decide_eq_true h'
    go_enter Tryd.func15, Tryd.ntmps15
    go_wp2_with fail
    refine (C17 _).mono ?_
    rintro e w2 ⟨rfl, rfl⟩
    go_wp2_with fail
    go_ret2
    exact ⟨renc_ret E.out rfl, hb1⟩
  · have hI : Is.immOk ⟨op, a, b, c, n⟩ = true := by rw [R2.out]; exact decide_eq_true (by omega)
    have E := Lib.hid (Is.enc_of (i := ⟨op, a, b, c, n⟩) HF.out HR.out hI)
    have ED : Hid (Is.word ⟨op, a, b, c, n⟩ = op * 16777216 + a * 1048576 + b * 65536 + c * 4096 + n % 2 ^ (16 : Int).toNat) := by show _ = _; unfold Is.word; dsimp only; rw [hfn.out, Is.shape_H]
    clear hI
    have nd : decide (n < 0) = false := decide_eq_false h
    have nf : decide (31 < n) = false := decide_eq_false h'
    have HN := Lib.hid (show 0 ≤ n ∧ n ≤ 31 by omega)
    go_enter Tryd.func15, Tryd.ntmps15
    go_wp2_with fail
    refine (C17 _).mono ?_
    rintro e w2 ⟨rfl, rfl⟩
    go_wp2_with fail
    go_ret2
    exact ⟨renc_ret E.out (by have := HN.out; rw [land16, word_bits ⟨by omega, by omega⟩ (by omega) (by omega) (by omega) (by omega) (.inr (.inl ⟨by omega, Hc.out⟩)), ED.out, Is.p16]), hb1⟩
theorem renc_L_ok {op a b c n : Int} (f : Is.form op = 76) : Is.regsOk ⟨op, a, b, c, n⟩ = decide ((0 ≤ a ∧ a ≤ 15 ∧ ((1 : Int) ≤ 0 → a = 0)) ∧ (0 ≤ b ∧ b ≤ 15 ∧ ((1 : Int) ≤ 1 → b = 0)) ∧ (0 ≤ c ∧ c ≤ 15 ∧ ((1 : Int) ≤ 2 → c = 0))) ∧ Is.immOk ⟨op, a, b, c, n⟩ = decide (0 ≤ n ∧ n ≤ 65535) := by
  unfold Is.regsOk Is.immOk Is.regOk
  dsimp only
  rw [f, Is.shape_L]
  refine ⟨?_, rfl⟩
  rw [Bool.eq_iff_iff, Bool.and_eq_true, Bool.and_eq_true, decide_eq_true_iff, decide_eq_true_iff, decide_eq_true_iff, decide_eq_true_iff, and_assoc]
set_option maxRecDepth 100000 in
set_option maxHeartbeats 4000000 in
theorem renc_L (i : Is.Ins) (hf : Is.form i.op = 76) (w : World) : Calls Tryd.prog 15 #[insV i] w (REnc i w) := by
  obtain ⟨op, a, b, c, n⟩ := i
  unfold insV
  have hb1 := (Below.refl w.heap.size w).alloc (Nat.le_refl _) (.cells #[.int .i64 op, .int .i64 a, .int .i64 b, .int .i64 c, .int .i64 n] 23)
  have hf0 : Is.form op ≠ 0 := by have h : Is.form op = 76 := hf; rw [h]; decide
  have hfn : Hid (Is.form op = 76) := hf
  have HF := Lib.hid hf0
  have hop := Is.form_range hf0
  obtain ⟨e1, e2⟩ := renc_L_ok (a := a) (b := b) (c := c) (n := n) hfn.out
  have R1 := Lib.hid e1
  have R2 := Lib.hid e2
  clear hf hf0 e1 e2
  have C17 : ∀ W, Calls Tryd.prog 17 #[.int .i64 op] W fun e w' => e = .returned (.tuple #[.int .u8 76, nameV op]) ∧ W = w' := by
    intro W
    have h := rform_any op W
    rw [hfn.out] at h
    exact h
  by_cases al : a < 0
  · have E := Lib.hid (enc_bad (i := ⟨op, a, b, c, n⟩) HF.out (by rw [R1.out]; exact decide_eq_false (by omega)))
    have ad : decide (a < 0) = true := decide_eq_true al
    go_enter Tryd.func15, Tryd.ntmps15
    go_wp2_with fail
    refine (C17 _).mono ?_
    rintro e w2 ⟨rfl, rfl⟩
    go_wp2_with fail
    go_ret2
    exact ⟨renc_ret E.out rfl, hb1⟩
  have ad : decide (a < 0) = false := decide_eq_false al
  by_cases ah : 15 < a
  · have E := Lib.hid (enc_bad (i := ⟨op, a, b, c, n⟩) HF.out (by rw [R1.out]; exact decide_eq_false (by omega)))
    have af : decide (15 < a) = true := decide_eq_true ah
    go_enter Tryd.func15, Tryd.ntmps15
    go_wp2_with fail
    refine (C17 _).mono ?_
    rintro e w2 ⟨rfl, rfl⟩
    go_wp2_with fail
    go_ret2
    exact ⟨renc_ret E.out rfl, hb1⟩
  have af : decide (15 < a) = false := decide_eq_false ah
  by_cases bl : b < 0
  · have E := Lib.hid (enc_bad (i := ⟨op, a, b, c, n⟩) HF.out (by rw [R1.out]; exact decide_eq_false (by omega)))
    have bd : decide (b < 0) = true := decide_eq_true bl
    go_enter Tryd.func15, Tryd.ntmps15
    go_wp2_with fail
    refine (C17 _).mono ?_
    rintro e w2 ⟨rfl, rfl⟩
    go_wp2_with fail
    go_ret2
    exact ⟨renc_ret E.out rfl, hb1⟩
  have bd : decide (b < 0) = false := decide_eq_false bl
  by_cases bh : 15 < b
  · have E := Lib.hid (enc_bad (i := ⟨op, a, b, c, n⟩) HF.out (by rw [R1.out]; exact decide_eq_false (by omega)))
    have bf : decide (15 < b) = true := decide_eq_true bh
    go_enter Tryd.func15, Tryd.ntmps15
    go_wp2_with fail
    refine (C17 _).mono ?_
    rintro e w2 ⟨rfl, rfl⟩
    go_wp2_with fail
    go_ret2
    exact ⟨renc_ret E.out rfl, hb1⟩
  have bf : decide (15 < b) = false := decide_eq_false bh
  by_cases cl : c < 0
  · have E := Lib.hid (enc_bad (i := ⟨op, a, b, c, n⟩) HF.out (by rw [R1.out]; exact decide_eq_false (by omega)))
    have cd : decide (c < 0) = true := decide_eq_true cl
    go_enter Tryd.func15, Tryd.ntmps15
    go_wp2_with fail
    refine (C17 _).mono ?_
    rintro e w2 ⟨rfl, rfl⟩
    go_wp2_with fail
    go_ret2
    exact ⟨renc_ret E.out rfl, hb1⟩
  have cd : decide (c < 0) = false := decide_eq_false cl
  by_cases ch : 15 < c
  · have E := Lib.hid (enc_bad (i := ⟨op, a, b, c, n⟩) HF.out (by rw [R1.out]; exact decide_eq_false (by omega)))
    have cf : decide (15 < c) = true := decide_eq_true ch
    go_enter Tryd.func15, Tryd.ntmps15
    go_wp2_with fail
    refine (C17 _).mono ?_
    rintro e w2 ⟨rfl, rfl⟩
    go_wp2_with fail
    go_ret2
    exact ⟨renc_ret E.out rfl, hb1⟩
  have cf : decide (15 < c) = false := decide_eq_false ch
  by_cases bz : b = 0
  rotate_left
  · have E := Lib.hid (enc_bad (i := ⟨op, a, b, c, n⟩) HF.out (by rw [R1.out]; exact decide_eq_false (by omega)))
    have be : (b == 0) = false := ne_eq bz
    have bn : (b != 0) = true := by rw [bne_iff_ne]; exact bz
    go_enter Tryd.func15, Tryd.ntmps15
    go_wp2_with fail
    refine (C17 _).mono ?_
    rintro e w2 ⟨rfl, rfl⟩
    go_wp2_with fail
    go_ret2
    exact ⟨renc_ret E.out rfl, hb1⟩
  have be : (b == 0) = true := beq_iff_eq.2 bz
  have bn : (b != 0) = false := by simp [bz]
  have Hb := Lib.hid bz
  have bq0 : b ≤ 0 := by omega
  clear bz
  by_cases cz : c = 0
  rotate_left
  · have E := Lib.hid (enc_bad (i := ⟨op, a, b, c, n⟩) HF.out (by rw [R1.out]; exact decide_eq_false (by omega)))
    have ce : (c == 0) = false := ne_eq cz
    have cn : (c != 0) = true := by rw [bne_iff_ne]; exact cz
    go_enter Tryd.func15, Tryd.ntmps15
    go_wp2_with fail
    refine (C17 _).mono ?_
    rintro e w2 ⟨rfl, rfl⟩
    go_wp2_with fail
    go_ret2
    exact ⟨renc_ret E.out rfl, hb1⟩
  have ce : (c == 0) = true := beq_iff_eq.2 cz
  have cn : (c != 0) = false := by simp [cz]
  have Hc := Lib.hid cz
  have cq0 : c ≤ 0 := by omega
  clear cz
  have hreg : Is.regsOk ⟨op, a, b, c, n⟩ = true := by rw [R1.out]; exact decide_eq_true (by omega)
  have HR := Lib.hid hreg
  clear hreg
  rcases imm_cases n 0 65535 with h | ⟨h, h'⟩ | ⟨h, h'⟩
  · have E := Lib.hid (enc_range (i := ⟨op, a, b, c, n⟩) HF.out HR.out (by rw [R2.out]; exact decide_eq_false (by omega)))
    have nd : decide (n < 0) = true := decide_eq_true h
    go_enter Tryd.func15, Tryd.ntmps15
    go_wp2_with fail
    refine (C17 _).mono ?_
    rintro e w2 ⟨rfl, rfl⟩
    go_wp2_with fail
    go_ret2
    exact ⟨renc_ret E.out rfl, hb1⟩
  · have E := Lib.hid (enc_range (i := ⟨op, a, b, c, n⟩) HF.out HR.out (by rw [R2.out]; exact decide_eq_false (by omega)))
    have nd : decide (n < 0) = false := decide_eq_false h
    have nf : decide (65535 < n) = true := decide_eq_true h'
    go_enter Tryd.func15, Tryd.ntmps15
    go_wp2_with fail
    refine (C17 _).mono ?_
    rintro e w2 ⟨rfl, rfl⟩
    go_wp2_with fail
    go_ret2
    exact ⟨renc_ret E.out rfl, hb1⟩
  · have hI : Is.immOk ⟨op, a, b, c, n⟩ = true := by rw [R2.out]; exact decide_eq_true (by omega)
    have E := Lib.hid (Is.enc_of (i := ⟨op, a, b, c, n⟩) HF.out HR.out hI)
    have ED : Hid (Is.word ⟨op, a, b, c, n⟩ = op * 16777216 + a * 1048576 + b * 65536 + c * 4096 + n % 2 ^ (16 : Int).toNat) := by show _ = _; unfold Is.word; dsimp only; rw [hfn.out, Is.shape_L]
    clear hI
    have nd : decide (n < 0) = false := decide_eq_false h
    have nf : decide (65535 < n) = false := decide_eq_false h'
    have HN := Lib.hid (show 0 ≤ n ∧ n ≤ 65535 by omega)
    go_enter Tryd.func15, Tryd.ntmps15
    go_wp2_with fail
    refine (C17 _).mono ?_
    rintro e w2 ⟨rfl, rfl⟩
    go_wp2_with fail
    go_ret2
    exact ⟨renc_ret E.out (by have := HN.out; rw [land16, word_bits ⟨by omega, by omega⟩ (by omega) (by omega) (by omega) (by omega) (.inr (.inl ⟨by omega, Hc.out⟩)), ED.out, Is.p16]), hb1⟩
theorem renc_J_ok {op a b c n : Int} (f : Is.form op = 74) : Is.regsOk ⟨op, a, b, c, n⟩ = decide ((0 ≤ a ∧ a ≤ 15 ∧ ((1 : Int) ≤ 0 → a = 0)) ∧ (0 ≤ b ∧ b ≤ 15 ∧ ((1 : Int) ≤ 1 → b = 0)) ∧ (0 ≤ c ∧ c ≤ 15 ∧ ((1 : Int) ≤ 2 → c = 0))) ∧ Is.immOk ⟨op, a, b, c, n⟩ = decide ((-524288) ≤ n ∧ n ≤ 524287) := by
  unfold Is.regsOk Is.immOk Is.regOk
  dsimp only
  rw [f, Is.shape_J]
  refine ⟨?_, rfl⟩
  rw [Bool.eq_iff_iff, Bool.and_eq_true, Bool.and_eq_true, decide_eq_true_iff, decide_eq_true_iff, decide_eq_true_iff, decide_eq_true_iff, and_assoc]
set_option maxRecDepth 100000 in
set_option maxHeartbeats 4000000 in
theorem renc_J (i : Is.Ins) (hf : Is.form i.op = 74) (w : World) : Calls Tryd.prog 15 #[insV i] w (REnc i w) := by
  obtain ⟨op, a, b, c, n⟩ := i
  unfold insV
  have hb1 := (Below.refl w.heap.size w).alloc (Nat.le_refl _) (.cells #[.int .i64 op, .int .i64 a, .int .i64 b, .int .i64 c, .int .i64 n] 23)
  have hf0 : Is.form op ≠ 0 := by have h : Is.form op = 74 := hf; rw [h]; decide
  have hfn : Hid (Is.form op = 74) := hf
  have HF := Lib.hid hf0
  have hop := Is.form_range hf0
  obtain ⟨e1, e2⟩ := renc_J_ok (a := a) (b := b) (c := c) (n := n) hfn.out
  have R1 := Lib.hid e1
  have R2 := Lib.hid e2
  clear hf hf0 e1 e2
  have C17 : ∀ W, Calls Tryd.prog 17 #[.int .i64 op] W fun e w' => e = .returned (.tuple #[.int .u8 74, nameV op]) ∧ W = w' := by
    intro W
    have h := rform_any op W
    rw [hfn.out] at h
    exact h
  by_cases al : a < 0
  · have E := Lib.hid (enc_bad (i := ⟨op, a, b, c, n⟩) HF.out (by rw [R1.out]; exact decide_eq_false (by omega)))
    have ad : decide (a < 0) = true := decide_eq_true al
    go_enter Tryd.func15, Tryd.ntmps15
    go_wp2_with fail
    refine (C17 _).mono ?_
    rintro e w2 ⟨rfl, rfl⟩
    go_wp2_with fail
    go_ret2
    exact ⟨renc_ret E.out rfl, hb1⟩
  have ad : decide (a < 0) = false := decide_eq_false al
  by_cases ah : 15 < a
  · have E := Lib.hid (enc_bad (i := ⟨op, a, b, c, n⟩) HF.out (by rw [R1.out]; exact decide_eq_false (by omega)))
    have af : decide (15 < a) = true := decide_eq_true ah
    go_enter Tryd.func15, Tryd.ntmps15
    go_wp2_with fail
    refine (C17 _).mono ?_
    rintro e w2 ⟨rfl, rfl⟩
    go_wp2_with fail
    go_ret2
    exact ⟨renc_ret E.out rfl, hb1⟩
  have af : decide (15 < a) = false := decide_eq_false ah
  by_cases bl : b < 0
  · have E := Lib.hid (enc_bad (i := ⟨op, a, b, c, n⟩) HF.out (by rw [R1.out]; exact decide_eq_false (by omega)))
    have bd : decide (b < 0) = true := decide_eq_true bl
    go_enter Tryd.func15, Tryd.ntmps15
    go_wp2_with fail
    refine (C17 _).mono ?_
    rintro e w2 ⟨rfl, rfl⟩
    go_wp2_with fail
    go_ret2
    exact ⟨renc_ret E.out rfl, hb1⟩
  have bd : decide (b < 0) = false := decide_eq_false bl
  by_cases bh : 15 < b
  · have E := Lib.hid (enc_bad (i := ⟨op, a, b, c, n⟩) HF.out (by rw [R1.out]; exact decide_eq_false (by omega)))
    have bf : decide (15 < b) = true := decide_eq_true bh
    go_enter Tryd.func15, Tryd.ntmps15
    go_wp2_with fail
    refine (C17 _).mono ?_
    rintro e w2 ⟨rfl, rfl⟩
    go_wp2_with fail
    go_ret2
    exact ⟨renc_ret E.out rfl, hb1⟩
  have bf : decide (15 < b) = false := decide_eq_false bh
  by_cases cl : c < 0
  · have E := Lib.hid (enc_bad (i := ⟨op, a, b, c, n⟩) HF.out (by rw [R1.out]; exact decide_eq_false (by omega)))
    have cd : decide (c < 0) = true := decide_eq_true cl
    go_enter Tryd.func15, Tryd.ntmps15
    go_wp2_with fail
    refine (C17 _).mono ?_
    rintro e w2 ⟨rfl, rfl⟩
    go_wp2_with fail
    go_ret2
    exact ⟨renc_ret E.out rfl, hb1⟩
  have cd : decide (c < 0) = false := decide_eq_false cl
  by_cases ch : 15 < c
  · have E := Lib.hid (enc_bad (i := ⟨op, a, b, c, n⟩) HF.out (by rw [R1.out]; exact decide_eq_false (by omega)))
    have cf : decide (15 < c) = true := decide_eq_true ch
    go_enter Tryd.func15, Tryd.ntmps15
    go_wp2_with fail
    refine (C17 _).mono ?_
    rintro e w2 ⟨rfl, rfl⟩
    go_wp2_with fail
    go_ret2
    exact ⟨renc_ret E.out rfl, hb1⟩
  have cf : decide (15 < c) = false := decide_eq_false ch
  by_cases bz : b = 0
  rotate_left
  · have E := Lib.hid (enc_bad (i := ⟨op, a, b, c, n⟩) HF.out (by rw [R1.out]; exact decide_eq_false (by omega)))
    have be : (b == 0) = false := ne_eq bz
    have bn : (b != 0) = true := by rw [bne_iff_ne]; exact bz
    go_enter Tryd.func15, Tryd.ntmps15
    go_wp2_with fail
    refine (C17 _).mono ?_
    rintro e w2 ⟨rfl, rfl⟩
    go_wp2_with fail
    go_ret2
    exact ⟨renc_ret E.out rfl, hb1⟩
  have be : (b == 0) = true := beq_iff_eq.2 bz
  have bn : (b != 0) = false := by simp [bz]
  have Hb := Lib.hid bz
  have bq0 : b ≤ 0 := by omega
  clear bz
  by_cases cz : c = 0
  rotate_left
  · have E := Lib.hid (enc_bad (i := ⟨op, a, b, c, n⟩) HF.out (by rw [R1.out]; exact decide_eq_false (by omega)))
    have ce : (c == 0) = false := ne_eq cz
    have cn : (c != 0) = true := by rw [bne_iff_ne]; exact cz
    go_enter Tryd.func15, Tryd.ntmps15
    go_wp2_with fail
    refine (C17 _).mono ?_
    rintro e w2 ⟨rfl, rfl⟩
    go_wp2_with fail
    go_ret2
    exact ⟨renc_ret E.out rfl, hb1⟩
  have ce : (c == 0) = true := beq_iff_eq.2 cz
  have cn : (c != 0) = false := by simp [cz]
  have Hc := Lib.hid cz
  have cq0 : c ≤ 0 := by omega
  clear cz
  have hreg : Is.regsOk ⟨op, a, b, c, n⟩ = true := by rw [R1.out]; exact decide_eq_true (by omega)
  have HR := Lib.hid hreg
  clear hreg
  rcases imm_cases n (-524288) 524287 with h | ⟨h, h'⟩ | ⟨h, h'⟩
  · have E := Lib.hid (enc_range (i := ⟨op, a, b, c, n⟩) HF.out HR.out (by rw [R2.out]; exact decide_eq_false (by omega)))
    have nd : decide (n < (-524288)) = true := decide_eq_true h
    go_enter Tryd.func15, Tryd.ntmps15
    go_wp2_with fail
    refine (C17 _).mono ?_
    rintro e w2 ⟨rfl, rfl⟩
    go_wp2_with fail
    go_ret2
    exact ⟨renc_ret E.out rfl, hb1⟩
  · have E := Lib.hid (enc_range (i := ⟨op, a, b, c, n⟩) HF.out HR.out (by rw [R2.out]; exact decide_eq_false (by omega)))
    have nd : decide (n < (-524288)) = false := decide_eq_false h
    have nf : decide (524287 < n) = true := decide_eq_true h'
    go_enter Tryd.func15, Tryd.ntmps15
    go_wp2_with fail
    refine (C17 _).mono ?_
    rintro e w2 ⟨rfl, rfl⟩
    go_wp2_with fail
    go_ret2
    exact ⟨renc_ret E.out rfl, hb1⟩
  · have hI : Is.immOk ⟨op, a, b, c, n⟩ = true := by rw [R2.out]; exact decide_eq_true (by omega)
    have E := Lib.hid (Is.enc_of (i := ⟨op, a, b, c, n⟩) HF.out HR.out hI)
    have ED : Hid (Is.word ⟨op, a, b, c, n⟩ = op * 16777216 + a * 1048576 + b * 65536 + c * 4096 + n % 2 ^ (20 : Int).toNat) := by show _ = _; unfold Is.word; dsimp only; rw [hfn.out, Is.shape_J]
    clear hI
    have nd : decide (n < (-524288)) = false := decide_eq_false h
    have nf : decide (524287 < n) = false := decide_eq_false h'
    have HN := Lib.hid (show (-524288) ≤ n ∧ n ≤ 524287 by omega)
    go_enter Tryd.func15, Tryd.ntmps15
    go_wp2_with fail
    refine (C17 _).mono ?_
    rintro e w2 ⟨rfl, rfl⟩
    go_wp2_with fail
    go_ret2
    exact ⟨renc_ret E.out (by have := HN.out; rw [land20, word_bits ⟨by omega, by omega⟩ (by omega) (by omega) (by omega) (by omega) (.inr (.inr ⟨by omega, Hb.out, Hc.out⟩)), ED.out, Is.p20]), hb1⟩
theorem renc_C_ok {op a b c n : Int} (f : Is.form op = 67) : Is.regsOk ⟨op, a, b, c, n⟩ = decide ((0 ≤ a ∧ a ≤ 15 ∧ ((1 : Int) ≤ 0 → a = 0)) ∧ (0 ≤ b ∧ b ≤ 15 ∧ ((1 : Int) ≤ 1 → b = 0)) ∧ (0 ≤ c ∧ c ≤ 15 ∧ ((1 : Int) ≤ 2 → c = 0))) ∧ Is.immOk ⟨op, a, b, c, n⟩ = decide (0 ≤ n ∧ n ≤ 10) := by
  unfold Is.regsOk Is.immOk Is.regOk
  dsimp only
  rw [f, Is.shape_C]
  refine ⟨?_, rfl⟩
  rw [Bool.eq_iff_iff, Bool.and_eq_true, Bool.and_eq_true, decide_eq_true_iff, decide_eq_true_iff, decide_eq_true_iff, decide_eq_true_iff, and_assoc]
set_option maxRecDepth 100000 in
set_option maxHeartbeats 4000000 in
theorem renc_C (i : Is.Ins) (hf : Is.form i.op = 67) (w : World) : Calls Tryd.prog 15 #[insV i] w (REnc i w) := by
  obtain ⟨op, a, b, c, n⟩ := i
  unfold insV
  have hb1 := (Below.refl w.heap.size w).alloc (Nat.le_refl _) (.cells #[.int .i64 op, .int .i64 a, .int .i64 b, .int .i64 c, .int .i64 n] 23)
  have hf0 : Is.form op ≠ 0 := by have h : Is.form op = 67 := hf; rw [h]; decide
  have hfn : Hid (Is.form op = 67) := hf
  have HF := Lib.hid hf0
  have hop := Is.form_range hf0
  obtain ⟨e1, e2⟩ := renc_C_ok (a := a) (b := b) (c := c) (n := n) hfn.out
  have R1 := Lib.hid e1
  have R2 := Lib.hid e2
  clear hf hf0 e1 e2
  have C17 : ∀ W, Calls Tryd.prog 17 #[.int .i64 op] W fun e w' => e = .returned (.tuple #[.int .u8 67, nameV op]) ∧ W = w' := by
    intro W
    have h := rform_any op W
    rw [hfn.out] at h
    exact h
  by_cases al : a < 0
  · have E := Lib.hid (enc_bad (i := ⟨op, a, b, c, n⟩) HF.out (by rw [R1.out]; exact decide_eq_false (by omega)))
    have ad : decide (a < 0) = true := decide_eq_true al
    go_enter Tryd.func15, Tryd.ntmps15
    go_wp2_with fail
    refine (C17 _).mono ?_
    rintro e w2 ⟨rfl, rfl⟩
    go_wp2_with fail
    go_ret2
    exact ⟨renc_ret E.out rfl, hb1⟩
  have ad : decide (a < 0) = false := decide_eq_false al
  by_cases ah : 15 < a
  · have E := Lib.hid (enc_bad (i := ⟨op, a, b, c, n⟩) HF.out (by rw [R1.out]; exact decide_eq_false (by omega)))
    have af : decide (15 < a) = true := decide_eq_true ah
    go_enter Tryd.func15, Tryd.ntmps15
    go_wp2_with fail
    refine (C17 _).mono ?_
    rintro e w2 ⟨rfl, rfl⟩
    go_wp2_with fail
    go_ret2
    exact ⟨renc_ret E.out rfl, hb1⟩
  have af : decide (15 < a) = false := decide_eq_false ah
  by_cases bl : b < 0
  · have E := Lib.hid (enc_bad (i := ⟨op, a, b, c, n⟩) HF.out (by rw [R1.out]; exact decide_eq_false (by omega)))
    have bd : decide (b < 0) = true := decide_eq_true bl
    go_enter Tryd.func15, Tryd.ntmps15
    go_wp2_with fail
    refine (C17 _).mono ?_
    rintro e w2 ⟨rfl, rfl⟩
    go_wp2_with fail
    go_ret2
    exact ⟨renc_ret E.out rfl, hb1⟩
  have bd : decide (b < 0) = false := decide_eq_false bl
  by_cases bh : 15 < b
  · have E := Lib.hid (enc_bad (i := ⟨op, a, b, c, n⟩) HF.out (by rw [R1.out]; exact decide_eq_false (by omega)))
    have bf : decide (15 < b) = true := decide_eq_true bh
    go_enter Tryd.func15, Tryd.ntmps15
    go_wp2_with fail
    refine (C17 _).mono ?_
    rintro e w2 ⟨rfl, rfl⟩
    go_wp2_with fail
    go_ret2
    exact ⟨renc_ret E.out rfl, hb1⟩
  have bf : decide (15 < b) = false := decide_eq_false bh
  by_cases cl : c < 0
  · have E := Lib.hid (enc_bad (i := ⟨op, a, b, c, n⟩) HF.out (by rw [R1.out]; exact decide_eq_false (by omega)))
    have cd : decide (c < 0) = true := decide_eq_true cl
    go_enter Tryd.func15, Tryd.ntmps15
    go_wp2_with fail
    refine (C17 _).mono ?_
    rintro e w2 ⟨rfl, rfl⟩
    go_wp2_with fail
    go_ret2
    exact ⟨renc_ret E.out rfl, hb1⟩
  have cd : decide (c < 0) = false := decide_eq_false cl
  by_cases ch : 15 < c
  · have E := Lib.hid (enc_bad (i := ⟨op, a, b, c, n⟩) HF.out (by rw [R1.out]; exact decide_eq_false (by omega)))
    have cf : decide (15 < c) = true := decide_eq_true ch
    go_enter Tryd.func15, Tryd.ntmps15
    go_wp2_with fail
    refine (C17 _).mono ?_
    rintro e w2 ⟨rfl, rfl⟩
    go_wp2_with fail
    go_ret2
    exact ⟨renc_ret E.out rfl, hb1⟩
  have cf : decide (15 < c) = false := decide_eq_false ch
  by_cases bz : b = 0
  rotate_left
  · have E := Lib.hid (enc_bad (i := ⟨op, a, b, c, n⟩) HF.out (by rw [R1.out]; exact decide_eq_false (by omega)))
    have be : (b == 0) = false := ne_eq bz
    have bn : (b != 0) = true := by rw [bne_iff_ne]; exact bz
    go_enter Tryd.func15, Tryd.ntmps15
    go_wp2_with fail
    refine (C17 _).mono ?_
    rintro e w2 ⟨rfl, rfl⟩
    go_wp2_with fail
    go_ret2
    exact ⟨renc_ret E.out rfl, hb1⟩
  have be : (b == 0) = true := beq_iff_eq.2 bz
  have bn : (b != 0) = false := by simp [bz]
  have Hb := Lib.hid bz
  have bq0 : b ≤ 0 := by omega
  clear bz
  by_cases cz : c = 0
  rotate_left
  · have E := Lib.hid (enc_bad (i := ⟨op, a, b, c, n⟩) HF.out (by rw [R1.out]; exact decide_eq_false (by omega)))
    have ce : (c == 0) = false := ne_eq cz
    have cn : (c != 0) = true := by rw [bne_iff_ne]; exact cz
    go_enter Tryd.func15, Tryd.ntmps15
    go_wp2_with fail
    refine (C17 _).mono ?_
    rintro e w2 ⟨rfl, rfl⟩
    go_wp2_with fail
    go_ret2
    exact ⟨renc_ret E.out rfl, hb1⟩
  have ce : (c == 0) = true := beq_iff_eq.2 cz
  have cn : (c != 0) = false := by simp [cz]
  have Hc := Lib.hid cz
  have cq0 : c ≤ 0 := by omega
  clear cz
  have hreg : Is.regsOk ⟨op, a, b, c, n⟩ = true := by rw [R1.out]; exact decide_eq_true (by omega)
  have HR := Lib.hid hreg
  clear hreg
  rcases imm_cases n 0 10 with h | ⟨h, h'⟩ | ⟨h, h'⟩
  · have E := Lib.hid (enc_range (i := ⟨op, a, b, c, n⟩) HF.out HR.out (by rw [R2.out]; exact decide_eq_false (by omega)))
    have nd : decide (n < 0) = true := decide_eq_true h
    go_enter Tryd.func15, Tryd.ntmps15
    go_wp2_with fail
    refine (C17 _).mono ?_
    rintro e w2 ⟨rfl, rfl⟩
    go_wp2_with fail
    go_ret2
    exact ⟨renc_ret E.out rfl, hb1⟩
  · have E := Lib.hid (enc_range (i := ⟨op, a, b, c, n⟩) HF.out HR.out (by rw [R2.out]; exact decide_eq_false (by omega)))
    have nd : decide (n < 0) = false := decide_eq_false h
    have nf : decide (10 < n) = true := decide_eq_true h'
    go_enter Tryd.func15, Tryd.ntmps15
    go_wp2_with fail
    refine (C17 _).mono ?_
    rintro e w2 ⟨rfl, rfl⟩
    go_wp2_with fail
    go_ret2
    exact ⟨renc_ret E.out rfl, hb1⟩
  · have hI : Is.immOk ⟨op, a, b, c, n⟩ = true := by rw [R2.out]; exact decide_eq_true (by omega)
    have E := Lib.hid (Is.enc_of (i := ⟨op, a, b, c, n⟩) HF.out HR.out hI)
    have ED : Hid (Is.word ⟨op, a, b, c, n⟩ = op * 16777216 + a * 1048576 + b * 65536 + c * 4096 + n % 2 ^ (16 : Int).toNat) := by show _ = _; unfold Is.word; dsimp only; rw [hfn.out, Is.shape_C]
    clear hI
    have nd : decide (n < 0) = false := decide_eq_false h
    have nf : decide (10 < n) = false := decide_eq_false h'
    have HN := Lib.hid (show 0 ≤ n ∧ n ≤ 10 by omega)
    go_enter Tryd.func15, Tryd.ntmps15
    go_wp2_with fail
    refine (C17 _).mono ?_
    rintro e w2 ⟨rfl, rfl⟩
    go_wp2_with fail
    go_ret2
    exact ⟨renc_ret E.out (by have := HN.out; rw [land16, word_bits ⟨by omega, by omega⟩ (by omega) (by omega) (by omega) (by omega) (.inr (.inl ⟨by omega, Hc.out⟩)), ED.out, Is.p16]), hb1⟩
theorem renc_N_ok {op a b c n : Int} (f : Is.form op = 78) : Is.regsOk ⟨op, a, b, c, n⟩ = decide ((0 ≤ a ∧ a ≤ 15 ∧ ((0 : Int) ≤ 0 → a = 0)) ∧ (0 ≤ b ∧ b ≤ 15 ∧ ((0 : Int) ≤ 1 → b = 0)) ∧ (0 ≤ c ∧ c ≤ 15 ∧ ((0 : Int) ≤ 2 → c = 0))) ∧ Is.immOk ⟨op, a, b, c, n⟩ = decide (0 ≤ n ∧ n ≤ 0) := by
  unfold Is.regsOk Is.immOk Is.regOk
  dsimp only
  rw [f, Is.shape_N]
  refine ⟨?_, rfl⟩
  rw [Bool.eq_iff_iff, Bool.and_eq_true, Bool.and_eq_true, decide_eq_true_iff, decide_eq_true_iff, decide_eq_true_iff, decide_eq_true_iff, and_assoc]
set_option maxRecDepth 100000 in
set_option maxHeartbeats 4000000 in
theorem renc_N (i : Is.Ins) (hf : Is.form i.op = 78) (w : World) : Calls Tryd.prog 15 #[insV i] w (REnc i w) := by
  obtain ⟨op, a, b, c, n⟩ := i
  unfold insV
  have hb1 := (Below.refl w.heap.size w).alloc (Nat.le_refl _) (.cells #[.int .i64 op, .int .i64 a, .int .i64 b, .int .i64 c, .int .i64 n] 23)
  have hf0 : Is.form op ≠ 0 := by have h : Is.form op = 78 := hf; rw [h]; decide
  have hfn : Hid (Is.form op = 78) := hf
  have HF := Lib.hid hf0
  have hop := Is.form_range hf0
  obtain ⟨e1, e2⟩ := renc_N_ok (a := a) (b := b) (c := c) (n := n) hfn.out
  have R1 := Lib.hid e1
  have R2 := Lib.hid e2
  clear hf hf0 e1 e2
  have C17 : ∀ W, Calls Tryd.prog 17 #[.int .i64 op] W fun e w' => e = .returned (.tuple #[.int .u8 78, nameV op]) ∧ W = w' := by
    intro W
    have h := rform_any op W
    rw [hfn.out] at h
    exact h
  by_cases al : a < 0
  · have E := Lib.hid (enc_bad (i := ⟨op, a, b, c, n⟩) HF.out (by rw [R1.out]; exact decide_eq_false (by omega)))
    have ad : decide (a < 0) = true := decide_eq_true al
    go_enter Tryd.func15, Tryd.ntmps15
    go_wp2_with fail
    refine (C17 _).mono ?_
    rintro e w2 ⟨rfl, rfl⟩
    go_wp2_with fail
    go_ret2
    exact ⟨renc_ret E.out rfl, hb1⟩
  have ad : decide (a < 0) = false := decide_eq_false al
  by_cases ah : 15 < a
  · have E := Lib.hid (enc_bad (i := ⟨op, a, b, c, n⟩) HF.out (by rw [R1.out]; exact decide_eq_false (by omega)))
    have af : decide (15 < a) = true := decide_eq_true ah
    go_enter Tryd.func15, Tryd.ntmps15
    go_wp2_with fail
    refine (C17 _).mono ?_
    rintro e w2 ⟨rfl, rfl⟩
    go_wp2_with fail
    go_ret2
    exact ⟨renc_ret E.out rfl, hb1⟩
  have af : decide (15 < a) = false := decide_eq_false ah
  by_cases bl : b < 0
  · have E := Lib.hid (enc_bad (i := ⟨op, a, b, c, n⟩) HF.out (by rw [R1.out]; exact decide_eq_false (by omega)))
    have bd : decide (b < 0) = true := decide_eq_true bl
    go_enter Tryd.func15, Tryd.ntmps15
    go_wp2_with fail
    refine (C17 _).mono ?_
    rintro e w2 ⟨rfl, rfl⟩
    go_wp2_with fail
    go_ret2
    exact ⟨renc_ret E.out rfl, hb1⟩
  have bd : decide (b < 0) = false := decide_eq_false bl
  by_cases bh : 15 < b
  · have E := Lib.hid (enc_bad (i := ⟨op, a, b, c, n⟩) HF.out (by rw [R1.out]; exact decide_eq_false (by omega)))
    have bf : decide (15 < b) = true := decide_eq_true bh
    go_enter Tryd.func15, Tryd.ntmps15
    go_wp2_with fail
    refine (C17 _).mono ?_
    rintro e w2 ⟨rfl, rfl⟩
    go_wp2_with fail
    go_ret2
    exact ⟨renc_ret E.out rfl, hb1⟩
  have bf : decide (15 < b) = false := decide_eq_false bh
  by_cases cl : c < 0
  · have E := Lib.hid (enc_bad (i := ⟨op, a, b, c, n⟩) HF.out (by rw [R1.out]; exact decide_eq_false (by omega)))
    have cd : decide (c < 0) = true := decide_eq_true cl
    go_enter Tryd.func15, Tryd.ntmps15
    go_wp2_with fail
    refine (C17 _).mono ?_
    rintro e w2 ⟨rfl, rfl⟩
    go_wp2_with fail
    go_ret2
    exact ⟨renc_ret E.out rfl, hb1⟩
  have cd : decide (c < 0) = false := decide_eq_false cl
  by_cases ch : 15 < c
  · have E := Lib.hid (enc_bad (i := ⟨op, a, b, c, n⟩) HF.out (by rw [R1.out]; exact decide_eq_false (by omega)))
    have cf : decide (15 < c) = true := decide_eq_true ch
    go_enter Tryd.func15, Tryd.ntmps15
    go_wp2_with fail
    refine (C17 _).mono ?_
    rintro e w2 ⟨rfl, rfl⟩
    go_wp2_with fail
    go_ret2
    exact ⟨renc_ret E.out rfl, hb1⟩
  have cf : decide (15 < c) = false := decide_eq_false ch
  by_cases az : a = 0
  rotate_left
  · have E := Lib.hid (enc_bad (i := ⟨op, a, b, c, n⟩) HF.out (by rw [R1.out]; exact decide_eq_false (by omega)))
    have ae : (a == 0) = false := ne_eq az
    have an : (a != 0) = true := by rw [bne_iff_ne]; exact az
    go_enter Tryd.func15, Tryd.ntmps15
    go_wp2_with fail
    refine (C17 _).mono ?_
    rintro e w2 ⟨rfl, rfl⟩
    go_wp2_with fail
    go_ret2
    exact ⟨renc_ret E.out rfl, hb1⟩
  have ae : (a == 0) = true := beq_iff_eq.2 az
  have an : (a != 0) = false := by simp [az]
  have Ha := Lib.hid az
  have aq0 : a ≤ 0 := by omega
  clear az
  by_cases bz : b = 0
  rotate_left
  · have E := Lib.hid (enc_bad (i := ⟨op, a, b, c, n⟩) HF.out (by rw [R1.out]; exact decide_eq_false (by omega)))
    have be : (b == 0) = false := ne_eq bz
    have bn : (b != 0) = true := by rw [bne_iff_ne]; exact bz
    go_enter Tryd.func15, Tryd.ntmps15
    go_wp2_with fail
    refine (C17 _).mono ?_
    rintro e w2 ⟨rfl, rfl⟩
    go_wp2_with fail
    go_ret2
    exact ⟨renc_ret E.out rfl, hb1⟩
  have be : (b == 0) = true := beq_iff_eq.2 bz
  have bn : (b != 0) = false := by simp [bz]
  have Hb := Lib.hid bz
  have bq0 : b ≤ 0 := by omega
  clear bz
  by_cases cz : c = 0
  rotate_left
  · have E := Lib.hid (enc_bad (i := ⟨op, a, b, c, n⟩) HF.out (by rw [R1.out]; exact decide_eq_false (by omega)))
    have ce : (c == 0) = false := ne_eq cz
    have cn : (c != 0) = true := by rw [bne_iff_ne]; exact cz
    go_enter Tryd.func15, Tryd.ntmps15
    go_wp2_with fail
    refine (C17 _).mono ?_
    rintro e w2 ⟨rfl, rfl⟩
    go_wp2_with fail
    go_ret2
    exact ⟨renc_ret E.out rfl, hb1⟩
  have ce : (c == 0) = true := beq_iff_eq.2 cz
  have cn : (c != 0) = false := by simp [cz]
  have Hc := Lib.hid cz
  have cq0 : c ≤ 0 := by omega
  clear cz
  have hreg : Is.regsOk ⟨op, a, b, c, n⟩ = true := by rw [R1.out]; exact decide_eq_true (by omega)
  have HR := Lib.hid hreg
  clear hreg
  rcases imm_cases n 0 0 with h | ⟨h, h'⟩ | ⟨h, h'⟩
  · have E := Lib.hid (enc_range (i := ⟨op, a, b, c, n⟩) HF.out HR.out (by rw [R2.out]; exact decide_eq_false (by omega)))
    have nd : decide (n < 0) = true := decide_eq_true h
    go_enter Tryd.func15, Tryd.ntmps15
    go_wp2_with fail
    refine (C17 _).mono ?_
    rintro e w2 ⟨rfl, rfl⟩
    go_wp2_with fail
    go_ret2
    exact ⟨renc_ret E.out rfl, hb1⟩
  · have E := Lib.hid (enc_range (i := ⟨op, a, b, c, n⟩) HF.out HR.out (by rw [R2.out]; exact decide_eq_false (by omega)))
    have nd : decide (n < 0) = false := decide_eq_false h
    have nf : decide (0 < n) = true := decide_eq_true h'
    go_enter Tryd.func15, Tryd.ntmps15
    go_wp2_with fail
    refine (C17 _).mono ?_
    rintro e w2 ⟨rfl, rfl⟩
    go_wp2_with fail
    go_ret2
    exact ⟨renc_ret E.out rfl, hb1⟩
  · have hI : Is.immOk ⟨op, a, b, c, n⟩ = true := by rw [R2.out]; exact decide_eq_true (by omega)
    have E := Lib.hid (Is.enc_of (i := ⟨op, a, b, c, n⟩) HF.out HR.out hI)
    have ED : Hid (Is.word ⟨op, a, b, c, n⟩ = op * 16777216 + a * 1048576 + b * 65536 + c * 4096 + n % 2 ^ (0 : Int).toNat) := by show _ = _; unfold Is.word; dsimp only; rw [hfn.out, Is.shape_N]
    clear hI
    have nd : decide (n < 0) = false := decide_eq_false h
    have nf : decide (0 < n) = false := decide_eq_false h'
    have HN := Lib.hid (show 0 ≤ n ∧ n ≤ 0 by omega)
    go_enter Tryd.func15, Tryd.ntmps15
    go_wp2_with fail
    refine (C17 _).mono ?_
    rintro e w2 ⟨rfl, rfl⟩
    go_wp2_with fail
    go_ret2
    exact ⟨renc_ret E.out (by have := HN.out; rw [land16, word_bits ⟨by omega, by omega⟩ (by omega) (by omega) (by omega) (by omega) (.inl (by have := HN.out; omega)), ED.out, Is.p0]; omega), hb1⟩
theorem renc_any (i : Is.Ins) (w : World) : Calls Tryd.prog 15 #[insV i] w (REnc i w) := by
  rcases Is.form_cases i.op with f | f | f | f | f | f | f | f | f
  · obtain ⟨op, a, b, c, n⟩ := i
    have hf : Is.form op = 0 := f
    have E : Hid (Is.enc ⟨op, a, b, c, n⟩ = (0, 5)) := by show _ = _; unfold Is.enc; rw [if_pos hf]
    have C17 : ∀ W, Calls Tryd.prog 17 #[.int .i64 op] W fun e w' => e = .returned (.tuple #[.int .u8 0, nameV op]) ∧ W = w' := by
      intro W
      have h := rform_any op W
      rw [hf] at h
      exact h
    clear f hf
    unfold insV
    have hb1 := (Below.refl w.heap.size w).alloc (Nat.le_refl _) (.cells #[.int .i64 op, .int .i64 a, .int .i64 b, .int .i64 c, .int .i64 n] 23)
    go_enter Tryd.func15, Tryd.ntmps15
    go_wp2_with fail
    refine (C17 _).mono ?_
    rintro e w2 ⟨rfl, rfl⟩
    go_wp2_with fail
    go_ret2
    exact ⟨renc_ret E.out rfl, hb1⟩
  · exact renc_R i f w
  · exact renc_I i f w
  · exact renc_U i f w
  · exact renc_H i f w
  · exact renc_L i f w
  · exact renc_J i f w
  · exact renc_C i f w
  · exact renc_N i f w
end Go.Proofs.YtmfldcacjpligaaDoor
