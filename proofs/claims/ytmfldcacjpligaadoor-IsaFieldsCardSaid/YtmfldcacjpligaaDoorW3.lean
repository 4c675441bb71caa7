/-
  The given Encode: the walk.
-/
import Derived.Test.YtmfldcacjpligaaDoorW2
import Derived.Test.YtmfldcacjpligaaDoorBits
import Derived.BigQuiet
import Derived.Deep.QuietTactic
namespace Go.Proofs.YtmfldcacjpligaaDoor
open Go.RowKit
theorem _root_.Go.RowKit.Below.drewN' {B : Nat} {a w : World} (h : Below B a w) (n : Nat) : Below B a (w.drewN n) := ⟨h.os, h.tape, h.output, h.size, h.block⟩
theorem ret_bool {a b : Bool} (h : a = b) : Ending.returned (.bool a) = .returned (.bool b) := by rw [h]
def insV (i : Is.Ins) : Value := .agg #[.int .i64 i.op, .int .i64 i.a, .int .i64 i.b, .int .i64 i.c, .int .i64 i.imm]
theorem fits_any (s : Is.Shape) (n : Int) (w : World) : Calls Tryd.prog 27 #[.agg #[.int .i64 s.regs, .int .i64 s.bits, .int .i64 s.low, .int .i64 s.high], .int .i64 n] w
    fun e w' => e = .returned (.bool (decide (s.low ≤ n ∧ n ≤ s.high))) ∧ Below w.heap.size w w' := by
  obtain ⟨r, b, lo, hi⟩ := s
  have hb1 := (Below.refl w.heap.size w).alloc (Nat.le_refl _) (.cells #[.int .i64 r, .int .i64 b, .int .i64 lo, .int .i64 hi] 50)
  by_cases h1 : lo ≤ n
  · have E : Hid (decide (lo ≤ n ∧ n ≤ hi) = decide (n ≤ hi)) := by show _ = _; simp [h1]
    have h1d : decide (lo ≤ n) = true := decide_eq_true h1
    go_enter Tryd.func27, Tryd.ntmps27
    go_wp2_with fail
    go_ret
    first | exact ⟨ret_bool E.out.symm, hb1⟩ | exact ⟨rfl, hb1⟩
  · have E : Hid (decide (lo ≤ n ∧ n ≤ hi) = false) := by show _ = _; simp [h1]
    have h1d : decide (lo ≤ n) = false := decide_eq_false h1
    go_enter Tryd.func27, Tryd.ntmps27
    go_wp2_with fail
    go_ret
    first | exact ⟨ret_bool E.out.symm, hb1⟩ | exact ⟨rfl, hb1⟩
theorem reg_cases (rg k r : Int) : (r < 0) ∨ (¬ r < 0 ∧ 15 < r) ∨ (0 ≤ r ∧ r ≤ 15 ∧ rg ≤ k ∧ r ≠ 0) ∨ (0 ≤ r ∧ r ≤ 15 ∧ ¬ rg ≤ k) ∨ (0 ≤ r ∧ r ≤ 15 ∧ rg ≤ k ∧ r = 0) := by omega
def IsV (i : Nat) (v : Value) : Prop := (i = 0 ∧ v = .int .i64 0) ∨ (i = 1 ∧ v = .int .i64 1) ∨ (i = 2 ∧ v = .int .i64 2) ∨ (i = 3 ∧ v = .int .i64 3)
/-- The first registers are right. -/
def Good (i : Is.Ins) (k : Nat) : Prop := (1 ≤ k → Is.regOk (Is.shapeOf (Is.form i.op)) 0 i.a = true) ∧ (2 ≤ k → Is.regOk (Is.shapeOf (Is.form i.op)) 1 i.b = true) ∧ (3 ≤ k → Is.regOk (Is.shapeOf (Is.form i.op)) 2 i.c = true)
theorem regOk_eq (s : Is.Shape) (k r : Int) : Is.regOk s k r = true ↔ (0 ≤ r ∧ r ≤ 15 ∧ (s.regs ≤ k → r = 0)) := by unfold Is.regOk; exact decide_eq_true_iff
theorem reg_bad0 {op a b c n : Int} {s : Is.Shape} (hs : Is.shapeOf (Is.form op) = s) (h : ¬ (0 ≤ a ∧ a ≤ 15 ∧ (s.regs ≤ 0 → a = 0))) : Is.regsOk ⟨op, a, b, c, n⟩ = false := by
  unfold Is.regsOk
  dsimp only
  rw [hs, Bool.eq_false_iff.2 (fun q => h ((regOk_eq _ _ _).1 q))]
  rfl
theorem reg_bad1 {op a b c n : Int} {s : Is.Shape} (hs : Is.shapeOf (Is.form op) = s) (h : ¬ (0 ≤ b ∧ b ≤ 15 ∧ (s.regs ≤ 1 → b = 0))) : Is.regsOk ⟨op, a, b, c, n⟩ = false := by
  unfold Is.regsOk
  dsimp only
  rw [hs, Bool.eq_false_iff.2 (fun q => h ((regOk_eq _ _ _).1 q)), Bool.and_false]
  rfl
theorem reg_bad2 {op a b c n : Int} {s : Is.Shape} (hs : Is.shapeOf (Is.form op) = s) (h : ¬ (0 ≤ c ∧ c ≤ 15 ∧ (s.regs ≤ 2 → c = 0))) : Is.regsOk ⟨op, a, b, c, n⟩ = false := by
  unfold Is.regsOk
  dsimp only
  rw [hs, Bool.eq_false_iff.2 (fun q => h ((regOk_eq _ _ _).1 q)), Bool.and_false]
theorem good0 {op a b c n : Int} {s : Is.Shape} (_ : Good ⟨op, a, b, c, n⟩ 0) (hs : Is.shapeOf (Is.form op) = s) (h : 0 ≤ a ∧ a ≤ 15 ∧ (s.regs ≤ 0 → a = 0)) : Good ⟨op, a, b, c, n⟩ (0 + 1) :=
  ⟨fun _ => by dsimp only; rw [hs]; exact (regOk_eq _ _ _).2 h, fun h => absurd h (by omega), fun h => absurd h (by omega)⟩
theorem good1 {op a b c n : Int} {s : Is.Shape} (g : Good ⟨op, a, b, c, n⟩ 1) (hs : Is.shapeOf (Is.form op) = s) (h : 0 ≤ b ∧ b ≤ 15 ∧ (s.regs ≤ 1 → b = 0)) : Good ⟨op, a, b, c, n⟩ (1 + 1) :=
  ⟨fun _ => g.1 (by omega), fun _ => by dsimp only; rw [hs]; exact (regOk_eq _ _ _).2 h, fun h => absurd h (by omega)⟩
theorem good2 {op a b c n : Int} {s : Is.Shape} (g : Good ⟨op, a, b, c, n⟩ 2) (hs : Is.shapeOf (Is.form op) = s) (h : 0 ≤ c ∧ c ≤ 15 ∧ (s.regs ≤ 2 → c = 0)) : Good ⟨op, a, b, c, n⟩ (2 + 1) :=
  ⟨fun _ => g.1 (by omega), fun _ => g.2.1 (by omega), fun _ => by dsimp only; rw [hs]; exact (regOk_eq _ _ _).2 h⟩
theorem shape_cases {op : Int} {rg bt lo hi : Int} (hf : Is.form op ≠ 0) (hs : Is.shapeOf (Is.form op) = ⟨rg, bt, lo, hi⟩) : bt = 0 ∨ (bt = 16 ∧ rg ≤ 2) ∨ (bt = 20 ∧ rg ≤ 1) := by
  rcases Is.form_cases op with f | f | f | f | f | f | f | f | f
  · exact absurd f hf
  all_goals
    rw [f] at hs
    injection hs with h1 h2 _ _
    rw [← h1, ← h2]
    decide
theorem enc_ret {x y : Int} {i : Is.Ins} (h : Is.enc i = (y, 0)) (hx : x = y) : Ending.returned (.tuple #[.int .i64 x, .int .i64 0]) = .returned (.tuple #[.int .i64 (Is.enc i).1, .int .i64 (Is.enc i).2]) := by rw [h, hx]
def EncPost (i : Is.Ins) (w : World) (e : Ending) (w' : World) : Prop := e = .returned (.tuple #[.int .i64 (Is.enc i).1, .int .i64 (Is.enc i).2]) ∧ Below w.heap.size w w'
theorem enc_bad {i : Is.Ins} (h : Is.form i.op ≠ 0) (hr : Is.regsOk i = false) : Is.enc i = (0, 1) := by unfold Is.enc; rw [if_neg h, if_pos hr]
theorem enc_range {i : Is.Ins} (h : Is.form i.op ≠ 0) (hr : Is.regsOk i = true) (hi : Is.immOk i = false) : Is.enc i = (0, 6) := by unfold Is.enc; rw [if_neg h, if_neg (by simp [hr]), if_pos hi]
set_option maxRecDepth 100000 in
set_option maxHeartbeats 4000000 in
theorem enc_any (i : Is.Ins) (w : World) : Calls Tryd.prog 12 #[insV i] w (EncPost i w) := by
  obtain ⟨op, a, b, c, n⟩ := i
  unfold insV
  have hb1 := (Below.refl w.heap.size w).alloc (Nat.le_refl _) (.cells #[.int .i64 op, .int .i64 a, .int .i64 b, .int .i64 c, .int .i64 n] 23)
  by_cases hf : Is.form op = 0
  · have E : Hid (Is.enc ⟨op, a, b, c, n⟩ = (0, 5)) := by show _ = _; unfold Is.enc; rw [if_pos hf]
    have e32 : Hid (formC op = 32) := by show _ = _; unfold formC; rw [if_pos hf]
    clear hf
    go_enter Tryd.func12, Tryd.ntmps12
    go_wp2_with fail
    refine (form_any op _).mono ?_
    rintro e w2 ⟨rfl, rfl⟩
    rw [e32.out]
    go_wp2_with fail
    go_ret2
    exact ⟨by rw [E.out]; rfl, hb1⟩
  · have e32 : ((formC op : Int) == 32) = false := by
      refine ne_eq ?_
      unfold formC
      rw [if_neg hf]
      rcases Is.form_cases op with f | f | f | f | f | f | f | f | f
      · exact absurd f hf
      all_goals rw [f]; decide
    have HF := Lib.hid hf
    obtain ⟨s, hs⟩ : ∃ s, Is.shapeOf (Is.form op) = s := ⟨_, rfl⟩
    have C26 := shape_any op hf
    rw [hs] at C26
    have HS := Lib.hid hs
    clear hf hs
    obtain ⟨rg, bt, lo, hi⟩ := s
    unfold shapeV at C26
    obtain ⟨f, hfc⟩ : ∃ f, formC op = f := ⟨_, rfl⟩
    rw [hfc] at e32 C26
    have HFC := Lib.hid hfc
    clear hfc
    go_enter Tryd.func12, Tryd.ntmps12
    go_wp2_with fail
    refine (form_any op _).mono ?_
    rintro e w2 ⟨rfl, rfl⟩
    rw [HFC.out]
    go_wp2_with fail
    refine (C26 _).mono ?_
    rintro e w3 ⟨rfl, hb3⟩
    have hb13 := hb1.trans (hb3.mono (by simp))
    have hz3 := hb3.size
    have k0 := hb3.cell (p := ⟨w.heap.size, 0, none⟩) (by simp)
    have k1 := hb3.cell (p := ⟨w.heap.size, 1, none⟩) (by simp)
    have k2 := hb3.cell (p := ⟨w.heap.size, 2, none⟩) (by simp)
    have k3 := hb3.cell (p := ⟨w.heap.size, 3, none⟩) (by simp)
    have k4 := hb3.cell (p := ⟨w.heap.size, 4, none⟩) (by simp)
    simp at k0 k1 k2 k3 k4 hz3
    have hlt : w.heap.size < w3.heap.size := by omega
    have hne : ¬ w.heap.size = w3.heap.size := by omega
    go_wp2_with fail
    have i0 : ∀ W : World, (Instr.index 52 (.agg #[.int .i64 a, .int .i64 b, .int .i64 c]) (.int .i64 0)).run Tryd.prog W = .ok (.int .i64 a) W := fun _ => by kernel_rfl
    have i1 : ∀ W : World, (Instr.index 52 (.agg #[.int .i64 a, .int .i64 b, .int .i64 c]) (.int .i64 1)).run Tryd.prog W = .ok (.int .i64 b) W := fun _ => by kernel_rfl
    have i2 : ∀ W : World, (Instr.index 52 (.agg #[.int .i64 a, .int .i64 b, .int .i64 c]) (.int .i64 2)).run Tryd.prog W = .ok (.int .i64 c) W := fun _ => by kernel_rfl
    go_loopg [22] 3 (fun kk v wr => ∃ i : Nat, IsV i v ∧ Good ⟨op, a, b, c, n⟩ i ∧ wr = w3.alloc (.cells #[.int .i64 rg, .int .i64 bt, .int .i64 lo, .int .i64 hi] 50) ∧ 3 - i ≤ kk)
    case atStart => exact ⟨0, .inl ⟨rfl, rfl⟩, ⟨by omega, by omega, by omega⟩, rfl, by omega⟩
    case round =>
      obtain ⟨i, hi, hg, rfl, hkk⟩ := hrel
      have HG := Lib.hid hg
      clear hg
      rcases hi with ⟨rfl, rfl⟩ | ⟨rfl, rfl⟩ | ⟨rfl, rfl⟩ | ⟨rfl, rfl⟩
      · rcases reg_cases rg 0 a with h | ⟨h1, h2⟩ | ⟨h1, h2, h3, h4⟩ | ⟨h1, h2, h3⟩ | ⟨h1, h2, h3, h4⟩
        · have E := Lib.hid (enc_bad (i := ⟨op, a, b, c, n⟩) HF.out (reg_bad0 HS.out (by dsimp only; omega)))
          go_wp2_with fail
          go_ret2
          exact ⟨by rw [E.out]; rfl, hb13.alloc (by omega) _⟩
        · have E := Lib.hid (enc_bad (i := ⟨op, a, b, c, n⟩) HF.out (reg_bad0 HS.out (by dsimp only; omega)))
          go_wp2_with fail
          go_ret2
          exact ⟨by rw [E.out]; rfl, hb13.alloc (by omega) _⟩
        · have E := Lib.hid (enc_bad (i := ⟨op, a, b, c, n⟩) HF.out (reg_bad0 HS.out (by dsimp only; omega)))
          have g1 : ¬ a < 0 := by omega
          have g2 : ¬ 15 < a := by omega
          have g3 : (a == 0) = false := ne_eq h4
          have g4 : (a != 0) = true := by rw [bne_iff_ne]; exact h4
          go_wp2_with fail
          go_ret2
          exact ⟨by rw [E.out]; rfl, hb13.alloc (by omega) _⟩
        · have G := Lib.hid (good0 HG.out HS.out (by dsimp only; omega))
          have g1 : ¬ a < 0 := by omega
          have g2 : ¬ 15 < a := by omega
          go_wp2_with fail
          go_roundg (3 - (0 + 1))
          case measure => omega
          case rel => exact ⟨0 + 1, .inr (.inl ⟨rfl, rfl⟩), G.out, rfl, Nat.le_refl _⟩
        · have G := Lib.hid (good0 HG.out HS.out (by dsimp only; omega))
          have g1 : ¬ a < 0 := by omega
          have g2 : ¬ 15 < a := by omega
          have g3 : (a == 0) = true := beq_iff_eq.2 h4
          have g4 : (a != 0) = false := by simp [h4]
          have H4 := Lib.hid h4
          clear h4
          go_wp2_with fail
          go_roundg (3 - (0 + 1))
          case measure => omega
          case rel => exact ⟨0 + 1, .inr (.inl ⟨rfl, rfl⟩), G.out, rfl, Nat.le_refl _⟩
      · rcases reg_cases rg 1 b with h | ⟨h1, h2⟩ | ⟨h1, h2, h3, h4⟩ | ⟨h1, h2, h3⟩ | ⟨h1, h2, h3, h4⟩
        · have E := Lib.hid (enc_bad (i := ⟨op, a, b, c, n⟩) HF.out (reg_bad1 HS.out (by dsimp only; omega)))
          go_wp2_with fail
          go_ret2
          exact ⟨by rw [E.out]; rfl, hb13.alloc (by omega) _⟩
        · have E := Lib.hid (enc_bad (i := ⟨op, a, b, c, n⟩) HF.out (reg_bad1 HS.out (by dsimp only; omega)))
          go_wp2_with fail
          go_ret2
          exact ⟨by rw [E.out]; rfl, hb13.alloc (by omega) _⟩
        · have E := Lib.hid (enc_bad (i := ⟨op, a, b, c, n⟩) HF.out (reg_bad1 HS.out (by dsimp only; omega)))
          have g1 : ¬ b < 0 := by omega
          have g2 : ¬ 15 < b := by omega
          have g3 : (b == 0) = false := ne_eq h4
          have g4 : (b != 0) = true := by rw [bne_iff_ne]; exact h4
          go_wp2_with fail
          go_ret2
          exact ⟨by rw [E.out]; rfl, hb13.alloc (by omega) _⟩
        · have G := Lib.hid (good1 HG.out HS.out (by dsimp only; omega))
          have g1 : ¬ b < 0 := by omega
          have g2 : ¬ 15 < b := by omega
          go_wp2_with fail
          go_roundg (3 - (1 + 1))
          case measure => omega
          case rel => exact ⟨1 + 1, .inr (.inr (.inl ⟨rfl, rfl⟩)), G.out, rfl, Nat.le_refl _⟩
        · have G := Lib.hid (good1 HG.out HS.out (by dsimp only; omega))
          have g1 : ¬ b < 0 := by omega
          have g2 : ¬ 15 < b := by omega
          have g3 : (b == 0) = true := beq_iff_eq.2 h4
          have g4 : (b != 0) = false := by simp [h4]
          have H4 := Lib.hid h4
          clear h4
          go_wp2_with fail
          go_roundg (3 - (1 + 1))
          case measure => omega
          case rel => exact ⟨1 + 1, .inr (.inr (.inl ⟨rfl, rfl⟩)), G.out, rfl, Nat.le_refl _⟩
      · rcases reg_cases rg 2 c with h | ⟨h1, h2⟩ | ⟨h1, h2, h3, h4⟩ | ⟨h1, h2, h3⟩ | ⟨h1, h2, h3, h4⟩
        · have E := Lib.hid (enc_bad (i := ⟨op, a, b, c, n⟩) HF.out (reg_bad2 HS.out (by dsimp only; omega)))
          go_wp2_with fail
          go_ret2
          exact ⟨by rw [E.out]; rfl, hb13.alloc (by omega) _⟩
        · have E := Lib.hid (enc_bad (i := ⟨op, a, b, c, n⟩) HF.out (reg_bad2 HS.out (by dsimp only; omega)))
          go_wp2_with fail
          go_ret2
          exact ⟨by rw [E.out]; rfl, hb13.alloc (by omega) _⟩
        · have E := Lib.hid (enc_bad (i := ⟨op, a, b, c, n⟩) HF.out (reg_bad2 HS.out (by dsimp only; omega)))
          have g1 : ¬ c < 0 := by omega
          have g2 : ¬ 15 < c := by omega
          have g3 : (c == 0) = false := ne_eq h4
          have g4 : (c != 0) = true := by rw [bne_iff_ne]; exact h4
          go_wp2_with fail
          go_ret2
          exact ⟨by rw [E.out]; rfl, hb13.alloc (by omega) _⟩
        · have G := Lib.hid (good2 HG.out HS.out (by dsimp only; omega))
          have g1 : ¬ c < 0 := by omega
          have g2 : ¬ 15 < c := by omega
          go_wp2_with fail
          go_roundg (3 - (2 + 1))
          case measure => omega
          case rel => exact ⟨2 + 1, .inr (.inr (.inr ⟨rfl, rfl⟩)), G.out, rfl, Nat.le_refl _⟩
        · have G := Lib.hid (good2 HG.out HS.out (by dsimp only; omega))
          have g1 : ¬ c < 0 := by omega
          have g2 : ¬ 15 < c := by omega
          have g3 : (c == 0) = true := beq_iff_eq.2 h4
          have g4 : (c != 0) = false := by simp [h4]
          have H4 := Lib.hid h4
          clear h4
          go_wp2_with fail
          go_roundg (3 - (2 + 1))
          case measure => omega
          case rel => exact ⟨2 + 1, .inr (.inr (.inr ⟨rfl, rfl⟩)), G.out, rfl, Nat.le_refl _⟩
      · have hr : Is.regsOk ⟨op, a, b, c, n⟩ = true := by
          unfold Is.regsOk
          rw [HG.out.1 (by omega), HG.out.2.1 (by omega), HG.out.2.2 (by omega)]
          rfl
        have HR := Lib.hid hr
        clear hr
        go_wp2_with fail
        refine (fits_any ⟨rg, bt, lo, hi⟩ n _).mono ?_
        rintro e w4 ⟨rfl, hb4⟩
        have hb34 := ((Below.refl w3.heap.size w3).alloc (Nat.le_refl _) (.cells #[.int .i64 rg, .int .i64 bt, .int .i64 lo, .int .i64 hi] 50)).trans (hb4.mono (by simp))
        have hb14 := hb13.trans (hb34.mono (by omega))
        by_cases hn : lo ≤ n ∧ n ≤ hi
        · have hI : Is.immOk ⟨op, a, b, c, n⟩ = true := by
            unfold Is.immOk
            dsimp only
            rw [HS.out]
            exact decide_eq_true hn
          have E := Lib.hid (Is.enc_of (i := ⟨op, a, b, c, n⟩) HF.out HR.out hI)
          obtain ⟨ha, hb, hc, _⟩ := Is.parts_of HR.out hI
          have hop := Is.form_range HF.out
          have hcs := shape_cases HF.out HS.out
          dsimp only at ha hb hc
          rw [HS.out] at ha hb hc
          dsimp only at ha hb hc
          have ED : Hid (Is.word ⟨op, a, b, c, n⟩ = op * 16777216 + a * 1048576 + b * 65536 + c * 4096 + n % 2 ^ bt.toNat) := by
            show _ = _
            unfold Is.word
            dsimp only
            rw [HS.out]
          have k0 := (hb34.cell (p := ⟨w.heap.size, 0, none⟩) hlt).trans k0
          have k1 := (hb34.cell (p := ⟨w.heap.size, 1, none⟩) hlt).trans k1
          have k2 := (hb34.cell (p := ⟨w.heap.size, 2, none⟩) hlt).trans k2
          have k3 := (hb34.cell (p := ⟨w.heap.size, 3, none⟩) hlt).trans k3
          have k4 := (hb34.cell (p := ⟨w.heap.size, 4, none⟩) hlt).trans k4
          have hz4 := hb34.size
          have q1 := ((Whole.made w3 50 #[.int .i64 rg, .int .i64 bt, .int .i64 lo, .int .i64 hi]).same (hb4.block _ (by simp))).cell 1
          simp at q1
          rw [decide_eq_true hn]
          clear hn hI i0 i1 i2
          obtain ⟨a1, a2, a3⟩ := ha
          obtain ⟨b1, b2, b3⟩ := hb
          obtain ⟨c1, c2, c3⟩ := hc
          clear a3
          rcases hcs with rfl | ⟨rfl, hrg⟩ | ⟨rfl, hrg⟩
          · clear b3 c3
            go_wp2_with fail
            go_quiet (fail)
            go_wp2_with fail
            go_ret2
            exact ⟨enc_ret E.out (by rw [land0, word_bits ⟨by omega, by omega⟩ ⟨a1, a2⟩ ⟨b1, b2⟩ ⟨c1, c2⟩ (by omega) (.inl (by omega)), ED.out, Is.p0]; omega), hb14.drewN' _⟩
          · have HC := Lib.hid (c3 (by omega))
            clear b3 c3
            go_wp2_with fail
            go_quiet (fail)
            go_wp2_with fail
            go_ret2
            exact ⟨enc_ret E.out (by rw [land16, word_bits ⟨by omega, by omega⟩ ⟨a1, a2⟩ ⟨b1, b2⟩ ⟨c1, c2⟩ (by omega) (.inr (.inl ⟨by omega, HC.out⟩)), ED.out, Is.p16]), hb14.drewN' _⟩
          · have HC := Lib.hid (c3 (by omega))
            have HB := Lib.hid (b3 (by omega))
            clear b3 c3
            go_wp2_with fail
            go_quiet (fail)
            go_wp2_with fail
            go_ret2
            exact ⟨enc_ret E.out (by rw [land20, word_bits ⟨by omega, by omega⟩ ⟨a1, a2⟩ ⟨b1, b2⟩ ⟨c1, c2⟩ (by omega) (.inr (.inr ⟨by omega, HB.out, HC.out⟩)), ED.out, Is.p20]), hb14.drewN' _⟩
        · have hI : Is.immOk ⟨op, a, b, c, n⟩ = false := by
            unfold Is.immOk
            dsimp only
            rw [HS.out]
            exact decide_eq_false hn
          have E := Lib.hid (enc_range (i := ⟨op, a, b, c, n⟩) HF.out HR.out hI)
          rw [decide_eq_false hn]
          clear hn hI i0 i1 i2
          go_wp2_with fail
          go_ret2
          exact ⟨by rw [E.out]; rfl, hb14⟩
end Go.Proofs.YtmfldcacjpligaaDoor
