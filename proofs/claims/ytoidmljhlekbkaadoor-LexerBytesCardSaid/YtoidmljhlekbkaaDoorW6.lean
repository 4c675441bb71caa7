/-
  The walk of the lexer's number. Printed by wip/lexer/gen_number.py.
-/
import Derived.Test.YtoidmljhlekbkaaDoorW3
import Derived.Test.YtoidmljhlekbkaaDoorW4
import Derived.Test.YtoidmljhlekbkaaDoorPlain
import Derived.Deep.LoopGhost
import Derived.Deep.DeepCutAuto
import Derived.Lib.Hide
namespace Go.Proofs.YtoidmljhlekbkaaDoor
open Go.RowKit
theorem Lx_hex_bd (c : Int) : -1 ≤ Lx.hex c ∧ Lx.hex c ≤ 15 := hex_bd c
section
variable {w : World} {B T p : Nat} {s : ByteArray} {x : Lx.St} {L O : Value} {D : Option Addr}
/-- What the loop of a number's digits leaves. -/
def NumRel (w0 : World) (b0 : Nat) (B T p : Nat) (s : ByteArray) (x z : Lx.St) (L O : Value) (D : Option Addr) (base : Int) (k : Nat) (v : Value) (wr : World) : Prop :=
  ∃ n y, v = .int .i64 n ∧ 0 ≤ n ∧ n ≤ 4294967296 ∧ Lex wr B T p s y L O D ∧ Fit y ∧ Goes z y ∧ y.digits base n = z.digits base 0 ∧ Only [p] w0 wr ∧ Whole wr b0 46 #[.int .i64 x.line, .int .i64 x.col] ∧ y.l.length - y.at_ ≤ k
def numHead (x : Lx.St) : Bool := decide (x.peek 0 = 48 ∧ x.peek 1 = 120 ∧ 0 ≤ Lx.hex (x.peek 2))
theorem num_dec {x z y : Lx.St} {n : Int} (hh : numHead x = false) (A : z.digits 10 0 = (n, y)) (ez : z = x) {r : Lx.St}
    (h : (if Lx.letter (y.peek 0) then y.fail y.line y.col 3 else if 4294967295 < n then y.fail x.line x.col 6 else y.put 2 [] n x.line x.col) = r) : x.number = r := by
  have hh' : ¬ (x.peek 0 = 48 ∧ x.peek 1 = 120 ∧ 0 ≤ Lx.hex (x.peek 2)) := by simpa [numHead] using hh
  subst ez
  unfold Lx.St.number
  simp only [if_neg hh', A]
  exact h
theorem num_hex {x z y : Lx.St} {n : Int} (hh : numHead x = true) (A : z.digits 16 0 = (n, y)) (ez : z = x.step.step) {r : Lx.St}
    (h : (if Lx.letter (y.peek 0) then y.fail y.line y.col 3 else if 4294967295 < n then y.fail x.line x.col 6 else y.put 2 [] n x.line x.col) = r) : x.number = r := by
  have hh' : (x.peek 0 = 48 ∧ x.peek 1 = 120 ∧ 0 ≤ Lx.hex (x.peek 2)) := by simpa [numHead] using hh
  subst ez
  unfold Lx.St.number
  simp only [if_pos hh', A]
  exact h
set_option maxHeartbeats 2000000 in
theorem number_any (h : Lex w B T p s x L O D) (f : Fit x) :
    Calls Tryd.prog 35 #[.pointer (some ⟨p, 0, none⟩)] w
      fun e w' => e = .returned (.tuple #[]) ∧ ∃ O' D', Lex w' B w'.heap.size p s x.number L O' D' ∧ Below B w w' := by
  have c3 := h.cell 3
  have c4 := h.cell 4
  have hp := h.lt
  simp at c3 c4
  have hpn : w.heap.size ∉ [p] := by simp; omega
  have b0 := f.peek_bd 0
  have b1 := f.peek_bd 1
  have b2 := f.peek_bd 2
  go_enter Tryd.func35, Tryd.ntmps35
  go_upto_region 2 with (fail)
  go_cut [23] (fun t wx => t = .bool (numHead x) ∧ ∃ n, wx = (w.alloc (.cells #[.int .i64 x.line, .int .i64 x.col] 46)).drewN n)
  case first =>
    have q0 := (h.alloc (.cells #[.int .i64 x.line, .int .i64 x.col] 46))
    by_cases d0 : x.peek 0 = 48
    · have e0 : (x.peek 0 == 48) = true := by simp [d0]
      by_cases d1 : x.peek 1 = 120
      · have e1 : (x.peek 1 == 120) = true := by simp [d1]
        have E : Hid (numHead x = decide (0 ≤ Lx.hex (x.peek 2))) := by show numHead x = _; unfold numHead; simp [d0, d1]
        clear d0 d1
        go_wp2_with fail
        refine (rune0 q0 f).mono ?_
        rintro e w' ⟨rfl, n1, rfl⟩
        go_wp2_with fail
        refine (rune1 (q0.drewN _) f).mono ?_
        rintro e w' ⟨rfl, n2, rfl⟩
        go_wp2_with fail
        refine (rune2 (q0.drewN _) f).mono ?_
        rintro e w' ⟨rfl, n3, rfl⟩
        go_wp2_with fail
        refine (hex_any _ _ (by omega) (by omega)).mono ?_
        rintro e w' ⟨rfl, rfl⟩
        go_wp2_with fail
        go_meet
        exact ⟨by rw [E.out], _, rfl⟩
      · have e1 : (x.peek 1 == 120) = false := by simp [d1]
        have E : Hid (numHead x = false) := by show numHead x = _; unfold numHead; simp [d1]
        clear d0 d1
        go_wp2_with fail
        refine (rune0 q0 f).mono ?_
        rintro e w' ⟨rfl, n1, rfl⟩
        go_wp2_with fail
        refine (rune1 (q0.drewN _) f).mono ?_
        rintro e w' ⟨rfl, n2, rfl⟩
        go_wp2_with fail
        go_meet
        exact ⟨by rw [E.out], _, rfl⟩
    · have e0 : (x.peek 0 == 48) = false := by simp [d0]
      have E : Hid (numHead x = false) := by show numHead x = _; unfold numHead; simp [d0]
      clear d0
      go_wp2_with fail
      refine (rune0 q0 f).mono ?_
      rintro e w' ⟨rfl, n1, rfl⟩
      go_wp2_with fail
      go_meet
      exact ⟨by rw [E.out], _, rfl⟩
  case rest =>
  obtain ⟨rfl, n0, rfl⟩ := hcut
  have q0 := (h.alloc (.cells #[.int .i64 x.line, .int .i64 x.col] 46)).drewN n0
  have o0 : Only [p] w ((w.alloc (.cells #[.int .i64 x.line, .int .i64 x.col] 46)).drewN n0) := ((Only.refl _ _).alloc _).drewN _
  have u0 := (Whole.made w 46 #[.int .i64 x.line, .int .i64 x.col]).drewN n0
  rcases hh : numHead x with _ | _
  · have HH := Lib.hid hh
    clear hh
    obtain ⟨z, hz, fz_, gz, bz, oz, ez⟩ : ∃ z, Lex ((w.alloc (.cells #[.int .i64 x.line, .int .i64 x.col] 46)).drewN n0) B T p s z L O D ∧ Fit z ∧ Goes x z ∧ Whole ((w.alloc (.cells #[.int .i64 x.line, .int .i64 x.col] 46)).drewN n0) w.heap.size 46 #[.int .i64 x.line, .int .i64 x.col] ∧ Only [p] w ((w.alloc (.cells #[.int .i64 x.line, .int .i64 x.col] 46)).drewN n0) ∧ Hid (z = x) := ⟨x, q0, f, Goes.refl x, u0, o0, rfl⟩
    go_wp2_with fail
    go_loopg [4] (z.l.length - z.at_) (fun k v wr => NumRel w w.heap.size B T p s x z L O D 10 k v wr)
    case atStart => exact ⟨0, z, rfl, by omega, by omega, hz, fz_, Goes.refl z, rfl, oz, bz, Nat.le_refl _⟩
    case round =>
      obtain ⟨n, y, rfl, hn0, hn1, hy, fy, gy, ey, oy, by_, ky⟩ := hrel
      have bp := fy.peek_bd 0
      have bh := Lx_hex_bd (y.peek 0)
      by_cases hs : Lx.hex (y.peek 0) < 0 ∨ 10 ≤ Lx.hex (y.peek 0)
      · have A : Hid (z.digits 10 0 = (n, y)) := by rw [← ey, digits_stop hs]; exact rfl
        clear ey
        have k3 := hy.cell 3
        have k4 := hy.cell 4
        have g0 := by_.cell 0
        have g1 := by_.cell 1
        simp at k3 k4 g0 g1
        by_cases hl : Lx.letter (y.peek 0) = true
        · have E : Hid (x.number = y.fail y.line y.col 3) := by
            refine num_dec HH.out A.out ez.out ?_
            simp [hl]
          clear A
          go_wp2_with fail
          refine (rune0 hy fy).mono ?_
          rintro e w' ⟨rfl, n1, rfl⟩
          go_wp2_with fail
          refine (hex_any _ _ (by omega) (by omega)).mono ?_
          rintro e w' ⟨rfl, rfl⟩
          go_wp2_with fail
          all_goals
            refine (rune0 (hy.drewN _) fy).mono ?_
            rintro e w' ⟨rfl, n2, rfl⟩
            go_wp2_with fail
            refine (letter_any _ _).mono ?_
            rintro e w' ⟨rfl, rfl⟩
            go_wp2_with fail
            refine (fail_any y.line y.col 3 (hy.drewN _)).mono ?_
            rintro e w1 ⟨rfl, D', h1, o1⟩
            go_wp2_with fail
            (first | go_end0 | refine bodyPost_ret (results_none rfl _ _ _) rfl ?_)
            rw [E.out]
            exact ⟨rfl, O, D', h1, (oy.trans (((Only.refl _ _).drewN _).trans o1)).below (by have := h.hB; omega) (by simpa using h.hB)⟩
        · have hl' : Lx.letter (y.peek 0) = false := by simpa using hl
          by_cases hb : 4294967295 < n
          · have E : Hid (x.number = y.fail x.line x.col 6) := by
              refine num_dec HH.out A.out ez.out ?_
              simp [hl', hb]
            clear A hl
            go_wp2_with fail
            refine (rune0 hy fy).mono ?_
            rintro e w' ⟨rfl, n1, rfl⟩
            go_wp2_with fail
            refine (hex_any _ _ (by omega) (by omega)).mono ?_
            rintro e w' ⟨rfl, rfl⟩
            go_wp2_with fail
            all_goals
              refine (rune0 (hy.drewN _) fy).mono ?_
              rintro e w' ⟨rfl, n2, rfl⟩
              go_wp2_with fail
              refine (letter_any _ _).mono ?_
              rintro e w' ⟨rfl, rfl⟩
              go_wp2_with fail
              refine (fail_any x.line x.col 6 (hy.drewN _)).mono ?_
              rintro e w1 ⟨rfl, D', h1, o1⟩
              go_wp2_with fail
              (first | go_end0 | refine bodyPost_ret (results_none rfl _ _ _) rfl ?_)
              rw [E.out]
              exact ⟨rfl, O, D', h1, (oy.trans (((Only.refl _ _).drewN _).trans o1)).below (by have := h.hB; omega) (by simpa using h.hB)⟩
          · have E : Hid (x.number = y.put 2 [] n x.line x.col) := by
              refine num_dec HH.out A.out ez.out ?_
              simp [hl', hb]
            clear A hl
            go_wp2_with fail
            refine (rune0 hy fy).mono ?_
            rintro e w' ⟨rfl, n1, rfl⟩
            go_wp2_with fail
            refine (hex_any _ _ (by omega) (by omega)).mono ?_
            rintro e w' ⟨rfl, rfl⟩
            go_wp2_with fail
            all_goals
              refine (rune0 (hy.drewN _) fy).mono ?_
              rintro e w' ⟨rfl, n2, rfl⟩
              go_wp2_with fail
              refine (letter_any _ _).mono ?_
              rintro e w' ⟨rfl, rfl⟩
              go_wp2_with fail
              refine (put_any 2 n x.line x.col [] (hy.drewN _) (by have := fy.out; have := fy.at_; have := fy.len; omega)).mono ?_
              rintro e w1 ⟨rfl, O', h1, o1⟩
              go_wp2_with fail
              (first | go_end0 | refine bodyPost_ret (results_none rfl _ _ _) rfl ?_)
              rw [E.out]
              exact ⟨rfl, O', D, h1, ((oy.drewN _).below (by have := h.hB; omega) (by simpa using h.hB)).trans o1⟩
      · have hlt : y.at_ < y.l.length := Fit.peek_lt (k := 0) (by
          rcases Int.lt_or_le (y.peek 0) 0 with h0 | h0
          · have := hex_neg _ h0; omega
          · exact h0)
        have A : Hid (y.digits 10 n = y.step.digits 10 (min (n * 10 + Lx.hex (y.peek 0)) 4294967296)) := digits_step hs hlt
        have hs0 : 0 ≤ Lx.hex (y.peek 0) := by omega
        have hs1 : Lx.hex (y.peek 0) < 10 := by omega
        have hpn : w.heap.size ∉ [p] := by simp; omega
        clear hs
        go_wp2_with fail
        refine (rune0 hy fy).mono ?_
        rintro e w' ⟨rfl, n1, rfl⟩
        go_wp2_with fail
        refine (hex_any _ _ (by omega) (by omega)).mono ?_
        rintro e w' ⟨rfl, rfl⟩
        go_wp2_with fail
        all_goals
          refine (step_any (hy.drewN _) fy hlt).mono ?_
          rintro e w1 ⟨rfl, h1, o1⟩
          go_wp2_with fail
          go_roundg (y.step.l.length - y.step.at_)
          case measure => rw [step_l, step_at]; omega
          case rel => exact ⟨min (n * 10 + Lx.hex (y.peek 0)) 4294967296, y.step, congrArg (Value.int .i64) (by omega), by omega, by omega, h1, fy.step hlt, gy.trans (Goes.step y), A.out ▸ ey, oy.trans (((Only.refl _ _).drewN _).trans o1), (by_.drewN _).only o1 hpn, Nat.le_refl _⟩
  · have HH := Lib.hid hh
    have l1 : x.at_ < x.l.length := Fit.peek_lt (k := 0) (by simp [numHead] at hh; omega)
    have l2 : x.step.at_ < x.step.l.length := by
      have : x.at_ + 1 < x.l.length := Fit.peek_lt (k := 1) (by simp [numHead] at hh; omega)
      rw [step_l, step_at]; exact this
    clear hh
    go_wp2_with fail
    refine (step_any q0 f l1).mono ?_
    rintro e w2 ⟨rfl, h2, o2⟩
    go_wp2_with fail
    refine (step_any h2 (f.step l1) l2).mono ?_
    rintro e w3 ⟨rfl, h3, o3⟩
    obtain ⟨z, hz, fz_, gz, bz, oz, ez⟩ : ∃ z, Lex w3 B T p s z L O D ∧ Fit z ∧ Goes x z ∧ Whole w3 w.heap.size 46 #[.int .i64 x.line, .int .i64 x.col] ∧ Only [p] w w3 ∧ Hid (z = x.step.step) := ⟨x.step.step, h3, (f.step l1).step l2, (Goes.step x).trans (Goes.step _), (u0.only o2 hpn).only o3 hpn, (o0.trans o2).trans o3, rfl⟩
    go_wp2_with fail
    go_loopg [4] (z.l.length - z.at_) (fun k v wr => NumRel w w.heap.size B T p s x z L O D 16 k v wr)
    case atStart => exact ⟨0, z, rfl, by omega, by omega, hz, fz_, Goes.refl z, rfl, oz, bz, Nat.le_refl _⟩
    case round =>
      obtain ⟨n, y, rfl, hn0, hn1, hy, fy, gy, ey, oy, by_, ky⟩ := hrel
      have bp := fy.peek_bd 0
      have bh := Lx_hex_bd (y.peek 0)
      by_cases hs : Lx.hex (y.peek 0) < 0 ∨ 16 ≤ Lx.hex (y.peek 0)
      · have A : Hid (z.digits 16 0 = (n, y)) := by rw [← ey, digits_stop hs]; exact rfl
        clear ey
        have k3 := hy.cell 3
        have k4 := hy.cell 4
        have g0 := by_.cell 0
        have g1 := by_.cell 1
        simp at k3 k4 g0 g1
        by_cases hl : Lx.letter (y.peek 0) = true
        · have E : Hid (x.number = y.fail y.line y.col 3) := by
            refine num_hex HH.out A.out ez.out ?_
            simp [hl]
          clear A
          go_wp2_with fail
          refine (rune0 hy fy).mono ?_
          rintro e w' ⟨rfl, n1, rfl⟩
          go_wp2_with fail
          refine (hex_any _ _ (by omega) (by omega)).mono ?_
          rintro e w' ⟨rfl, rfl⟩
          go_wp2_with fail
          all_goals
            refine (rune0 (hy.drewN _) fy).mono ?_
            rintro e w' ⟨rfl, n2, rfl⟩
            go_wp2_with fail
            refine (letter_any _ _).mono ?_
            rintro e w' ⟨rfl, rfl⟩
            go_wp2_with fail
            refine (fail_any y.line y.col 3 (hy.drewN _)).mono ?_
            rintro e w1 ⟨rfl, D', h1, o1⟩
            go_wp2_with fail
            (first | go_end0 | refine bodyPost_ret (results_none rfl _ _ _) rfl ?_)
            rw [E.out]
            exact ⟨rfl, O, D', h1, (oy.trans (((Only.refl _ _).drewN _).trans o1)).below (by have := h.hB; omega) (by simpa using h.hB)⟩
        · have hl' : Lx.letter (y.peek 0) = false := by simpa using hl
          by_cases hb : 4294967295 < n
          · have E : Hid (x.number = y.fail x.line x.col 6) := by
              refine num_hex HH.out A.out ez.out ?_
              simp [hl', hb]
            clear A hl
            go_wp2_with fail
            refine (rune0 hy fy).mono ?_
            rintro e w' ⟨rfl, n1, rfl⟩
            go_wp2_with fail
            refine (hex_any _ _ (by omega) (by omega)).mono ?_
            rintro e w' ⟨rfl, rfl⟩
            go_wp2_with fail
            all_goals
              refine (rune0 (hy.drewN _) fy).mono ?_
              rintro e w' ⟨rfl, n2, rfl⟩
              go_wp2_with fail
              refine (letter_any _ _).mono ?_
              rintro e w' ⟨rfl, rfl⟩
              go_wp2_with fail
              refine (fail_any x.line x.col 6 (hy.drewN _)).mono ?_
              rintro e w1 ⟨rfl, D', h1, o1⟩
              go_wp2_with fail
              (first | go_end0 | refine bodyPost_ret (results_none rfl _ _ _) rfl ?_)
              rw [E.out]
              exact ⟨rfl, O, D', h1, (oy.trans (((Only.refl _ _).drewN _).trans o1)).below (by have := h.hB; omega) (by simpa using h.hB)⟩
          · have E : Hid (x.number = y.put 2 [] n x.line x.col) := by
              refine num_hex HH.out A.out ez.out ?_
              simp [hl', hb]
            clear A hl
            go_wp2_with fail
            refine (rune0 hy fy).mono ?_
            rintro e w' ⟨rfl, n1, rfl⟩
            go_wp2_with fail
            refine (hex_any _ _ (by omega) (by omega)).mono ?_
            rintro e w' ⟨rfl, rfl⟩
            go_wp2_with fail
            all_goals
              refine (rune0 (hy.drewN _) fy).mono ?_
              rintro e w' ⟨rfl, n2, rfl⟩
              go_wp2_with fail
              refine (letter_any _ _).mono ?_
              rintro e w' ⟨rfl, rfl⟩
              go_wp2_with fail
              refine (put_any 2 n x.line x.col [] (hy.drewN _) (by have := fy.out; have := fy.at_; have := fy.len; omega)).mono ?_
              rintro e w1 ⟨rfl, O', h1, o1⟩
              go_wp2_with fail
              (first | go_end0 | refine bodyPost_ret (results_none rfl _ _ _) rfl ?_)
              rw [E.out]
              exact ⟨rfl, O', D, h1, ((oy.drewN _).below (by have := h.hB; omega) (by simpa using h.hB)).trans o1⟩
      · have hlt : y.at_ < y.l.length := Fit.peek_lt (k := 0) (by
          rcases Int.lt_or_le (y.peek 0) 0 with h0 | h0
          · have := hex_neg _ h0; omega
          · exact h0)
        have A : Hid (y.digits 16 n = y.step.digits 16 (min (n * 16 + Lx.hex (y.peek 0)) 4294967296)) := digits_step hs hlt
        have hs0 : 0 ≤ Lx.hex (y.peek 0) := by omega
        have hs1 : Lx.hex (y.peek 0) < 16 := by omega
        have hpn : w.heap.size ∉ [p] := by simp; omega
        clear hs
        go_wp2_with fail
        refine (rune0 hy fy).mono ?_
        rintro e w' ⟨rfl, n1, rfl⟩
        go_wp2_with fail
        refine (hex_any _ _ (by omega) (by omega)).mono ?_
        rintro e w' ⟨rfl, rfl⟩
        go_wp2_with fail
        all_goals
          refine (step_any (hy.drewN _) fy hlt).mono ?_
          rintro e w1 ⟨rfl, h1, o1⟩
          go_wp2_with fail
          go_roundg (y.step.l.length - y.step.at_)
          case measure => rw [step_l, step_at]; omega
          case rel => exact ⟨min (n * 16 + Lx.hex (y.peek 0)) 4294967296, y.step, congrArg (Value.int .i64) (by omega), by omega, by omega, h1, fy.step hlt, gy.trans (Goes.step y), A.out ▸ ey, oy.trans (((Only.refl _ _).drewN _).trans o1), (by_.drewN _).only o1 hpn, Nat.le_refl _⟩
end
end Go.Proofs.YtoidmljhlekbkaaDoor
