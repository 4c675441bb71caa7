/-
  The walk of the lexer's one, a theorem for each of its ways. Printed by wip/lexer/gen_one.py.
-/
import Derived.Test.YtoidmljhlekbkaaDoorW5
import Derived.Test.YtoidmljhlekbkaaDoorW6
import Derived.Test.YtoidmljhlekbkaaDoorW7
import Derived.Test.YtoidmljhlekbkaaDoorW8
namespace Go.Proofs.YtoidmljhlekbkaaDoor
open Go.RowKit
section
variable {w : World} {B T p : Nat} {s : ByteArray} {x : Lx.St} {L O : Value} {D : Option Addr}
theorem one_blank32 (h : Lex w B T p s x L O D) (f : Fit x) (hlt : x.at_ < x.l.length) (hc : x.peek 0 = 32) :
    Calls Tryd.prog 18 #[.pointer (some ⟨p, 0, none⟩)] w
      fun e w' => e = .returned (.tuple #[]) ∧ ∃ O' D', Lex w' B w'.heap.size p s x.one L O' D' ∧ Below B w w' := by
  have c3 := h.cell 3
  have c4 := h.cell 4
  have hp := h.lt
  simp at c3 c4
  have hpn : w.heap.size ∉ [p] := by simp; omega
  have q0 := h.alloc (.cells #[.int .i64 x.line, .int .i64 x.col] 46)
  have u0 := Whole.made w 46 #[.int .i64 x.line, .int .i64 x.col]
  have o0 : Only [p] w (w.alloc (.cells #[.int .i64 x.line, .int .i64 x.col] 46)) := (Only.refl _ _).alloc _
  have hBp := h.hB
  have hTp := h.hT
  have hB0 : B ≤ w.heap.size := by omega
  have hBs : ∀ k ∈ [p], B ≤ k := by simpa using hBp
  have f1 := f.step hlt
  have fo := f.out
  have fa := f.at_
  have fl := f.len
  have ho : x.step.out.length ≤ 65536 := by show x.out.length ≤ 65536; omega
  have m : (x.peek 0 == 32) = true := by simp [hc]
  have E : Hid (x.one = x.step) := by
    show Lx.St.one x = _
    unfold Lx.St.one
    simp only
    rw [if_pos (by omega)]
  clear hc
  go_enter Tryd.func18, Tryd.ntmps18
  go_wp2_with fail
  refine (rune0 q0 f).mono ?_
  rintro e w' ⟨rfl, n, rfl⟩
  have u1 := u0.drewN n
  have k0 := u1.cell 0
  have k1 := u1.cell 1
  simp at k0 k1
  go_wp2_with fail
  refine (step_any (q0.drewN _) f hlt).mono ?_
  rintro e w2 ⟨rfl, h2, o2⟩
  go_wp2_with fail
  (first | go_end0 | refine bodyPost_ret (results_none rfl _ _ _) rfl ?_)
  rw [E.out]
  exact ⟨rfl, O, D, h2.more (Nat.le_trans h2.hT (Nat.le_refl _)) (Nat.le_refl _), (o0.trans (((Only.refl _ _).drewN _).trans o2)).below hB0 hBs⟩
theorem one_blank9 (h : Lex w B T p s x L O D) (f : Fit x) (hlt : x.at_ < x.l.length) (hc : x.peek 0 = 9) :
    Calls Tryd.prog 18 #[.pointer (some ⟨p, 0, none⟩)] w
      fun e w' => e = .returned (.tuple #[]) ∧ ∃ O' D', Lex w' B w'.heap.size p s x.one L O' D' ∧ Below B w w' := by
  have c3 := h.cell 3
  have c4 := h.cell 4
  have hp := h.lt
  simp at c3 c4
  have hpn : w.heap.size ∉ [p] := by simp; omega
  have q0 := h.alloc (.cells #[.int .i64 x.line, .int .i64 x.col] 46)
  have u0 := Whole.made w 46 #[.int .i64 x.line, .int .i64 x.col]
  have o0 : Only [p] w (w.alloc (.cells #[.int .i64 x.line, .int .i64 x.col] 46)) := (Only.refl _ _).alloc _
  have hBp := h.hB
  have hTp := h.hT
  have hB0 : B ≤ w.heap.size := by omega
  have hBs : ∀ k ∈ [p], B ≤ k := by simpa using hBp
  have f1 := f.step hlt
  have fo := f.out
  have fa := f.at_
  have fl := f.len
  have ho : x.step.out.length ≤ 65536 := by show x.out.length ≤ 65536; omega
  have n32 : (x.peek 0 == 32) = false := by simp; omega
  have m : (x.peek 0 == 9) = true := by simp [hc]
  have E : Hid (x.one = x.step) := by
    show Lx.St.one x = _
    unfold Lx.St.one
    simp only
    rw [if_pos (by omega)]
  clear hc
  go_enter Tryd.func18, Tryd.ntmps18
  go_wp2_with fail
  refine (rune0 q0 f).mono ?_
  rintro e w' ⟨rfl, n, rfl⟩
  have u1 := u0.drewN n
  have k0 := u1.cell 0
  have k1 := u1.cell 1
  simp at k0 k1
  go_wp2_with fail
  refine (step_any (q0.drewN _) f hlt).mono ?_
  rintro e w2 ⟨rfl, h2, o2⟩
  go_wp2_with fail
  (first | go_end0 | refine bodyPost_ret (results_none rfl _ _ _) rfl ?_)
  rw [E.out]
  exact ⟨rfl, O, D, h2.more (Nat.le_trans h2.hT (Nat.le_refl _)) (Nat.le_refl _), (o0.trans (((Only.refl _ _).drewN _).trans o2)).below hB0 hBs⟩
theorem one_blank13 (h : Lex w B T p s x L O D) (f : Fit x) (hlt : x.at_ < x.l.length) (hc : x.peek 0 = 13) :
    Calls Tryd.prog 18 #[.pointer (some ⟨p, 0, none⟩)] w
      fun e w' => e = .returned (.tuple #[]) ∧ ∃ O' D', Lex w' B w'.heap.size p s x.one L O' D' ∧ Below B w w' := by
  have c3 := h.cell 3
  have c4 := h.cell 4
  have hp := h.lt
  simp at c3 c4
  have hpn : w.heap.size ∉ [p] := by simp; omega
  have q0 := h.alloc (.cells #[.int .i64 x.line, .int .i64 x.col] 46)
  have u0 := Whole.made w 46 #[.int .i64 x.line, .int .i64 x.col]
  have o0 : Only [p] w (w.alloc (.cells #[.int .i64 x.line, .int .i64 x.col] 46)) := (Only.refl _ _).alloc _
  have hBp := h.hB
  have hTp := h.hT
  have hB0 : B ≤ w.heap.size := by omega
  have hBs : ∀ k ∈ [p], B ≤ k := by simpa using hBp
  have f1 := f.step hlt
  have fo := f.out
  have fa := f.at_
  have fl := f.len
  have ho : x.step.out.length ≤ 65536 := by show x.out.length ≤ 65536; omega
  have n32 : (x.peek 0 == 32) = false := by simp; omega
  have n9 : (x.peek 0 == 9) = false := by simp; omega
  have m : (x.peek 0 == 13) = true := by simp [hc]
  have E : Hid (x.one = x.step) := by
    show Lx.St.one x = _
    unfold Lx.St.one
    simp only
    rw [if_pos (by omega)]
  clear hc
  go_enter Tryd.func18, Tryd.ntmps18
  go_wp2_with fail
  refine (rune0 q0 f).mono ?_
  rintro e w' ⟨rfl, n, rfl⟩
  have u1 := u0.drewN n
  have k0 := u1.cell 0
  have k1 := u1.cell 1
  simp at k0 k1
  go_wp2_with fail
  refine (step_any (q0.drewN _) f hlt).mono ?_
  rintro e w2 ⟨rfl, h2, o2⟩
  go_wp2_with fail
  (first | go_end0 | refine bodyPost_ret (results_none rfl _ _ _) rfl ?_)
  rw [E.out]
  exact ⟨rfl, O, D, h2.more (Nat.le_trans h2.hT (Nat.le_refl _)) (Nat.le_refl _), (o0.trans (((Only.refl _ _).drewN _).trans o2)).below hB0 hBs⟩
/-- What the loop of a note's runes leaves. -/
def NoteRel (w0 : World) (B T p : Nat) (s : ByteArray) (x : Lx.St) (L O : Value) (D : Option Addr) (k : Nat) (wr : World) : Prop :=
  ∃ y, Lex wr B T p s y L O D ∧ Fit y ∧ Goes x y ∧ y.skip Lx.noteCh = x.skip Lx.noteCh ∧ Only [p] w0 wr ∧ y.l.length - y.at_ ≤ k
theorem one_note (h : Lex w B T p s x L O D) (f : Fit x) (hlt : x.at_ < x.l.length) (hc : x.peek 0 = 59) :
    Calls Tryd.prog 18 #[.pointer (some ⟨p, 0, none⟩)] w
      fun e w' => e = .returned (.tuple #[]) ∧ ∃ O' D', Lex w' B w'.heap.size p s x.one L O' D' ∧ Below B w w' := by
  have c3 := h.cell 3
  have c4 := h.cell 4
  have hp := h.lt
  simp at c3 c4
  have hpn : w.heap.size ∉ [p] := by simp; omega
  have q0 := h.alloc (.cells #[.int .i64 x.line, .int .i64 x.col] 46)
  have u0 := Whole.made w 46 #[.int .i64 x.line, .int .i64 x.col]
  have o0 : Only [p] w (w.alloc (.cells #[.int .i64 x.line, .int .i64 x.col] 46)) := (Only.refl _ _).alloc _
  have hBp := h.hB
  have hTp := h.hT
  have hB0 : B ≤ w.heap.size := by omega
  have hBs : ∀ k ∈ [p], B ≤ k := by simpa using hBp
  have f1 := f.step hlt
  have fo := f.out
  have fa := f.at_
  have fl := f.len
  have ho : x.step.out.length ≤ 65536 := by show x.out.length ≤ 65536; omega
  have n32 : (x.peek 0 == 32) = false := by simp; omega
  have n9 : (x.peek 0 == 9) = false := by simp; omega
  have n13 : (x.peek 0 == 13) = false := by simp; omega
  have m : (x.peek 0 == 59) = true := by simp [hc]
  have E : Hid (x.one = x.skip Lx.noteCh) := by
    show Lx.St.one x = _
    unfold Lx.St.one
    simp only
    rw [if_neg (by omega), if_pos hc]
  clear hc
  go_enter Tryd.func18, Tryd.ntmps18
  go_wp2_with fail
  refine (rune0 q0 f).mono ?_
  rintro e w' ⟨rfl, n, rfl⟩
  have u1 := u0.drewN n
  have k0 := u1.cell 0
  have k1 := u1.cell 1
  simp at k0 k1
  go_wp2_with fail
  go_loopg [] (x.l.length - x.at_) (fun k wr => NoteRel w B T p s x L O D k wr)
  case atStart => exact ⟨x, q0.drewN _, f, Goes.refl x, rfl, o0.drewN _, Nat.le_refl _⟩
  case round =>
    obtain ⟨y, hy, fy, gy, ey, oy, ky⟩ := hrel
    by_cases h10 : y.peek 0 = 10
    · have A : Hid (y = x.skip Lx.noteCh) := by rw [skip_stop (by simp [Lx.noteCh, h10])] at ey; exact ey
      have e1 : (y.peek 0 != 10) = false := by simp [h10]
      clear h10 ey
      go_wp2_with fail
      refine (rune0 hy fy).mono ?_
      rintro e w' ⟨rfl, n1, rfl⟩
      go_wp2_with fail
      (first | go_end0 | refine bodyPost_ret (results_none rfl _ _ _) rfl ?_)
      rw [E.out, ← A.out]
      exact ⟨rfl, O, D, (hy.drewN _).more hy.hT (Nat.le_refl _), (oy.drewN _).below hB0 hBs⟩
    · have e1 : (y.peek 0 != 10) = true := by simp [h10]
      by_cases h0 : 0 ≤ y.peek 0
      · have A : Hid (y.skip Lx.noteCh = y.step.skip Lx.noteCh) := skip_step (by simp [Lx.noteCh, h10, h0]) (Fit.peek_lt (k := 0) h0)
        have l2 : y.at_ < y.l.length := Fit.peek_lt (k := 0) h0
        clear h10
        go_wp2_with fail
        refine (rune0 hy fy).mono ?_
        rintro e w' ⟨rfl, n1, rfl⟩
        go_wp2_with fail
        refine (rune0 (hy.drewN _) fy).mono ?_
        rintro e w' ⟨rfl, n2, rfl⟩
        go_wp2_with fail
        refine (step_any (hy.drewN _) fy l2).mono ?_
        rintro e w2 ⟨rfl, h2, o2⟩
        go_wp2_with fail
        go_roundg (y.step.l.length - y.step.at_)
        case measure => rw [step_l, step_at]; omega
        case rel => exact ⟨y.step, h2, fy.step l2, gy.trans (Goes.step y), A.out ▸ ey, oy.trans (((Only.refl _ _).drewN _).trans o2), Nat.le_refl _⟩
      · have A : Hid (y = x.skip Lx.noteCh) := by rw [skip_stop (by simp [Lx.noteCh, h0])] at ey; exact ey
        have h0' : y.peek 0 < 0 := by omega
        clear h10 ey h0
        go_wp2_with fail
        refine (rune0 hy fy).mono ?_
        rintro e w' ⟨rfl, n1, rfl⟩
        go_wp2_with fail
        refine (rune0 (hy.drewN _) fy).mono ?_
        rintro e w' ⟨rfl, n2, rfl⟩
        go_wp2_with fail
        (first | go_end0 | refine bodyPost_ret (results_none rfl _ _ _) rfl ?_)
        rw [E.out, ← A.out]
        exact ⟨rfl, O, D, (hy.drewN _).more hy.hT (Nat.le_refl _), (oy.drewN _).below hB0 hBs⟩
theorem one_line_many (h : Lex w B T p s x L O D) (f : Fit x) (hlt : x.at_ < x.l.length) (hc : x.peek 0 = 10) (hm : 8000 < x.line) :
    Calls Tryd.prog 18 #[.pointer (some ⟨p, 0, none⟩)] w
      fun e w' => e = .returned (.tuple #[]) ∧ ∃ O' D', Lex w' B w'.heap.size p s x.one L O' D' ∧ Below B w w' := by
  have c3 := h.cell 3
  have c4 := h.cell 4
  have hp := h.lt
  simp at c3 c4
  have hpn : w.heap.size ∉ [p] := by simp; omega
  have q0 := h.alloc (.cells #[.int .i64 x.line, .int .i64 x.col] 46)
  have u0 := Whole.made w 46 #[.int .i64 x.line, .int .i64 x.col]
  have o0 : Only [p] w (w.alloc (.cells #[.int .i64 x.line, .int .i64 x.col] 46)) := (Only.refl _ _).alloc _
  have hBp := h.hB
  have hTp := h.hT
  have hB0 : B ≤ w.heap.size := by omega
  have hBs : ∀ k ∈ [p], B ≤ k := by simpa using hBp
  have f1 := f.step hlt
  have fo := f.out
  have fa := f.at_
  have fl := f.len
  have ho : x.step.out.length ≤ 65536 := by show x.out.length ≤ 65536; omega
  have n32 : (x.peek 0 == 32) = false := by simp; omega
  have n9 : (x.peek 0 == 9) = false := by simp; omega
  have n13 : (x.peek 0 == 13) = false := by simp; omega
  have n59 : (x.peek 0 == 59) = false := by simp; omega
  have m : (x.peek 0 == 10) = true := by simp [hc]
  have E : Hid (x.one = x.fail x.line x.col 2) := by
    show Lx.St.one x = _
    unfold Lx.St.one
    simp only
    rw [if_neg (by omega), if_neg (by omega), if_pos hc, if_pos hm]
  clear hc
  go_enter Tryd.func18, Tryd.ntmps18
  go_wp2_with fail
  refine (rune0 q0 f).mono ?_
  rintro e w' ⟨rfl, n, rfl⟩
  have u1 := u0.drewN n
  have k0 := u1.cell 0
  have k1 := u1.cell 1
  simp at k0 k1
  go_wp2_with fail
  refine (fail_any x.line x.col 2 (q0.drewN _)).mono ?_
  rintro e w2 ⟨rfl, D', h2, o2⟩
  go_wp2_with fail
  (first | go_end0 | refine bodyPost_ret (results_none rfl _ _ _) rfl ?_)
  rw [E.out]
  exact ⟨rfl, O, D', h2, (o0.trans (((Only.refl _ _).drewN _).trans o2)).below hB0 hBs⟩
theorem one_line (h : Lex w B T p s x L O D) (f : Fit x) (hlt : x.at_ < x.l.length) (hc : x.peek 0 = 10) (hm : ¬ 8000 < x.line) :
    Calls Tryd.prog 18 #[.pointer (some ⟨p, 0, none⟩)] w
      fun e w' => e = .returned (.tuple #[]) ∧ ∃ O' D', Lex w' B w'.heap.size p s x.one L O' D' ∧ Below B w w' := by
  have c3 := h.cell 3
  have c4 := h.cell 4
  have hp := h.lt
  simp at c3 c4
  have hpn : w.heap.size ∉ [p] := by simp; omega
  have q0 := h.alloc (.cells #[.int .i64 x.line, .int .i64 x.col] 46)
  have u0 := Whole.made w 46 #[.int .i64 x.line, .int .i64 x.col]
  have o0 : Only [p] w (w.alloc (.cells #[.int .i64 x.line, .int .i64 x.col] 46)) := (Only.refl _ _).alloc _
  have hBp := h.hB
  have hTp := h.hT
  have hB0 : B ≤ w.heap.size := by omega
  have hBs : ∀ k ∈ [p], B ≤ k := by simpa using hBp
  have f1 := f.step hlt
  have fo := f.out
  have fa := f.at_
  have fl := f.len
  have ho : x.step.out.length ≤ 65536 := by show x.out.length ≤ 65536; omega
  have n32 : (x.peek 0 == 32) = false := by simp; omega
  have n9 : (x.peek 0 == 9) = false := by simp; omega
  have n13 : (x.peek 0 == 13) = false := by simp; omega
  have n59 : (x.peek 0 == 59) = false := by simp; omega
  have m : (x.peek 0 == 10) = true := by simp [hc]
  have E : Hid (x.one = x.step.put 5 [] 0 x.line x.col) := by
    show Lx.St.one x = _
    unfold Lx.St.one
    simp only
    rw [if_neg (by omega), if_neg (by omega), if_pos hc, if_neg hm]
  clear hc
  go_enter Tryd.func18, Tryd.ntmps18
  go_wp2_with fail
  refine (rune0 q0 f).mono ?_
  rintro e w' ⟨rfl, n, rfl⟩
  have u1 := u0.drewN n
  have k0 := u1.cell 0
  have k1 := u1.cell 1
  simp at k0 k1
  go_wp2_with fail
  refine (step_any (q0.drewN _) f hlt).mono ?_
  rintro e w2 ⟨rfl, h2, o2⟩
  have u2 := u1.only o2 hpn
  have g0 := u2.cell 0
  have g1 := u2.cell 1
  simp at g0 g1
  go_wp2_with fail
  refine (put_any 5 0 x.line x.col [] h2 ho).mono ?_
  rintro e w3 ⟨rfl, O', h3, o3⟩
  go_wp2_with fail
  (first | go_end0 | refine bodyPost_ret (results_none rfl _ _ _) rfl ?_)
  rw [E.out]
  exact ⟨rfl, O', D, h3, ((o0.trans (((Only.refl _ _).drewN _).trans o2)).below hB0 hBs).trans o3⟩
theorem one_letter (h : Lex w B T p s x L O D) (f : Fit x) (hlt : x.at_ < x.l.length) (hl : Lx.letter (x.peek 0) = true) :
    Calls Tryd.prog 18 #[.pointer (some ⟨p, 0, none⟩)] w
      fun e w' => e = .returned (.tuple #[]) ∧ ∃ O' D', Lex w' B w'.heap.size p s x.one L O' D' ∧ Below B w w' := by
  have c3 := h.cell 3
  have c4 := h.cell 4
  have hp := h.lt
  simp at c3 c4
  have hpn : w.heap.size ∉ [p] := by simp; omega
  have q0 := h.alloc (.cells #[.int .i64 x.line, .int .i64 x.col] 46)
  have u0 := Whole.made w 46 #[.int .i64 x.line, .int .i64 x.col]
  have o0 : Only [p] w (w.alloc (.cells #[.int .i64 x.line, .int .i64 x.col] 46)) := (Only.refl _ _).alloc _
  have hBp := h.hB
  have hTp := h.hT
  have hB0 : B ≤ w.heap.size := by omega
  have hBs : ∀ k ∈ [p], B ≤ k := by simpa using hBp
  have f1 := f.step hlt
  have fo := f.out
  have fa := f.at_
  have fl := f.len
  have ho : x.step.out.length ≤ 65536 := by show x.out.length ≤ 65536; omega
  have hd := hl
  simp [Lx.letter] at hd
  have n32 : (x.peek 0 == 32) = false := by simp; omega
  have n9 : (x.peek 0 == 9) = false := by simp; omega
  have n13 : (x.peek 0 == 13) = false := by simp; omega
  have n59 : (x.peek 0 == 59) = false := by simp; omega
  have n10 : (x.peek 0 == 10) = false := by simp; omega
  have E : Hid (x.one = x.name) := by
    show Lx.St.one x = _
    unfold Lx.St.one
    simp only
    rw [if_neg (by omega), if_neg (by omega), if_neg (by omega), if_pos hl]
  clear hd
  go_enter Tryd.func18, Tryd.ntmps18
  go_wp2_with fail
  refine (rune0 q0 f).mono ?_
  rintro e w' ⟨rfl, n, rfl⟩
  have u1 := u0.drewN n
  have k0 := u1.cell 0
  have k1 := u1.cell 1
  simp at k0 k1
  go_wp2_with fail
  refine (letter_any _ _).mono ?_
  rintro e w' ⟨rfl, rfl⟩
  go_wp2_with fail
  refine (name_any (q0.drewN _) f hlt).mono ?_
  rintro e w2 ⟨rfl, O', D', h2, o2⟩
  go_wp2_with fail
  (first | go_end0 | refine bodyPost_ret (results_none rfl _ _ _) rfl ?_)
  rw [E.out]
  exact ⟨rfl, O', D', h2, ((o0.drewN _).below hB0 hBs).trans o2⟩
theorem one_digit (h : Lex w B T p s x L O D) (f : Fit x) (hlt : x.at_ < x.l.length) (hl : Lx.letter (x.peek 0) = false) (hg : Lx.digit (x.peek 0) = true) :
    Calls Tryd.prog 18 #[.pointer (some ⟨p, 0, none⟩)] w
      fun e w' => e = .returned (.tuple #[]) ∧ ∃ O' D', Lex w' B w'.heap.size p s x.one L O' D' ∧ Below B w w' := by
  have c3 := h.cell 3
  have c4 := h.cell 4
  have hp := h.lt
  simp at c3 c4
  have hpn : w.heap.size ∉ [p] := by simp; omega
  have q0 := h.alloc (.cells #[.int .i64 x.line, .int .i64 x.col] 46)
  have u0 := Whole.made w 46 #[.int .i64 x.line, .int .i64 x.col]
  have o0 : Only [p] w (w.alloc (.cells #[.int .i64 x.line, .int .i64 x.col] 46)) := (Only.refl _ _).alloc _
  have hBp := h.hB
  have hTp := h.hT
  have hB0 : B ≤ w.heap.size := by omega
  have hBs : ∀ k ∈ [p], B ≤ k := by simpa using hBp
  have f1 := f.step hlt
  have fo := f.out
  have fa := f.at_
  have fl := f.len
  have ho : x.step.out.length ≤ 65536 := by show x.out.length ≤ 65536; omega
  have hd := hg
  simp [Lx.digit] at hd
  have n32 : (x.peek 0 == 32) = false := by simp; omega
  have n9 : (x.peek 0 == 9) = false := by simp; omega
  have n13 : (x.peek 0 == 13) = false := by simp; omega
  have n59 : (x.peek 0 == 59) = false := by simp; omega
  have n10 : (x.peek 0 == 10) = false := by simp; omega
  have E : Hid (x.one = x.number) := by
    show Lx.St.one x = _
    unfold Lx.St.one
    simp only
    rw [if_neg (by omega), if_neg (by omega), if_neg (by omega), if_neg (by simp [hl]), if_pos hg]
  clear hd
  go_enter Tryd.func18, Tryd.ntmps18
  go_wp2_with fail
  refine (rune0 q0 f).mono ?_
  rintro e w' ⟨rfl, n, rfl⟩
  have u1 := u0.drewN n
  have k0 := u1.cell 0
  have k1 := u1.cell 1
  simp at k0 k1
  go_wp2_with fail
  refine (letter_any _ _).mono ?_
  rintro e w' ⟨rfl, rfl⟩
  go_wp2_with fail
  refine (digit_any _ _).mono ?_
  rintro e w' ⟨rfl, rfl⟩
  go_wp2_with fail
  refine (number_any (q0.drewN _) f).mono ?_
  rintro e w2 ⟨rfl, O', D', h2, o2⟩
  go_wp2_with fail
  (first | go_end0 | refine bodyPost_ret (results_none rfl _ _ _) rfl ?_)
  rw [E.out]
  exact ⟨rfl, O', D', h2, ((o0.drewN _).below hB0 hBs).trans o2⟩
theorem one_quoted (h : Lex w B T p s x L O D) (f : Fit x) (hlt : x.at_ < x.l.length) (hc : x.peek 0 = 39) :
    Calls Tryd.prog 18 #[.pointer (some ⟨p, 0, none⟩)] w
      fun e w' => e = .returned (.tuple #[]) ∧ ∃ O' D', Lex w' B w'.heap.size p s x.one L O' D' ∧ Below B w w' := by
  have c3 := h.cell 3
  have c4 := h.cell 4
  have hp := h.lt
  simp at c3 c4
  have hpn : w.heap.size ∉ [p] := by simp; omega
  have q0 := h.alloc (.cells #[.int .i64 x.line, .int .i64 x.col] 46)
  have u0 := Whole.made w 46 #[.int .i64 x.line, .int .i64 x.col]
  have o0 : Only [p] w (w.alloc (.cells #[.int .i64 x.line, .int .i64 x.col] 46)) := (Only.refl _ _).alloc _
  have hBp := h.hB
  have hTp := h.hT
  have hB0 : B ≤ w.heap.size := by omega
  have hBs : ∀ k ∈ [p], B ≤ k := by simpa using hBp
  have f1 := f.step hlt
  have fo := f.out
  have fa := f.at_
  have fl := f.len
  have ho : x.step.out.length ≤ 65536 := by show x.out.length ≤ 65536; omega
  have hl : Lx.letter (x.peek 0) = false := by rw [hc]; rfl
  have hg : Lx.digit (x.peek 0) = false := by rw [hc]; rfl
  have n32 : (x.peek 0 == 32) = false := by simp; omega
  have n9 : (x.peek 0 == 9) = false := by simp; omega
  have n13 : (x.peek 0 == 13) = false := by simp; omega
  have n59 : (x.peek 0 == 59) = false := by simp; omega
  have n10 : (x.peek 0 == 10) = false := by simp; omega
  have m : (x.peek 0 == 39) = true := by simp [hc]
  have E : Hid (x.one = x.quoted) := by
    show Lx.St.one x = _
    unfold Lx.St.one
    simp only
    rw [if_neg (by omega), if_neg (by omega), if_neg (by omega), if_neg (by simp [hl]), if_neg (by simp [hg]), if_pos hc]
  clear hc
  go_enter Tryd.func18, Tryd.ntmps18
  go_wp2_with fail
  refine (rune0 q0 f).mono ?_
  rintro e w' ⟨rfl, n, rfl⟩
  have u1 := u0.drewN n
  have k0 := u1.cell 0
  have k1 := u1.cell 1
  simp at k0 k1
  go_wp2_with fail
  refine (letter_any _ _).mono ?_
  rintro e w' ⟨rfl, rfl⟩
  go_wp2_with fail
  refine (digit_any _ _).mono ?_
  rintro e w' ⟨rfl, rfl⟩
  go_wp2_with fail
  refine (quoted_any (q0.drewN _) f hlt).mono ?_
  rintro e w2 ⟨rfl, O', D', h2, o2⟩
  go_wp2_with fail
  (first | go_end0 | refine bodyPost_ret (results_none rfl _ _ _) rfl ?_)
  rw [E.out]
  exact ⟨rfl, O', D', h2, ((o0.drewN _).below hB0 hBs).trans o2⟩
theorem one_text (h : Lex w B T p s x L O D) (f : Fit x) (hlt : x.at_ < x.l.length) (hc : x.peek 0 = 34) :
    Calls Tryd.prog 18 #[.pointer (some ⟨p, 0, none⟩)] w
      fun e w' => e = .returned (.tuple #[]) ∧ ∃ O' D', Lex w' B w'.heap.size p s x.one L O' D' ∧ Below B w w' := by
  have c3 := h.cell 3
  have c4 := h.cell 4
  have hp := h.lt
  simp at c3 c4
  have hpn : w.heap.size ∉ [p] := by simp; omega
  have q0 := h.alloc (.cells #[.int .i64 x.line, .int .i64 x.col] 46)
  have u0 := Whole.made w 46 #[.int .i64 x.line, .int .i64 x.col]
  have o0 : Only [p] w (w.alloc (.cells #[.int .i64 x.line, .int .i64 x.col] 46)) := (Only.refl _ _).alloc _
  have hBp := h.hB
  have hTp := h.hT
  have hB0 : B ≤ w.heap.size := by omega
  have hBs : ∀ k ∈ [p], B ≤ k := by simpa using hBp
  have f1 := f.step hlt
  have fo := f.out
  have fa := f.at_
  have fl := f.len
  have ho : x.step.out.length ≤ 65536 := by show x.out.length ≤ 65536; omega
  have hl : Lx.letter (x.peek 0) = false := by rw [hc]; rfl
  have hg : Lx.digit (x.peek 0) = false := by rw [hc]; rfl
  have n32 : (x.peek 0 == 32) = false := by simp; omega
  have n9 : (x.peek 0 == 9) = false := by simp; omega
  have n13 : (x.peek 0 == 13) = false := by simp; omega
  have n59 : (x.peek 0 == 59) = false := by simp; omega
  have n10 : (x.peek 0 == 10) = false := by simp; omega
  have n39 : (x.peek 0 == 39) = false := by simp; omega
  have m : (x.peek 0 == 34) = true := by simp [hc]
  have E : Hid (x.one = x.text) := by
    show Lx.St.one x = _
    unfold Lx.St.one
    simp only
    rw [if_neg (by omega), if_neg (by omega), if_neg (by omega), if_neg (by simp [hl]), if_neg (by simp [hg]), if_neg (by omega), if_pos hc]
  clear hc
  go_enter Tryd.func18, Tryd.ntmps18
  go_wp2_with fail
  refine (rune0 q0 f).mono ?_
  rintro e w' ⟨rfl, n, rfl⟩
  have u1 := u0.drewN n
  have k0 := u1.cell 0
  have k1 := u1.cell 1
  simp at k0 k1
  go_wp2_with fail
  refine (letter_any _ _).mono ?_
  rintro e w' ⟨rfl, rfl⟩
  go_wp2_with fail
  refine (digit_any _ _).mono ?_
  rintro e w' ⟨rfl, rfl⟩
  go_wp2_with fail
  refine (text_any (q0.drewN _) f hlt).mono ?_
  rintro e w2 ⟨rfl, O', D', h2, o2⟩
  go_wp2_with fail
  (first | go_end0 | refine bodyPost_ret (results_none rfl _ _ _) rfl ?_)
  rw [E.out]
  exact ⟨rfl, O', D', h2, ((o0.drewN _).below hB0 hBs).trans o2⟩
theorem sign_index (c : Int) (h0 : 0 ≤ c) (h1 : c < 128) : decide (0 ≤ Lib.indexByte (ByteArray.mk #[44, 58, 45, 43, 40, 41, 61]).data.toList c.toNat.toUInt8) = Lx.sign c := by
  obtain ⟨n, rfl⟩ := Int.eq_ofNat_of_zero_le h0
  have h2 : n < 128 := by omega
  have key : ∀ m : Fin 128, decide (0 ≤ Lib.indexByte (ByteArray.mk #[44, 58, 45, 43, 40, 41, 61]).data.toList ((m.val : Int).toNat.toUInt8)) = Lx.sign (m.val : Int) := by decide +kernel
  exact key ⟨n, h2⟩
theorem one_sign (h : Lex w B T p s x L O D) (f : Fit x) (hlt : x.at_ < x.l.length) (hl : Lx.letter (x.peek 0) = false) (hg : Lx.digit (x.peek 0) = false) (h0 : 0 ≤ x.peek 0) (hsg : Lx.sign (x.peek 0) = true) :
    Calls Tryd.prog 18 #[.pointer (some ⟨p, 0, none⟩)] w
      fun e w' => e = .returned (.tuple #[]) ∧ ∃ O' D', Lex w' B w'.heap.size p s x.one L O' D' ∧ Below B w w' := by
  have c3 := h.cell 3
  have c4 := h.cell 4
  have hp := h.lt
  simp at c3 c4
  have hpn : w.heap.size ∉ [p] := by simp; omega
  have q0 := h.alloc (.cells #[.int .i64 x.line, .int .i64 x.col] 46)
  have u0 := Whole.made w 46 #[.int .i64 x.line, .int .i64 x.col]
  have o0 : Only [p] w (w.alloc (.cells #[.int .i64 x.line, .int .i64 x.col] 46)) := (Only.refl _ _).alloc _
  have hBp := h.hB
  have hTp := h.hT
  have hB0 : B ≤ w.heap.size := by omega
  have hBs : ∀ k ∈ [p], B ≤ k := by simpa using hBp
  have f1 := f.step hlt
  have fo := f.out
  have fa := f.at_
  have fl := f.len
  have ho : x.step.out.length ≤ 65536 := by show x.out.length ≤ 65536; omega
  have hd := hsg
  simp [Lx.sign] at hd
  have n32 : (x.peek 0 == 32) = false := by simp; omega
  have n9 : (x.peek 0 == 9) = false := by simp; omega
  have n13 : (x.peek 0 == 13) = false := by simp; omega
  have n59 : (x.peek 0 == 59) = false := by simp; omega
  have n10 : (x.peek 0 == 10) = false := by simp; omega
  have n39 : (x.peek 0 == 39) = false := by simp; omega
  have n34 : (x.peek 0 == 34) = false := by simp; omega
  have h128 : x.peek 0 < 128 := by omega
  have S : Hid (decide (0 ≤ Lib.indexByte (ByteArray.mk #[44, 58, 45, 43, 40, 41, 61]).data.toList (x.peek 0).toNat.toUInt8) = true) := by show decide _ = true; rw [sign_index _ h0 h128, hsg]
  have E : Hid (x.one = x.step.put 4 (Utf8.encode (x.peek 0)).data.toList 0 x.line x.col) := by
    show Lx.St.one x = _
    unfold Lx.St.one
    simp only
    rw [if_neg (by omega), if_neg (by omega), if_neg (by omega), if_neg (by simp [hl]), if_neg (by simp [hg]), if_neg (by omega), if_neg (by omega), if_pos hsg]
  clear hd hsg
  go_enter Tryd.func18, Tryd.ntmps18
  go_wp2_with fail
  refine (rune0 q0 f).mono ?_
  rintro e w' ⟨rfl, n, rfl⟩
  have u1 := u0.drewN n
  have k0 := u1.cell 0
  have k1 := u1.cell 1
  simp at k0 k1
  go_wp2_with fail
  refine (letter_any _ _).mono ?_
  rintro e w' ⟨rfl, rfl⟩
  go_wp2_with fail
  refine (digit_any _ _).mono ?_
  rintro e w' ⟨rfl, rfl⟩
  go_wp2_with fail
  refine (Tryd.strings_ContainsRune_ascii _ (x.peek 0) _ (by omega) (by omega)).mono ?_
  rintro e wz ⟨rfl, hwz⟩
  subst hwz
  rw [S.out]
  go_wp2_with fail
  refine (step_any (q0.drewN _) f hlt).mono ?_
  rintro e w2 ⟨rfl, h2, o2⟩
  have u2 := u1.only o2 hpn
  have g0 := u2.cell 0
  have g1 := u2.cell 1
  simp at g0 g1
  go_wp2_with fail
  refine (put_any 4 0 x.line x.col (Utf8.encode (x.peek 0)).data.toList h2 ho).mono ?_
  rintro e w3 ⟨rfl, O', h3, o3⟩
  go_wp2_with fail
  (first | go_end0 | refine bodyPost_ret (results_none rfl _ _ _) rfl ?_)
  rw [E.out]
  exact ⟨rfl, O', D, h3, ((o0.trans (((Only.refl _ _).drewN _).trans o2)).below hB0 hBs).trans o3⟩
theorem one_none (h : Lex w B T p s x L O D) (f : Fit x) (hlt : x.at_ < x.l.length) (hl : Lx.letter (x.peek 0) = false) (hg : Lx.digit (x.peek 0) = false) (h0 : 0 ≤ x.peek 0) (hsg : Lx.sign (x.peek 0) = false) (hn : x.peek 0 ≠ 32 ∧ x.peek 0 ≠ 9 ∧ x.peek 0 ≠ 13 ∧ x.peek 0 ≠ 59 ∧ x.peek 0 ≠ 10 ∧ x.peek 0 ≠ 39 ∧ x.peek 0 ≠ 34) :
    Calls Tryd.prog 18 #[.pointer (some ⟨p, 0, none⟩)] w
      fun e w' => e = .returned (.tuple #[]) ∧ ∃ O' D', Lex w' B w'.heap.size p s x.one L O' D' ∧ Below B w w' := by
  have c3 := h.cell 3
  have c4 := h.cell 4
  have hp := h.lt
  simp at c3 c4
  have hpn : w.heap.size ∉ [p] := by simp; omega
  have q0 := h.alloc (.cells #[.int .i64 x.line, .int .i64 x.col] 46)
  have u0 := Whole.made w 46 #[.int .i64 x.line, .int .i64 x.col]
  have o0 : Only [p] w (w.alloc (.cells #[.int .i64 x.line, .int .i64 x.col] 46)) := (Only.refl _ _).alloc _
  have hBp := h.hB
  have hTp := h.hT
  have hB0 : B ≤ w.heap.size := by omega
  have hBs : ∀ k ∈ [p], B ≤ k := by simpa using hBp
  have f1 := f.step hlt
  have fo := f.out
  have fa := f.at_
  have fl := f.len
  have ho : x.step.out.length ≤ 65536 := by show x.out.length ≤ 65536; omega
  have n32 : (x.peek 0 == 32) = false := by simp; omega
  have n9 : (x.peek 0 == 9) = false := by simp; omega
  have n13 : (x.peek 0 == 13) = false := by simp; omega
  have n59 : (x.peek 0 == 59) = false := by simp; omega
  have n10 : (x.peek 0 == 10) = false := by simp; omega
  have n39 : (x.peek 0 == 39) = false := by simp; omega
  have n34 : (x.peek 0 == 34) = false := by simp; omega
  have h128 : x.peek 0 < 128 := by have := hl; simp [Lx.letter] at this; omega
  have S : Hid (decide (0 ≤ Lib.indexByte (ByteArray.mk #[44, 58, 45, 43, 40, 41, 61]).data.toList (x.peek 0).toNat.toUInt8) = false) := by show decide _ = false; rw [sign_index _ h0 h128, hsg]
  have E : Hid (x.one = x.fail x.line x.col 3) := by
    show Lx.St.one x = _
    unfold Lx.St.one
    simp only
    rw [if_neg (by omega), if_neg (by omega), if_neg (by omega), if_neg (by simp [hl]), if_neg (by simp [hg]), if_neg (by omega), if_neg (by omega), if_neg (by simp [hsg])]
  clear hn hsg
  go_enter Tryd.func18, Tryd.ntmps18
  go_wp2_with fail
  refine (rune0 q0 f).mono ?_
  rintro e w' ⟨rfl, n, rfl⟩
  have u1 := u0.drewN n
  have k0 := u1.cell 0
  have k1 := u1.cell 1
  simp at k0 k1
  go_wp2_with fail
  refine (letter_any _ _).mono ?_
  rintro e w' ⟨rfl, rfl⟩
  go_wp2_with fail
  refine (digit_any _ _).mono ?_
  rintro e w' ⟨rfl, rfl⟩
  go_wp2_with fail
  refine (Tryd.strings_ContainsRune_ascii _ (x.peek 0) _ (by omega) (by omega)).mono ?_
  rintro e wz ⟨rfl, hwz⟩
  subst hwz
  rw [S.out]
  go_wp2_with fail
  refine (fail_any x.line x.col 3 (q0.drewN _)).mono ?_
  rintro e w2 ⟨rfl, D', h2, o2⟩
  go_wp2_with fail
  (first | go_end0 | refine bodyPost_ret (results_none rfl _ _ _) rfl ?_)
  rw [E.out]
  exact ⟨rfl, O, D', h2, (o0.trans (((Only.refl _ _).drewN _).trans o2)).below hB0 hBs⟩
theorem one_any (h : Lex w B T p s x L O D) (f : Fit x) (hlt : x.at_ < x.l.length) :
    Calls Tryd.prog 18 #[.pointer (some ⟨p, 0, none⟩)] w
      fun e w' => e = .returned (.tuple #[]) ∧ ∃ O' D', Lex w' B w'.heap.size p s x.one L O' D' ∧ Below B w w' := by
  have h0 : 0 ≤ x.peek 0 := by
    have : x.peek 0 ∈ x.l := by
      unfold Lx.St.peek Lx.runeAt
      rw [List.getD_eq_getElem?_getD, Nat.add_zero, List.getElem?_eq_getElem hlt]
      exact List.getElem_mem _
    exact (f.runes _ this).1
  by_cases b1 : x.peek 0 = 32
  · exact one_blank32 h f hlt b1
  by_cases b2 : x.peek 0 = 9
  · exact one_blank9 h f hlt b2
  by_cases b3 : x.peek 0 = 13
  · exact one_blank13 h f hlt b3
  by_cases b4 : x.peek 0 = 59
  · exact one_note h f hlt b4
  by_cases b5 : x.peek 0 = 10
  · by_cases hm : 8000 < x.line
    · exact one_line_many h f hlt b5 hm
    · exact one_line h f hlt b5 hm
  by_cases b6 : Lx.letter (x.peek 0) = true
  · exact one_letter h f hlt b6
  have b6' : Lx.letter (x.peek 0) = false := by simpa using b6
  by_cases b7 : Lx.digit (x.peek 0) = true
  · exact one_digit h f hlt b6' b7
  have b7' : Lx.digit (x.peek 0) = false := by simpa using b7
  by_cases b8 : x.peek 0 = 39
  · exact one_quoted h f hlt b8
  by_cases b9 : x.peek 0 = 34
  · exact one_text h f hlt b9
  by_cases b10 : Lx.sign (x.peek 0) = true
  · exact one_sign h f hlt b6' b7' h0 b10
  · exact one_none h f hlt b6' b7' h0 (by simpa using b10) ⟨b1, b2, b3, b4, b5, b8, b9⟩
end
end Go.Proofs.YtoidmljhlekbkaaDoor
