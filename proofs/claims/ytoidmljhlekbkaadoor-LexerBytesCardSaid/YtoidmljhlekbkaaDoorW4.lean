/-
  The walks of an escaped rune, and of a quote that is none.
-/
import Derived.Test.YtoidmljhlekbkaaDoorW2
namespace Go.Proofs.YtoidmljhlekbkaaDoor
open Go.RowKit
section
variable {w : World} {B T p : Nat} {s : ByteArray} {x : Lx.St} {L O : Value} {D : Option Addr}
theorem rune0 (h : Lex w B T p s x L O D) (f : Fit x) :
    Calls Tryd.prog 30 #[.pointer (some ⟨p, 0, none⟩), .int .i64 0] w fun e w' => e = .returned (.int .i32 (x.peek 0)) ∧ ∃ n, w' = w.drewN n := rune_any 0 (by omega) h f
theorem rune1 (h : Lex w B T p s x L O D) (f : Fit x) :
    Calls Tryd.prog 30 #[.pointer (some ⟨p, 0, none⟩), .int .i64 1] w fun e w' => e = .returned (.int .i32 (x.peek 1)) ∧ ∃ n, w' = w.drewN n := rune_any 1 (by omega) h f
theorem rune2 (h : Lex w B T p s x L O D) (f : Fit x) :
    Calls Tryd.prog 30 #[.pointer (some ⟨p, 0, none⟩), .int .i64 2] w fun e w' => e = .returned (.int .i32 (x.peek 2)) ∧ ∃ n, w' = w.drewN n := rune_any 2 (by omega) h f

theorem escaped_any (q : Int) (hq : 0 ≤ q) (h : Lex w B T p s x L O D) (f : Fit x) :
    Calls Tryd.prog 45 #[.pointer (some ⟨p, 0, none⟩), .int .i32 q] w
      fun e w' => e = .returned (.int .i32 (x.escaped q).1) ∧ Lex w' B T p s (x.escaped q).2 L O D ∧ Only [p] w w' := by
  have b0 := f.peek_bd 0
  by_cases hc : x.peek 0 = 10 ∨ x.peek 0 < 0
  · have E : Hid (x.escaped q = (-1, x)) := by show Lx.St.escaped x q = _; unfold Lx.St.escaped; simp only; rw [if_pos hc]
    go_enter Tryd.func45, Tryd.ntmps45
    go_wp2_with fail
    refine (rune0 h f).mono ?_
    rintro e w' ⟨rfl, n, rfl⟩
    go_wp2_with fail
    all_goals
      first
      | (exfalso; omega)
      | (go_ret
         rw [E.out]
         exact ⟨rfl, h.drewN _, (Only.refl _ _).drewN _⟩)
  · have hlt : x.at_ < x.l.length := Fit.peek_lt (k := 0) (by omega)
    have n1 : (x.peek 0 == 10) = false := by simp; omega
    have n2 : 0 ≤ x.peek 0 := by omega
    have f1 := f.step hlt
    have bd := f1.peek_bd 0
    by_cases h92 : x.peek 0 = 92
    · have n3 : (x.peek 0 != 92) = false := by simp [h92]
      by_cases d1 : x.step.peek 0 = 110
      · have E : Hid (x.escaped q = (10, x.step.step)) := by show Lx.St.escaped x q = _; unfold Lx.St.escaped; simp only; rw [if_neg hc, if_neg (by omega), if_pos d1]
        have m1 : (x.step.peek 0 == 110) = true := by simp [d1]
        have hlt2 : x.step.at_ < x.step.l.length := Fit.peek_lt (k := 0) (by omega)
        clear hc h92 d1
        go_enter Tryd.func45, Tryd.ntmps45
        go_wp2_with fail
        refine (rune0 h f).mono ?_
        rintro e w' ⟨rfl, n, rfl⟩
        go_wp2_with fail
        refine (step_any (h.drewN n) f hlt).mono ?_
        rintro e w1 ⟨rfl, h1, o1⟩
        go_wp2_with fail
        refine (rune0 h1 f1).mono ?_
        rintro e w' ⟨rfl, n2, rfl⟩
        go_wp2_with fail
        refine (step_any (h1.drewN n2) f1 hlt2).mono ?_
        rintro e w2 ⟨rfl, h2, o2⟩
        go_wp2_with fail
        go_ret
        rw [E.out]
        exact ⟨rfl, h2, (((Only.refl _ _).drewN n).trans o1).trans (((Only.refl _ _).drewN n2).trans o2)⟩
      · have m1 : (x.step.peek 0 == 110) = false := by simp [d1]
        by_cases d2 : x.step.peek 0 = 92 ∨ x.step.peek 0 = q
        · have E : Hid (x.escaped q = (x.step.peek 0, x.step.step)) := by show Lx.St.escaped x q = _; unfold Lx.St.escaped; simp only; rw [if_neg hc, if_neg (by omega), if_neg d1, if_pos d2]
          have hlt2 : x.step.at_ < x.step.l.length := Fit.peek_lt (k := 0) (by omega)
          rcases d2 with d2 | d2
          · have m2 : (x.step.peek 0 == 92) = true := by simp [d2]
            clear hc h92 d1 d2
            go_enter Tryd.func45, Tryd.ntmps45
            go_wp2_with fail
            refine (rune0 h f).mono ?_
            rintro e w' ⟨rfl, n, rfl⟩
            go_wp2_with fail
            refine (step_any (h.drewN n) f hlt).mono ?_
            rintro e w1 ⟨rfl, h1, o1⟩
            go_wp2_with fail
            refine (rune0 h1 f1).mono ?_
            rintro e w' ⟨rfl, n2, rfl⟩
            go_wp2_with fail
            refine (step_any (h1.drewN n2) f1 hlt2).mono ?_
            rintro e w2 ⟨rfl, h2, o2⟩
            go_wp2_with fail
            go_ret
            rw [E.out]
            exact ⟨rfl, h2, (((Only.refl _ _).drewN n).trans o1).trans (((Only.refl _ _).drewN n2).trans o2)⟩
          ·
            by_cases d3 : x.step.peek 0 = 92
            · have m2 : (x.step.peek 0 == 92) = true := by simp [d3]
              clear hc h92 d1 d2 d3
              go_enter Tryd.func45, Tryd.ntmps45
              go_wp2_with fail
              refine (rune0 h f).mono ?_
              rintro e w' ⟨rfl, n, rfl⟩
              go_wp2_with fail
              refine (step_any (h.drewN n) f hlt).mono ?_
              rintro e w1 ⟨rfl, h1, o1⟩
              go_wp2_with fail
              refine (rune0 h1 f1).mono ?_
              rintro e w' ⟨rfl, n2, rfl⟩
              go_wp2_with fail
              refine (step_any (h1.drewN n2) f1 hlt2).mono ?_
              rintro e w2 ⟨rfl, h2, o2⟩
              go_wp2_with fail
              go_ret
              rw [E.out]
              exact ⟨rfl, h2, (((Only.refl _ _).drewN n).trans o1).trans (((Only.refl _ _).drewN n2).trans o2)⟩
            · have m2 : (x.step.peek 0 == 92) = false := by simp [d3]
              have m3 : (x.step.peek 0 == q) = true := by simp [d2]
              clear hc h92 d1 d2 d3
              go_enter Tryd.func45, Tryd.ntmps45
              go_wp2_with fail
              refine (rune0 h f).mono ?_
              rintro e w' ⟨rfl, n, rfl⟩
              go_wp2_with fail
              refine (step_any (h.drewN n) f hlt).mono ?_
              rintro e w1 ⟨rfl, h1, o1⟩
              go_wp2_with fail
              refine (rune0 h1 f1).mono ?_
              rintro e w' ⟨rfl, n2, rfl⟩
              go_wp2_with fail
              refine (step_any (h1.drewN n2) f1 hlt2).mono ?_
              rintro e w2 ⟨rfl, h2, o2⟩
              go_wp2_with fail
              go_ret
              rw [E.out]
              exact ⟨rfl, h2, (((Only.refl _ _).drewN n).trans o1).trans (((Only.refl _ _).drewN n2).trans o2)⟩
        · have E : Hid (x.escaped q = (-1, x.step)) := by show Lx.St.escaped x q = _; unfold Lx.St.escaped; simp only; rw [if_neg hc, if_neg (by omega), if_neg d1, if_neg d2]
          have m2 : (x.step.peek 0 == 92) = false := by simp; omega
          have m3 : (x.step.peek 0 == q) = false := by simp; omega
          clear hc h92 d1 d2
          go_enter Tryd.func45, Tryd.ntmps45
          go_wp2_with fail
          refine (rune0 h f).mono ?_
          rintro e w' ⟨rfl, n, rfl⟩
          go_wp2_with fail
          refine (step_any (h.drewN n) f hlt).mono ?_
          rintro e w1 ⟨rfl, h1, o1⟩
          go_wp2_with fail
          refine (rune0 h1 f1).mono ?_
          rintro e w' ⟨rfl, n2, rfl⟩
          go_wp2_with fail
          go_ret
          rw [E.out]
          exact ⟨rfl, h1.drewN _, (((Only.refl _ _).drewN n).trans o1).trans ((Only.refl _ _).drewN n2)⟩
    · have E : Hid (x.escaped q = (x.peek 0, x.step)) := by show Lx.St.escaped x q = _; unfold Lx.St.escaped; simp only; rw [if_neg hc, if_pos h92]
      have n3 : (x.peek 0 != 92) = true := by simp [h92]
      clear hc h92
      go_enter Tryd.func45, Tryd.ntmps45
      go_wp2_with fail
      refine (rune0 h f).mono ?_
      rintro e w' ⟨rfl, n, rfl⟩
      go_wp2_with fail
      refine (step_any (h.drewN n) f hlt).mono ?_
      rintro e w1 ⟨rfl, h1, o1⟩
      go_wp2_with fail
      go_ret
      rw [E.out]
      exact ⟨rfl, h1, ((Only.refl _ _).drewN n).trans o1⟩

theorem quote_any (a b : Int) (h : Lex w B T p s x L O D) :
    Calls Tryd.prog 44 #[.pointer (some ⟨p, 0, none⟩), .agg #[.int .i64 a, .int .i64 b]] w
      fun e w' => e = .returned (.tuple #[]) ∧ ∃ D', Lex w' B w'.heap.size p s (x.quote a b) L O D' ∧ Only [p] w w' := by
  obtain ⟨A, c, rfl, _, _⟩ := h.form
  have c1 := h.cell 1
  have c2 := h.cell 2
  have c3 := h.cell 3
  have c4 := h.cell 4
  have c7 := h.cell 7
  have hp := h.lt
  simp at c1 c2 c3 c4 c7
  by_cases hc : x.cut = true
  · rw [hc] at c7
    by_cases he : x.at_ = x.l.length
    · have E : Hid (x.quote a b = x.fail x.line x.col 4) := by show Lx.St.quote x a b = _; unfold Lx.St.quote; rw [if_pos ⟨hc, he⟩]
      have e1 : (x.at_ == x.l.length) = true := by simp [he]
      have e2 : ((x.at_ : Int) == (x.l.length : Int)) = true := by simp [he]
      clear hc he
      go_enter Tryd.func44, Tryd.ntmps44
      go_wp2
      go_quiet (fail)
      go_wp2_with fail
      refine (fail_any x.line x.col 4 ((h.alloc _).drewN _)).mono ?_
      rintro e w1 ⟨rfl, D', h1, o1⟩
      go_wp2_with fail
      refine bodyPost_ret (results_none rfl _ _ _) rfl ?_
      rw [E.out]
      exact ⟨rfl, D', h1, (((Only.refl _ _).alloc _).drewN _).trans o1⟩
    · have E : Hid (x.quote a b = x.fail a b 3) := by show Lx.St.quote x a b = _; unfold Lx.St.quote; rw [if_neg (fun h => he h.2)]
      have e1 : (x.at_ == x.l.length) = false := by simp [he]
      have e2 : ((x.at_ : Int) == (x.l.length : Int)) = false := by simp; omega
      clear hc he
      go_enter Tryd.func44, Tryd.ntmps44
      go_wp2
      go_quiet (fail)
      go_wp2_with fail
      refine (fail_any a b 3 ((h.alloc _).drewN _)).mono ?_
      rintro e w1 ⟨rfl, D', h1, o1⟩
      go_wp2_with fail
      go_end0
      rw [E.out]
      exact ⟨rfl, D', h1, (((Only.refl _ _).alloc _).drewN _).trans o1⟩
  · have E : Hid (x.quote a b = x.fail a b 3) := by show Lx.St.quote x a b = _; unfold Lx.St.quote; rw [if_neg (fun h => hc h.1)]
    have hc' : x.cut = false := by simpa using hc
    rw [hc'] at c7
    clear hc hc'
    go_enter Tryd.func44, Tryd.ntmps44
    go_wp2
    go_quiet (fail)
    go_wp2_with fail
    refine (fail_any a b 3 ((h.alloc _).drewN _)).mono ?_
    rintro e w1 ⟨rfl, D', h1, o1⟩
    go_wp2_with fail
    go_end0
    rw [E.out]
    exact ⟨rfl, D', h1, (((Only.refl _ _).alloc _).drewN _).trans o1⟩
end
end Go.Proofs.YtoidmljhlekbkaaDoor
