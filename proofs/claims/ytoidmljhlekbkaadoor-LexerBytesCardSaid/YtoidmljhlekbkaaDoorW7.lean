/-
  The walks of the lexer's quoted rune and string.
-/
import Derived.Test.YtoidmljhlekbkaaDoorW3
import Derived.Test.YtoidmljhlekbkaaDoorW4
import Derived.Test.YtoidmljhlekbkaaDoorPlain
import Derived.Deep.LoopGhost
import Derived.Lib.Hide
namespace Go.Proofs.YtoidmljhlekbkaaDoor
open Go.RowKit
section
variable {w : World} {B T p : Nat} {s : ByteArray} {x : Lx.St} {L O : Value} {D : Option Addr}
theorem quoted_any (h : Lex w B T p s x L O D) (f : Fit x) (hlt : x.at_ < x.l.length) :
    Calls Tryd.prog 36 #[.pointer (some ⟨p, 0, none⟩)] w
      fun e w' => e = .returned (.tuple #[]) ∧ ∃ O' D', Lex w' B w'.heap.size p s x.quoted L O' D' ∧ Below B w w' := by
  have c3 := h.cell 3
  have c4 := h.cell 4
  have hp := h.lt
  simp at c3 c4
  have hpn : w.heap.size ∉ [p] := by simp; omega
  have q0 := h.alloc (.cells #[.int .i64 x.line, .int .i64 x.col] 46)
  have u0 := Whole.made w 46 #[.int .i64 x.line, .int .i64 x.col]
  have o0 : Only [p] w (w.alloc (.cells #[.int .i64 x.line, .int .i64 x.col] 46)) := (Only.refl _ _).alloc _
  have hBp := h.hB
  have hB0 : B ≤ w.heap.size := by omega
  have hBs : ∀ k ∈ [p], B ≤ k := by simpa using hBp
  have f1 := f.step hlt
  have fb := f1.peek_bd 0
  have eb := escaped_bd x.step 39 f1
  have fe := escaped_fit x.step 39 (by decide) f1
  have ge := escaped_goes x.step 39
  have re := fe.peek_bd 0
  by_cases h39 : x.step.peek 0 = 39
  · have E : Hid (x.quoted = x.step.quote x.line x.col) := by show Lx.St.quoted x = _; unfold Lx.St.quoted; simp only; rw [if_pos h39]
    have e1 : (x.step.peek 0 == 39) = true := by simp [h39]
    clear h39
    go_enter Tryd.func36, Tryd.ntmps36
    go_wp2_with fail
    refine (step_any q0 f hlt).mono ?_
    rintro e w1 ⟨rfl, h1, o1⟩
    have u1 := u0.only o1 hpn
    have k0 := u1.cell 0
    have k1 := u1.cell 1
    simp at k0 k1
    go_wp2_with fail
    refine (rune0 h1 f1).mono ?_
    rintro e w' ⟨rfl, n, rfl⟩
    go_wp2_with fail
    refine (quote_any x.line x.col (h1.drewN _)).mono ?_
    rintro e w2 ⟨rfl, D', h2, o2⟩
    go_wp2_with fail
    (first | go_end0 | refine bodyPost_ret (results_none rfl _ _ _) rfl ?_)
    rw [E.out]
    exact ⟨rfl, O, D', h2, ((o0.trans o1).trans (((Only.refl _ _).drewN _).trans o2)).below hB0 hBs⟩
  · have e1 : (x.step.peek 0 == 39) = false := by simp [h39]
    by_cases hc : (x.step.escaped 39).1 < 0
    · have E : Hid (x.quoted = (x.step.escaped 39).2.quote x.line x.col) := by show Lx.St.quoted x = _; unfold Lx.St.quoted; simp only; rw [if_neg h39, if_pos (Or.inl hc)]
      clear h39
      go_enter Tryd.func36, Tryd.ntmps36
      go_wp2_with fail
      refine (step_any q0 f hlt).mono ?_
      rintro e w1 ⟨rfl, h1, o1⟩
      go_wp2_with fail
      refine (rune0 h1 f1).mono ?_
      rintro e w' ⟨rfl, n, rfl⟩
      go_wp2_with fail
      refine (escaped_any 39 (by decide) (h1.drewN _) f1).mono ?_
      rintro e w2 ⟨rfl, h2, o2⟩
      have u2 := ((u0.only o1 hpn).drewN n).only o2 hpn
      have k0 := u2.cell 0
      have k1 := u2.cell 1
      simp at k0 k1
      go_wp2_with fail
      refine (quote_any x.line x.col h2).mono ?_
      rintro e w3 ⟨rfl, D', h3, o3⟩
      go_wp2_with fail
      (first | go_end0 | refine bodyPost_ret (results_none rfl _ _ _) rfl ?_)
      rw [E.out]
      exact ⟨rfl, O, D', h3, (((o0.trans o1).trans (((Only.refl _ _).drewN _).trans o2)).trans o3).below hB0 hBs⟩
    · by_cases hq : (x.step.escaped 39).2.peek 0 = 39
      · have E : Hid (x.quoted = (x.step.escaped 39).2.step.put 2 [] (x.step.escaped 39).1 x.line x.col) := by
          show Lx.St.quoted x = _; unfold Lx.St.quoted; simp only; rw [if_neg h39, if_neg (by intro h; rcases h with h | h; exact hc h; exact h hq)]
        have e2 : ((x.step.escaped 39).2.peek 0 != 39) = false := by simp [hq]
        have l2 : (x.step.escaped 39).2.at_ < (x.step.escaped 39).2.l.length := Fit.peek_lt (k := 0) (by omega)
        have ho : (x.step.escaped 39).2.step.out.length ≤ 65536 := by
          have := fe.out; have := fe.at_; have := fe.len
          show (x.step.escaped 39).2.out.length ≤ 65536
          omega
        clear h39 hq
        go_enter Tryd.func36, Tryd.ntmps36
        go_wp2_with fail
        refine (step_any q0 f hlt).mono ?_
        rintro e w1 ⟨rfl, h1, o1⟩
        go_wp2_with fail
        refine (rune0 h1 f1).mono ?_
        rintro e w' ⟨rfl, n, rfl⟩
        go_wp2_with fail
        refine (escaped_any 39 (by decide) (h1.drewN _) f1).mono ?_
        rintro e w2 ⟨rfl, h2, o2⟩
        go_wp2_with fail
        refine (rune0 h2 fe).mono ?_
        rintro e w' ⟨rfl, n2, rfl⟩
        go_wp2_with fail
        refine (step_any (h2.drewN _) fe l2).mono ?_
        rintro e w3 ⟨rfl, h3, o3⟩
        have u3 := ((((u0.only o1 hpn).drewN n).only o2 hpn).drewN n2).only o3 hpn
        have k0 := u3.cell 0
        have k1 := u3.cell 1
        simp at k0 k1
        go_wp2_with fail
        refine (put_any 2 (x.step.escaped 39).1 x.line x.col [] h3 ho).mono ?_
        rintro e w4 ⟨rfl, O', h4, o4⟩
        go_wp2_with fail
        (first | go_end0 | refine bodyPost_ret (results_none rfl _ _ _) rfl ?_)
        rw [E.out]
        exact ⟨rfl, O', D, h4, ((((o0.trans o1).trans (((Only.refl _ _).drewN _).trans o2)).trans (((Only.refl _ _).drewN _).trans o3)).below hB0 hBs).trans o4⟩
      · have E : Hid (x.quoted = (x.step.escaped 39).2.quote x.line x.col) := by show Lx.St.quoted x = _; unfold Lx.St.quoted; simp only; rw [if_neg h39, if_pos (Or.inr hq)]
        have e2 : ((x.step.escaped 39).2.peek 0 != 39) = true := by simp [hq]
        clear h39 hq
        go_enter Tryd.func36, Tryd.ntmps36
        go_wp2_with fail
        refine (step_any q0 f hlt).mono ?_
        rintro e w1 ⟨rfl, h1, o1⟩
        go_wp2_with fail
        refine (rune0 h1 f1).mono ?_
        rintro e w' ⟨rfl, n, rfl⟩
        go_wp2_with fail
        refine (escaped_any 39 (by decide) (h1.drewN _) f1).mono ?_
        rintro e w2 ⟨rfl, h2, o2⟩
        have u2 := ((u0.only o1 hpn).drewN n).only o2 hpn
        have k0 := u2.cell 0
        have k1 := u2.cell 1
        simp at k0 k1
        go_wp2_with fail
        refine (rune0 h2 fe).mono ?_
        rintro e w' ⟨rfl, n2, rfl⟩
        go_wp2_with fail
        refine (quote_any x.line x.col (h2.drewN _)).mono ?_
        rintro e w3 ⟨rfl, D', h3, o3⟩
        go_wp2_with fail
        (first | go_end0 | refine bodyPost_ret (results_none rfl _ _ _) rfl ?_)
        rw [E.out]
        exact ⟨rfl, O, D', h3, (((o0.trans o1).trans (((Only.refl _ _).drewN _).trans o2)).trans (((Only.refl _ _).drewN _).trans o3)).below hB0 hBs⟩
end
end Go.Proofs.YtoidmljhlekbkaaDoor
