/-
  The walks of the lexer's smallest functions: a rune is looked at, is stepped over, is a letter, is a digit.
-/
import Derived.Test.YtoidmljhlekbkaaDoorLex
import Derived.WalkLawsBesides
import Derived.WalkSpells
import Derived.Deep.QuietTactic
import Derived.BigQuiet
import Derived.IntWalk
namespace Go.Proofs.YtoidmljhlekbkaaDoor
open Go.RowKit

theorem ret_bool {a b : Bool} (h : a = b) : Ending.returned (.bool a) = .returned (.bool b) := by rw [h]
theorem ret_int {k : IntKind} {a b : Int} (h : a = b) : Ending.returned (.int k a) = .returned (.int k b) := by rw [h]
theorem digit_any (c : Int) (w : World) : Calls Tryd.prog 34 #[.int .i32 c] w fun e w' => e = .returned (.bool (Lx.digit c)) ∧ w = w' := by
  go_enter Tryd.func34, Tryd.ntmps34
  go_wp2
  all_goals
    go_ret
    exact ⟨ret_bool (by rw [Bool.eq_iff_iff]; simp [Lx.digit]; try omega), rfl⟩
theorem letter_any (c : Int) (w : World) : Calls Tryd.prog 32 #[.int .i32 c] w fun e w' => e = .returned (.bool (Lx.letter c)) ∧ w = w' := by
  go_enter Tryd.func32, Tryd.ntmps32
  go_wp2
  all_goals
    go_ret
    exact ⟨ret_bool (by rw [Bool.eq_iff_iff]; simp [Lx.letter]; try omega), rfl⟩
section
variable {w : World} {B T p : Nat} {s : ByteArray} {x : Lx.St} {L O : Value} {D : Option Addr}
theorem rune_any (k : Nat) (hk : k ≤ 2) (h : Lex w B T p s x L O D) (f : Fit x) :
    Calls Tryd.prog 30 #[.pointer (some ⟨p, 0, none⟩), .int .i64 k] w fun e w' => e = .returned (.int .i32 (x.peek k)) ∧ ∃ n, w' = w.drewN n := by
  obtain ⟨A, c, rfl, _, hg⟩ := h.form
  have c0 := h.cell 1
  have c1 := h.cell 2
  simp at c0 c1
  have := f.at_
  have := f.len
  by_cases hlt : x.at_ + k < x.l.length
  · obtain ⟨g, rfl, hgp, hc⟩ := hg _ hlt
    have hi : (x.at_ : Int) + k < x.l.length := by omega
    go_enter Tryd.func30, Tryd.ntmps30
    go_wp2
    go_quiet (fail)
    go_wp2
    go_quiet (fail)
    go_wp2
    go_ret
    exact ⟨rfl, _, World.drewN_drewN _ _ _⟩
  · have hi : (x.l.length : Int) ≤ (x.at_ : Int) + k := by omega
    go_enter Tryd.func30, Tryd.ntmps30
    go_wp2
    go_quiet (fail)
    go_wp2
    go_ret
    exact ⟨ret_int (by unfold Lx.St.peek Lx.runeAt; rw [List.getD_eq_getElem?_getD, List.getElem?_eq_none (by omega)]; rfl), _, rfl⟩
theorem step_any (h : Lex w B T p s x L O D) (f : Fit x) (hlt : x.at_ < x.l.length) :
    Calls Tryd.prog 31 #[.pointer (some ⟨p, 0, none⟩)] w fun e w' => e = .returned (.tuple #[]) ∧ Lex w' B T p s x.step L O D ∧ Only [p] w w' := by
  obtain ⟨A, c, rfl, _, hg⟩ := h.form
  obtain ⟨g, rfl, hgp, hc⟩ := hg _ hlt
  have c1 := h.cell 1
  have c2 := h.cell 2
  have c3 := h.cell 3
  have c4 := h.cell 4
  have fz := h.frozen
  simp at c1 c2 c3 c4
  obtain ⟨a1, a2, a3, a4, a5, a6, _, _⟩ := f
  have E : Hid (x.step = { x with at_ := x.at_ + 1, line := if Lx.runeAt x.l x.at_ = 10 then x.line + 1 else x.line, col := if Lx.runeAt x.l x.at_ = 10 then 1 else x.col + 1 }) := rfl
  by_cases hn : Lx.runeAt x.l x.at_ = 10
  · rw [if_pos hn, if_pos hn] at E
    rw [hn] at hc
    clear hn
    go_enter Tryd.func31, Tryd.ntmps31
    go_wp2
    go_quiet (fail)
    go_wp2
    go_end0
    rw [E.out]
    exact ⟨rfl, h.fin rfl rfl rfl (by repeat (first | exact Only.refl _ _ | refine Only.drewN ?_ _ | refine Only.setCell ?_ (Or.inl (by simp)) _)) ((((h.blk.put 4 _).put 3 _).put 4 _).put 2 _)⟩
  · rw [if_neg hn, if_neg hn] at E
    have hn' : (Lx.runeAt x.l x.at_ == 10) = false := by simpa using hn
    clear hn
    go_enter Tryd.func31, Tryd.ntmps31
    go_wp2
    go_quiet (fail)
    go_wp2
    go_end0
    rw [E.out]
    exact ⟨rfl, h.fin rfl rfl rfl (by repeat (first | exact Only.refl _ _ | refine Only.drewN ?_ _ | refine Only.setCell ?_ (Or.inl (by simp)) _)) ((h.blk.put 4 _).put 2 _)⟩
end
end Go.Proofs.YtoidmljhlekbkaaDoor
