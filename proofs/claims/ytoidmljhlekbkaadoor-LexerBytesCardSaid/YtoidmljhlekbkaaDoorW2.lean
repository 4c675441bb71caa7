/-
  The walks of the lexer's hexadecimal digits, and of its fault.
-/
import Derived.Test.YtoidmljhlekbkaaDoorW1
import Derived.LaidEqlPtr
namespace Go.Proofs.YtoidmljhlekbkaaDoor
open Go.RowKit
theorem hex_any (c : Int) (w : World) (h0 : -1 ≤ c) (h1 : c ≤ 1114111) : Calls Tryd.prog 43 #[.int .i32 c] w fun e w' => e = .returned (.int .i64 (Lx.hex c)) ∧ w = w' := by
  go_enter Tryd.func43, Tryd.ntmps43
  go_wp2_with (go_at_call 34; refine (digit_any _ _).mono ?_; rintro e w' ⟨rfl, rfl⟩)
  all_goals
    go_ret
    refine ⟨ret_int ?_, rfl⟩
    simp [Lx.digit] at *
    unfold Lx.hex
    repeat' split
    all_goals omega
section
variable {w : World} {B T p : Nat} {s : ByteArray} {x : Lx.St} {L O : Value} {D : Option Addr}
theorem fail_any (a b e : Int) (h : Lex w B T p s x L O D) :
    Calls Tryd.prog 19 #[.pointer (some ⟨p, 0, none⟩), .agg #[.int .i64 a, .int .i64 b], .int .i64 e] w fun e' w' => e' = .returned (.tuple #[]) ∧ ∃ D', Lex w' B w'.heap.size p s (x.fail a b e) L O D' ∧ Only [p] w w' := by
  have c6 := h.cell 6
  have fz := h.frozen 6
  have hp := h.lt
  simp at c6
  rcases hb : x.bad with _ | ⟨a0, b0, e0⟩
  · have hbad := h.bad
    rw [hb] at hbad
    simp [BadIs] at hbad
    subst hbad
    have E : Hid (x.fail a b e = { x with bad := some (a, b, e) }) := by show Lx.St.fail x a b e = _; unfold Lx.St.fail; rw [hb]
    clear hb
    go_enter Tryd.func19, Tryd.ntmps19
    go_wp2
    go_end0
    refine ⟨rfl, some ⟨w.heap.size + 1, 0, none⟩, ?_⟩
    rw [E.out]
    refine h.bads rfl rfl (by repeat (first | exact Only.refl _ _ | refine Only.drewN ?_ _ | refine Only.alloc ?_ _ | refine Only.setCell ?_ (Or.inl (by simp)) _)) (((h.blk.put 6 _).alloc _).alloc _) ⟨w.heap.size + 1, rfl, ?_, by simp, ?_⟩
    · have := h.hB; omega
    · have := Whole.made ((w.setCell ⟨p, 6, none⟩ (.pointer (some ⟨w.heap.size + 1, 0, none⟩))).alloc (.cells #[.int .i64 a, .int .i64 b] 46)) 53 #[.int .i64 a, .int .i64 b, .int .i64 e]
      simpa using this
  · have hbad := h.bad
    rw [hb] at hbad
    obtain ⟨d, rfl, _, _, _⟩ := hbad
    have E : Hid (x.fail a b e = x) := by show Lx.St.fail x a b e = _; unfold Lx.St.fail; rw [hb]
    clear hb
    go_enter Tryd.func19, Tryd.ntmps19
    go_wp2
    go_end0
    rw [E.out]
    exact ⟨rfl, _, (h.alloc _).more (Nat.le_trans h.hT (by simp)) (Nat.le_refl _), (Only.refl _ _).alloc _⟩
end
end Go.Proofs.YtoidmljhlekbkaaDoor
