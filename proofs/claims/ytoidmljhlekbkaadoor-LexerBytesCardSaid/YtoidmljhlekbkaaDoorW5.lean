/-
  The walk of the lexer's name.
-/
import Derived.Test.YtoidmljhlekbkaaDoorW3
import Derived.Test.YtoidmljhlekbkaaDoorW4
import Derived.Test.YtoidmljhlekbkaaDoorPlain
import Derived.StillTailTactics
import Derived.Deep.LoopGhost
import Derived.Laws.Cover4
import Derived.Lib.Hide
namespace Go.Proofs.YtoidmljhlekbkaaDoor
open Go.RowKit
section
variable {w : World} {B T p : Nat} {s : ByteArray} {x : Lx.St} {L O : Value} {D : Option Addr}
/-- What the loop of a name's runes leaves. -/
def NameRel (w0 : World) (b0 : Nat) (B T p : Nat) (s : ByteArray) (x : Lx.St) (L O : Value) (D : Option Addr) (k : Nat) (wr : World) : Prop :=
  ∃ y, Lex wr B T p s y L O D ∧ Fit y ∧ Goes x y ∧ y.skip Lx.nameCh = x.skip Lx.nameCh ∧ Only [p] w0 wr ∧ Whole wr b0 46 #[.int .i64 x.line, .int .i64 x.col] ∧ y.l.length - y.at_ ≤ k
theorem ext_bytes {a b : ByteArray} (h : a.data.toList = b.data.toList) : a = b := by
  obtain ⟨⟨a⟩⟩ := a
  obtain ⟨⟨b⟩⟩ := b
  simp at h
  rw [h]
theorem foldl_bytes (l : List Int) : ∀ s : ByteArray, (l.foldl (fun r n => r ++ Utf8.encode n) s).data.toList = s.data.toList ++ Lx.runesBytes l := by
  induction l with
  | nil => intro s; simp [Lx.runesBytes]
  | cons c l ih => intro s; simp [ih, Lx.runesBytes]
theorem runesBytes_eq (l : List Int) : Go.runesBytes l = ⟨(Lx.runesBytes l).toArray⟩ := by
  apply ext_bytes
  unfold Go.runesBytes
  rw [foldl_bytes]
  simp
/-- A part of the runes as a string. -/
theorem convert_runes {g c n at_ : Nat} {l : List Int} (W : World) (hn : at_ + n ≤ l.length) (hc : ∀ i, i < l.length → W.cell? ⟨g, i, none⟩ = some (.int .i32 (Lx.runeAt l i))) :
    (convert 47 9 (.slice (some ⟨g, at_, none⟩) n c)).run Tryd.prog W = .ok (.string ⟨(Lx.runesBytes ((l.drop at_).take n)).toArray⟩) W := by
  rw [run_convert_runes W 47 9 21 ⟨g, at_, none⟩ n c (l.drop at_) (by simp; omega) Tryd.underlying47 Tryd.underlying21 Tryd.underlying9, runesBytes_eq]
  intro j hj
  rw [List.length_drop] at hj
  have e1 : (⟨g, at_, none⟩ : Addr).add j = ⟨g, at_ + j, none⟩ := by
    unfold Addr.add
    split <;> simp_all
  rw [e1, hc _ (by omega)]
  simp [Lx.runeAt, List.getD, show at_ + j < l.length by omega]
theorem name_any (h : Lex w B T p s x L O D) (f : Fit x) (hl0 : x.at_ < x.l.length) :
    Calls Tryd.prog 33 #[.pointer (some ⟨p, 0, none⟩)] w
      fun e w' => e = .returned (.tuple #[]) ∧ ∃ O' D', Lex w' B w'.heap.size p s x.name L O' D' ∧ Below B w w' := by
  have c2 := h.cell 2
  have c3 := h.cell 3
  have c4 := h.cell 4
  have hp := h.lt
  simp at c2 c3 c4
  go_enter Tryd.func33, Tryd.ntmps33
  go_wp2
  go_region
  go_wp2
  go_loopg [] (x.l.length - x.at_) (fun k wr => NameRel w w.heap.size B T p s x L O D k wr)
  case atStart =>
    exact ⟨x, (h.alloc _).drew, f, Goes.refl x, rfl, ((Only.refl _ _).alloc _).drew, (Whole.made _ _ _).drew, Nat.le_refl _⟩
  case round =>
    obtain ⟨y, hy, fy, gy, ey, oy, by_, ky⟩ := hrel
    have hpn : w.heap.size ∉ [p] := by simp; omega
    by_cases hn : Lx.nameCh (y.peek 0) = true
    · have hlt : y.at_ < y.l.length := Fit.peek_lt (k := 0) (by
        simp [Lx.nameCh, Lx.letter, Lx.digit] at hn; omega)
      have A : Hid (y.skip Lx.nameCh = y.step.skip Lx.nameCh) := skip_step hn hlt
      by_cases hl : Lx.letter (y.peek 0) = true
      · clear hn
        go_wp2_with fail
        refine (rune0 hy fy).mono ?_
        rintro e w' ⟨rfl, n, rfl⟩
        go_wp2_with fail
        refine (letter_any _ _).mono ?_
        rintro e w' ⟨rfl, rfl⟩
        go_wp2_with fail
        refine (step_any (hy.drewN n) fy hlt).mono ?_
        rintro e w1 ⟨rfl, h1, o1⟩
        go_wp2_with fail
        go_roundg (y.step.l.length - y.step.at_)
        case measure => rw [step_l, step_at]; omega
        case rel => exact ⟨y.step, h1, fy.step hlt, gy.trans (Goes.step y), A.out ▸ ey, oy.trans (((Only.refl _ _).drewN n).trans o1), (by_.drewN n).only o1 hpn, Nat.le_refl _⟩
      · have hl' : Lx.letter (y.peek 0) = false := by simpa using hl
        have hd : Lx.digit (y.peek 0) = true := by simpa [Lx.nameCh, hl'] using hn
        clear hn hl
        go_wp2_with fail
        refine (rune0 hy fy).mono ?_
        rintro e w' ⟨rfl, n, rfl⟩
        go_wp2_with fail
        refine (letter_any _ _).mono ?_
        rintro e w' ⟨rfl, rfl⟩
        go_wp2_with fail
        refine (rune0 (hy.drewN n) fy).mono ?_
        rintro e w' ⟨rfl, n2, rfl⟩
        go_wp2_with fail
        refine (digit_any _ _).mono ?_
        rintro e w' ⟨rfl, rfl⟩
        go_wp2_with fail
        refine (step_any (hy.drewN _) fy hlt).mono ?_
        rintro e w1 ⟨rfl, h1, o1⟩
        go_wp2_with fail
        go_roundg (y.step.l.length - y.step.at_)
        case measure => rw [step_l, step_at]; omega
        case rel => exact ⟨y.step, h1, fy.step hlt, gy.trans (Goes.step y), A.out ▸ ey, oy.trans (((Only.refl _ _).drewN _).trans o1), (by_.drewN _).only o1 hpn, Nat.le_refl _⟩
    · have hl' : Lx.letter (y.peek 0) = false := by simp [Lx.nameCh] at hn; simp [hn]
      have hd' : Lx.digit (y.peek 0) = false := by simp [Lx.nameCh] at hn; simp [hn]
      have A : Hid (y = x.skip Lx.nameCh) := by rw [skip_stop (by simpa using hn)] at ey; exact ey
      clear hn ey
      have k2 := hy.cell 2
      have g0 := by_.cell 0
      have g1 := by_.cell 1
      simp at k2 g0 g1
      have q1 := gy.at_
      have q2 := fy.at_
      have q3 := fy.len
      by_cases h40 : 40 < y.at_ - x.at_
      · have E : Hid (x.name = y.fail x.line x.col 2) := by
          show Lx.St.name x = _
          unfold Lx.St.name
          simp only [← A.out]
          rw [if_pos h40]
        clear A
        go_wp2_with fail
        refine (rune0 hy fy).mono ?_
        rintro e w' ⟨rfl, n, rfl⟩
        go_wp2_with fail
        refine (letter_any _ _).mono ?_
        rintro e w' ⟨rfl, rfl⟩
        go_wp2_with fail
        refine (rune0 (hy.drewN n) fy).mono ?_
        rintro e w' ⟨rfl, n2, rfl⟩
        go_wp2_with fail
        refine (digit_any _ _).mono ?_
        rintro e w' ⟨rfl, rfl⟩
        go_wp2_with fail
        refine (fail_any x.line x.col 2 (hy.drewN _)).mono ?_
        rintro e w1 ⟨rfl, D', h1, o1⟩
        go_wp2_with fail
        refine bodyPost_ret (results_none rfl _ _ _) rfl ?_
        rw [E.out]
        exact ⟨rfl, O, D', h1, (oy.trans (((Only.refl _ _).drewN _).trans o1)).below (by have := h.hB; omega) (by simpa using h.hB)⟩
      · have E : Hid (x.name = y.put 1 (Lx.runesBytes ((y.l.drop x.at_).take (y.at_ - x.at_))) 0 x.line x.col) := by
          rw [gy.l]
          show Lx.St.name x = _
          unfold Lx.St.name
          simp only [← A.out]
          rw [if_neg h40]
        clear A
        go_wp2_with fail
        refine (rune0 hy fy).mono ?_
        rintro e w' ⟨rfl, n, rfl⟩
        go_wp2_with fail
        refine (letter_any _ _).mono ?_
        rintro e w' ⟨rfl, rfl⟩
        go_wp2_with fail
        refine (rune0 (hy.drewN n) fy).mono ?_
        rintro e w' ⟨rfl, n2, rfl⟩
        go_wp2_with fail
        refine (digit_any _ _).mono ?_
        rintro e w' ⟨rfl, rfl⟩
        go_wp2_with fail
        obtain ⟨A, c, rfl, hcap, hg⟩ := hy.form
        have hyl : x.at_ < y.l.length := by rw [gy.l]; exact hl0
        obtain ⟨g, rfl, hgp, _⟩ := hg _ hyl
        have hg' : ∀ i, i < y.l.length → wr.cell? ⟨g, i, none⟩ = some (.int .i32 (Lx.runeAt y.l i)) := by
          intro i hi
          obtain ⟨g', e1, _, e2⟩ := hg i hi
          simp at e1
          subst e1
          exact e2
        have hcv := fun (m cc : Nat) => convert_runes (n := y.at_ - x.at_) (at_ := x.at_) (c := cc) (wr.drewN m) (by omega) hg'
        have H1 := Lib.hid hg
        have H2 := Lib.hid hg'
        clear hg hg'
        have k1 := hy.cell 1
        simp at k1
        have z1 : ¬ c = x.at_ := by omega
        have z2 : (x.at_ : Int) ≤ y.at_ := by omega
        have z3 : (y.at_ : Int) ≤ c := by omega
        refine wp_region_still_tail 13 (by kernel_rfl) (by kernel_rfl) ?_
        simp only [List.take_succ_cons, List.take_zero, List.drop_succ_cons, List.drop_zero]
        change wpStill _ _ (wr.drewN (n + n2 + 1)) _ _ _
        repeat still_step
        refine wpStill_nil ?_
        change wpList _ _ _ _ _ (wr.drewN (n + n2 + 1))
        go_wp2_with fail
        refine (put_any 1 0 x.line x.col (Lx.runesBytes ((y.l.drop x.at_).take (y.at_ - x.at_))) (hy.drewN _) (by have := fy.out; omega)).mono ?_
        rintro e w1 ⟨rfl, O', h1, o1⟩
        go_wp2_with fail
        go_end0
        rw [E.out]
        exact ⟨rfl, O', D, h1, ((oy.drewN _).below (by have := h.hB; omega) (by simpa using h.hB)).trans o1⟩
end
end Go.Proofs.YtoidmljhlekbkaaDoor
