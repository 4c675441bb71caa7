/-
  Plain laws of the lexer's one: it goes on or fails; its runs end.
-/
import Derived.Test.YtoidmljhlekbkaaDoorPlain
namespace Go.Proofs.YtoidmljhlekbkaaDoor
open Lx
/-- A round behind a sound state: sound again; no fault: further on. -/
structure Prog (x y : St) : Prop where
  l : y.l = x.l
  cut : y.cut = x.cut
  fit : Fit y
  on : y.bad = none → x.at_ < y.at_
theorem prog_fail {x z : St} (g : Goes x z) (f : Fit z) (hb : x.bad = none) (a b e : Int) : Prog x (z.fail a b e) := by
  have hz : z.bad = none := g.bad.trans hb
  have e1 : z.fail a b e = { z with bad := some (a, b, e) } := by unfold St.fail; rw [hz]
  rw [e1]
  exact ⟨g.l, g.cut, f.of rfl rfl rfl rfl f.out, fun h => by cases h⟩
theorem prog_quote {x z : St} (g : Goes x z) (f : Fit z) (hb : x.bad = none) (a b : Int) : Prog x (z.quote a b) := by
  unfold St.quote
  split
  · exact prog_fail g f hb _ _ _
  · exact prog_fail g f hb _ _ _
theorem prog_put {x z : St} (g : Goes x z) (fx : Fit x) (f : Fit z) (h : x.at_ < z.at_) (k : Int) (t : List UInt8) (n a b : Int) : Prog x (z.put k t n a b) :=
  ⟨g.l, g.cut, put_fit f (by rw [g.out]; have := fx.out; omega) k t n a b, fun _ => h⟩
theorem prog_on {x z : St} (g : Goes x z) (f : Fit z) (h : x.at_ < z.at_) : Prog x z := ⟨g.l, g.cut, f, fun _ => h⟩
theorem skip_on {p : Int → Bool} {x : St} (h : p (x.peek 0) = true) (hlt : x.at_ < x.l.length) : x.at_ < (x.skip p).at_ := by
  rw [skip_step h hlt]
  have := (skip_goes p x.step).at_
  rw [step_at] at this
  omega
theorem name_prog {x : St} (f : Fit x) (hb : x.bad = none) (hlt : x.at_ < x.l.length) (h : nameCh (x.peek 0) = true) : Prog x x.name := by
  unfold St.name
  simp only
  split
  · exact prog_fail (skip_goes _ x) (skip_fit _ x f) hb _ _ _
  · exact prog_put (skip_goes _ x) f (skip_fit _ x f) (skip_on h hlt) _ _ _ _ _
theorem number_prog {x : St} (f : Fit x) (hb : x.bad = none) (hlt : x.at_ < x.l.length) (h : digit (x.peek 0) = true) : Prog x x.number := by
  have main : ∀ base z, Goes x z → Fit z → (x.at_ < z.at_ ∨ (z = x ∧ base = 10)) →
      Prog x (if letter ((z.digits base 0).2.peek 0) then (z.digits base 0).2.fail (z.digits base 0).2.line (z.digits base 0).2.col 3
        else if 4294967295 < (z.digits base 0).1 then (z.digits base 0).2.fail x.line x.col 6 else (z.digits base 0).2.put 2 [] (z.digits base 0).1 x.line x.col) := by
    intro base z g fz ho
    have g2 := g.trans (digits_goes base 0 z)
    have f2 := digits_fit base 0 z fz
    split
    · exact prog_fail g2 f2 hb _ _ _
    split
    · exact prog_fail g2 f2 hb _ _ _
    · refine prog_put g2 f f2 ?_ _ _ _ _ _
      rcases ho with ho | ⟨rfl, rfl⟩
      · exact Nat.lt_of_lt_of_le ho (digits_goes base 0 z).at_
      · have hd : ¬ (hex (z.peek 0) < 0 ∨ 10 ≤ hex (z.peek 0)) := by
          simp [digit] at h
          unfold hex
          rw [if_pos h]
          omega
        rw [digits_step hd hlt]
        have := (digits_goes 10 (min (0 * 10 + hex (z.peek 0)) 4294967296) z.step).at_
        rw [step_at] at this
        omega
  unfold St.number
  simp only
  by_cases hh : x.peek 0 = 48 ∧ x.peek 1 = 120 ∧ 0 ≤ hex (x.peek 2)
  · simp only [if_pos hh]
    have l2 : x.step.at_ < x.step.l.length := by
      have : x.at_ + 1 < x.l.length := Fit.peek_lt (k := 1) (by omega)
      rw [step_l, step_at]; exact this
    exact main 16 x.step.step ((Goes.step x).trans (Goes.step _)) ((f.step hlt).step l2) (.inl (by rw [step_at, step_at]; omega))
  · simp only [if_neg hh]
    exact main 10 x (Goes.refl x) f (.inr ⟨rfl, rfl⟩)
theorem quoted_prog {x : St} (f : Fit x) (hb : x.bad = none) (hlt : x.at_ < x.l.length) : Prog x x.quoted := by
  have f1 := f.step hlt
  have g1 := Goes.step x
  have g2 := g1.trans (escaped_goes x.step 39)
  have f2 := escaped_fit x.step 39 (by decide) f1
  unfold St.quoted
  simp only
  split
  · exact prog_quote g1 f1 hb _ _
  split
  · exact prog_quote g2 f2 hb _ _
  · rename_i h
    have hq : (x.step.escaped 39).2.peek 0 = 39 := by
      rcases Classical.em ((x.step.escaped 39).2.peek 0 = 39) with h1 | h1
      · exact h1
      · exact absurd (Or.inr h1) h
    have l2 : (x.step.escaped 39).2.at_ < (x.step.escaped 39).2.l.length := Fit.peek_lt (k := 0) (by omega)
    refine prog_put (g2.trans (Goes.step _)) f (f2.step l2) ?_ _ _ _ _ _
    have := g2.at_
    rw [step_at]
    omega
theorem textGo_some (m : Nat) : ∀ b x c y, textGo m b x = (some c, y) → y.peek 0 = 34 := by
  induction m with
  | zero => intro b x c y h; simp [textGo] at h
  | succ m ih =>
    intro b x c y h
    by_cases h1 : x.peek 0 = 34
    · rw [text_end h1] at h
      cases h
      exact h1
    by_cases he : (x.escaped 34).1 < 0
    · rw [text_bad h1 he] at h
      cases h
    · rw [text_on h1 he] at h
      exact ih _ _ _ _ h
theorem text_prog {x : St} (f : Fit x) (hb : x.bad = none) (hlt : x.at_ < x.l.length) : Prog x x.text := by
  have f1 := f.step hlt
  have g1 := Goes.step x
  have g2 := g1.trans (textGo_goes (x.step.l.length - x.step.at_ + 1) [] x.step)
  have f2 := textGo_fit (x.step.l.length - x.step.at_ + 1) [] x.step f1
  unfold St.text
  simp only
  split
  · rename_i c z hz
    rw [hz] at g2 f2
    have hq := textGo_some _ _ _ _ _ hz
    have l2 : z.at_ < z.l.length := Fit.peek_lt (k := 0) (by omega)
    refine prog_put (g2.trans (Goes.step _)) f (f2.step l2) ?_ _ _ _ _ _
    have h3 : x.at_ ≤ z.at_ := g2.at_
    show x.at_ < z.at_ + 1
    omega
  · rename_i z hz
    rw [hz] at g2 f2
    exact prog_quote g2 f2 hb _ _
theorem one_prog {x : St} (f : Fit x) (hb : x.bad = none) (hlt : x.at_ < x.l.length) : Prog x x.one := by
  have f1 := f.step hlt
  have g1 := Goes.step x
  have a1 : x.at_ < x.step.at_ := by rw [step_at]; omega
  unfold St.one
  simp only
  split
  · exact prog_on g1 f1 a1
  split
  · rename_i h
    exact prog_on (skip_goes _ x) (skip_fit _ x f) (skip_on (by simp [noteCh, h]) hlt)
  split
  · split
    · exact prog_fail (Goes.refl x) f hb _ _ _
    · exact prog_put g1 f f1 a1 _ _ _ _ _
  split
  · rename_i h
    exact name_prog f hb hlt (by simp [nameCh, h])
  split
  · rename_i h
    exact number_prog f hb hlt h
  split
  · exact quoted_prog f hb hlt
  split
  · exact text_prog f hb hlt
  split
  · exact prog_put g1 f f1 a1 _ _ _ _ _
  · exact prog_fail (Goes.refl x) f hb _ _ _
theorem run_stop {n : Nat} {x : St} (h : ¬ (x.bad.isNone ∧ x.at_ < x.l.length)) : runGo n x = x := by
  cases n with
  | zero => rfl
  | succ n => unfold runGo; rw [if_neg h]
theorem run_step {n : Nat} {x : St} (h : x.bad.isNone ∧ x.at_ < x.l.length) : runGo (n + 1) x = runGo n x.one := by
  rw [runGo, if_pos h]
theorem start_fit (s : ByteArray) (hs : (Lx.start s).l.length ≤ 65536) (hr : ∀ r ∈ (Lx.start s).l, 0 ≤ r ∧ r ≤ 1114111) : Fit (Lx.start s) :=
  ⟨Nat.zero_le _, hs, Int.le_refl 1, Int.le_refl 1, Int.le_refl 1, Int.le_refl 1, hr, Nat.le_refl 0⟩
theorem decodeGo_length (s : ByteArray) (f : Nat) : ∀ i, i ≤ s.size → (decodeGo s f i).1.length ≤ s.size - i := by
  induction f with
  | zero => intro i _; simp [decodeGo]
  | succ f ih =>
    intro i hi
    unfold decodeGo
    split
    · simp
    · rename_i h
      simp only
      split
      · simp
      · have hw : 1 ≤ (Utf8.decode s i).2 ∧ i + (Utf8.decode s i).2 ≤ s.size := by
          constructor
          · by_cases ha : (s[i]'(by omega)).toNat < 128
            · rw [decode_ascii s i (by omega) ha]
              exact Nat.le_refl _
            · exact (decode_high s i (by omega) (by omega)).2
          · simp only [Utf8.decode]
            repeat' split
            all_goals simp_all
            all_goals omega
        have := ih (i + (Utf8.decode s i).2) hw.2
        simp only [List.length_cons]
        omega
end Go.Proofs.YtoidmljhlekbkaaDoor
