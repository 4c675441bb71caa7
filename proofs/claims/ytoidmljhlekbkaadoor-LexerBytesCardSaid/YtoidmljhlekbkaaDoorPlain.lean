/-
  Plain laws of the lexer's states: what its steps keep, how its loops go on and end.
-/
import Derived.Test.YtoidmljhlekbkaaDoorLex
namespace Go.Proofs.YtoidmljhlekbkaaDoor
open Lx

/-- One state behind another one: the same runes, tokens, faults; no rune back. -/
structure Goes (x y : St) : Prop where
  l : y.l = x.l
  out : y.out = x.out
  bad : y.bad = x.bad
  cut : y.cut = x.cut
  at_ : x.at_ ≤ y.at_
theorem Goes.refl (x : St) : Goes x x := ⟨rfl, rfl, rfl, rfl, Nat.le_refl _⟩
theorem Goes.trans {x y z : St} (h : Goes x y) (k : Goes y z) : Goes x z :=
  ⟨k.l.trans h.l, k.out.trans h.out, k.bad.trans h.bad, k.cut.trans h.cut, Nat.le_trans h.at_ k.at_⟩
theorem Goes.step (x : St) : Goes x x.step := ⟨rfl, rfl, rfl, rfl, Nat.le_succ _⟩
theorem step_l (x : St) : x.step.l = x.l := rfl
theorem step_at (x : St) : x.step.at_ = x.at_ + 1 := rfl

theorem skip_stop {p : Int → Bool} {x : St} (h : p (x.peek 0) = false) : x.skip p = x := by
  unfold St.skip
  cases hf : x.l.length - x.at_ with
  | zero => rfl
  | succ f => simp [goWhile, h]
theorem skip_step {p : Int → Bool} {x : St} (h : p (x.peek 0) = true) (hlt : x.at_ < x.l.length) : x.skip p = x.step.skip p := by
  unfold St.skip
  rw [show x.l.length - x.at_ = (x.step.l.length - x.step.at_) + 1 by rw [step_l, step_at]; omega]
  simp [goWhile, h]
theorem goWhile_goes (p : Int → Bool) (n : Nat) : ∀ x, Goes x (goWhile p n x) := by
  induction n with
  | zero => exact fun x => Goes.refl x
  | succ n ih =>
    intro x
    unfold goWhile
    split
    · exact (Goes.step x).trans (ih _)
    · exact Goes.refl x
theorem skip_goes (p : Int → Bool) (x : St) : Goes x (x.skip p) := goWhile_goes p _ x
theorem goWhile_fit (p : Int → Bool) (n : Nat) : ∀ x, Fit x → x.at_ + n ≤ x.l.length → Fit (goWhile p n x) := by
  induction n with
  | zero => exact fun x f _ => f
  | succ n ih =>
    intro x f h
    unfold goWhile
    split
    · exact ih _ (f.step (by omega)) (by rw [step_l, step_at]; omega)
    · exact f
theorem skip_fit (p : Int → Bool) (x : St) (f : Fit x) : Fit (x.skip p) := goWhile_fit p _ x f (by have := f.at_; omega)

theorem digits_stop {base n : Int} {x : St} (h : hex (x.peek 0) < 0 ∨ base ≤ hex (x.peek 0)) : x.digits base n = (n, x) := by
  unfold St.digits
  cases hf : x.l.length - x.at_ with
  | zero => rfl
  | succ f => simp [digitsGo, h]
theorem digits_step {base n : Int} {x : St} (h : ¬ (hex (x.peek 0) < 0 ∨ base ≤ hex (x.peek 0))) (hlt : x.at_ < x.l.length) :
    x.digits base n = x.step.digits base (min (n * base + hex (x.peek 0)) 4294967296) := by
  unfold St.digits
  rw [show x.l.length - x.at_ = (x.step.l.length - x.step.at_) + 1 by rw [step_l, step_at]; omega]
  simp only [digitsGo, if_neg h]
theorem digitsGo_goes (base : Int) (m : Nat) : ∀ n x, Goes x (digitsGo base m n x).2 := by
  induction m with
  | zero => exact fun n x => Goes.refl x
  | succ m ih =>
    intro n x
    unfold digitsGo
    split
    · exact Goes.refl x
    · exact (Goes.step x).trans (ih _ _)
theorem digits_goes (base n : Int) (x : St) : Goes x (x.digits base n).2 := digitsGo_goes base _ n x
theorem digitsGo_fit (base : Int) (m : Nat) : ∀ n x, Fit x → x.at_ + m ≤ x.l.length → Fit (digitsGo base m n x).2 := by
  induction m with
  | zero => exact fun n x f _ => f
  | succ m ih =>
    intro n x f h
    unfold digitsGo
    split
    · exact f
    · exact ih _ _ (f.step (by omega)) (by rw [step_l, step_at]; omega)
theorem digits_fit (base n : Int) (x : St) (f : Fit x) : Fit (x.digits base n).2 := digitsGo_fit base _ n x f (by have := f.at_; omega)
theorem hex_neg (c : Int) (h : c < 0) : hex c = -1 := by
  unfold hex
  repeat' split
  all_goals omega
theorem hex_bd (c : Int) : -1 ≤ hex c ∧ hex c ≤ 15 := by
  unfold hex
  repeat' split
  all_goals omega

theorem escaped_goes (x : St) (q : Int) : Goes x (x.escaped q).2 := by
  unfold St.escaped
  simp only
  repeat' split
  · exact Goes.refl x
  · exact Goes.step x
  · exact (Goes.step x).trans (Goes.step _)
  · exact (Goes.step x).trans (Goes.step _)
  · exact Goes.step x
theorem escaped_fit (x : St) (q : Int) (hq : 0 ≤ q) (f : Fit x) : Fit (x.escaped q).2 := by
  unfold St.escaped
  simp only
  by_cases h1 : x.peek 0 = 10 ∨ x.peek 0 < 0
  · rw [if_pos h1]; exact f
  rw [if_neg h1]
  have f1 := f.step (Fit.peek_lt (k := 0) (by omega))
  by_cases h2 : x.peek 0 ≠ 92
  · rw [if_pos h2]; exact f1
  rw [if_neg h2]
  by_cases h3 : x.step.peek 0 = 110
  · rw [if_pos h3]; exact f1.step (Fit.peek_lt (k := 0) (by omega))
  rw [if_neg h3]
  by_cases h4 : x.step.peek 0 = 92 ∨ x.step.peek 0 = q
  · rw [if_pos h4]; exact f1.step (Fit.peek_lt (k := 0) (by omega))
  · rw [if_neg h4]; exact f1
/-- What an escaped rune is; it takes one rune or more. -/
theorem escaped_bd (x : St) (q : Int) (f : Fit x) : -1 ≤ (x.escaped q).1 ∧ (x.escaped q).1 ≤ 1114111 ∧ (0 ≤ (x.escaped q).1 → x.at_ < (x.escaped q).2.at_) := by
  have b0 := f.peek_bd 0
  unfold St.escaped
  simp only
  by_cases h1 : x.peek 0 = 10 ∨ x.peek 0 < 0
  · rw [if_pos h1]; simp
  rw [if_neg h1]
  have f1 := f.step (Fit.peek_lt (k := 0) (by omega))
  have b1 := f1.peek_bd 0
  by_cases h2 : x.peek 0 ≠ 92
  · rw [if_pos h2]; simp [step_at]; omega
  rw [if_neg h2]
  by_cases h3 : x.step.peek 0 = 110
  · rw [if_pos h3]; simp [step_at]; omega
  rw [if_neg h3]
  by_cases h4 : x.step.peek 0 = 92 ∨ x.step.peek 0 = q
  · rw [if_pos h4]; simp [step_at]; omega
  · rw [if_neg h4]; simp
theorem Fit.of {x y : St} (f : Fit x) (hl : y.l = x.l) (ha : y.at_ = x.at_) (h1 : y.line = x.line) (h2 : y.col = x.col) (ho : y.out.length ≤ y.at_) : Fit y :=
  ⟨by rw [hl, ha]; exact f.at_, by rw [hl]; exact f.len, by rw [h1]; exact f.line0, by rw [h1, ha]; exact f.line1, by rw [h2]; exact f.col0, by rw [h2, ha]; exact f.col1,
    by rw [hl]; exact f.runes, ho⟩
theorem fail_fit {x : St} (f : Fit x) (a b e : Int) : Fit (x.fail a b e) := by
  unfold St.fail
  split
  · exact f.of rfl rfl rfl rfl f.out
  · exact f
theorem fail_l (x : St) (a b e : Int) : (x.fail a b e).l = x.l ∧ (x.fail a b e).cut = x.cut ∧ (x.fail a b e).out = x.out ∧ (x.fail a b e).at_ = x.at_ := by
  unfold St.fail
  split <;> simp
theorem put_fit {x : St} (f : Fit x) (h : x.out.length < x.at_) (k : Int) (t : List UInt8) (n a b : Int) : Fit (x.put k t n a b) :=
  f.of rfl rfl rfl rfl (by simp [St.put]; omega)
theorem quote_fit {x : St} (f : Fit x) (a b : Int) : Fit (x.quote a b) := by
  unfold St.quote
  split <;> exact fail_fit f _ _ _

/-- The loop of a string's runes. -/
theorem text_end {n : Nat} {b : List UInt8} {x : St} (h : x.peek 0 = 34) : textGo (n + 1) b x = (some b, x) := by simp [textGo, h]
theorem text_bad {n : Nat} {b : List UInt8} {x : St} (h : x.peek 0 ≠ 34) (he : (x.escaped 34).1 < 0) : textGo (n + 1) b x = (none, (x.escaped 34).2) := by simp [textGo, h, he]
theorem text_on {n : Nat} {b : List UInt8} {x : St} (h : x.peek 0 ≠ 34) (he : ¬ (x.escaped 34).1 < 0) :
    textGo (n + 1) b x = textGo n (b ++ (Utf8.encode (x.escaped 34).1).data.toList) (x.escaped 34).2 := by simp [textGo, h, he]
theorem textGo_goes (m : Nat) : ∀ b x, Goes x (textGo m b x).2 := by
  induction m with
  | zero => exact fun b x => Goes.refl x
  | succ m ih =>
    intro b x
    by_cases h : x.peek 0 = 34
    · rw [text_end h]; exact Goes.refl x
    by_cases he : (x.escaped 34).1 < 0
    · rw [text_bad h he]; exact escaped_goes x 34
    · rw [text_on h he]; exact (escaped_goes x 34).trans (ih _ _)
theorem textGo_fit (m : Nat) : ∀ b x, Fit x → Fit (textGo m b x).2 := by
  induction m with
  | zero => exact fun b x f => f
  | succ m ih =>
    intro b x f
    by_cases h : x.peek 0 = 34
    · rw [text_end h]; exact f
    by_cases he : (x.escaped 34).1 < 0
    · rw [text_bad h he]; exact escaped_fit x 34 (by decide) f
    · rw [text_on h he]; exact ih _ _ (escaped_fit x 34 (by decide) f)
end Go.Proofs.YtoidmljhlekbkaaDoor
