/-
  Plain laws for the document's lexer: lines go by their ends alone; what a run's end answers; lists of tokens that are alike.
-/
import Derived.Test.YtoidmljhlekbkaaDoorPlain2
namespace Go.Proofs.YtoidmljhlekbkaaDoor
open Lx
theorem step_line {x : St} (h : x.peek 0 ≠ 10) : x.step.line = x.line := if_neg h
theorem step_line_end {x : St} (h : x.peek 0 = 10) : x.step.line = x.line + 1 := if_pos h
theorem goWhile_line {p : Int → Bool} (hp : p 10 = false) (n : Nat) : ∀ x, (goWhile p n x).line = x.line := by
  induction n with
  | zero => exact fun x => rfl
  | succ n ih =>
    intro x
    unfold goWhile
    split
    · rename_i h
      rw [ih, step_line]
      intro e
      rw [e, hp] at h
      cases h
    · rfl
theorem digitsGo_line (base : Int) (m : Nat) : ∀ n x, (digitsGo base m n x).2.line = x.line := by
  induction m with
  | zero => exact fun n x => rfl
  | succ m ih =>
    intro n x
    unfold digitsGo
    split
    · rfl
    · rename_i h
      rw [ih, step_line]
      intro e
      rw [e] at h
      exact h (.inl (by decide))
theorem escaped_line (x : St) (q : Int) (hq : q ≠ 10) : (x.escaped q).2.line = x.line := by
  unfold St.escaped
  simp only
  repeat' split
  · rfl
  · exact step_line (by omega)
  · show x.step.step.line = _
    rw [step_line (by omega), step_line (by omega)]
  · show x.step.step.line = _
    rw [step_line (by omega), step_line (by omega)]
  · exact step_line (by omega)
theorem textGo_line (m : Nat) : ∀ b x, (textGo m b x).2.line = x.line := by
  induction m with
  | zero => exact fun b x => rfl
  | succ m ih =>
    intro b x
    unfold textGo
    simp only
    split
    · rfl
    split
    · exact escaped_line x 34 (by decide)
    · rw [ih]
      exact escaped_line x 34 (by decide)
theorem fail_some (x : St) (a b c : Int) : (x.fail a b c).bad ≠ none := by
  unfold St.fail
  split
  · simp
  · rename_i h
    rw [h]
    simp
theorem quote_some (x : St) (a b : Int) : (x.quote a b).bad ≠ none := by
  unfold St.quote
  split <;> exact fail_some _ _ _ _
theorem number_line {x : St} : x.number.bad = none → x.number.line = x.line := by
  have main : ∀ (base : Int) (z : St), z.line = x.line → (if letter ((z.digits base 0).2.peek 0) then (z.digits base 0).2.fail (z.digits base 0).2.line (z.digits base 0).2.col 3
        else if 4294967295 < (z.digits base 0).1 then (z.digits base 0).2.fail x.line x.col 6 else (z.digits base 0).2.put 2 [] (z.digits base 0).1 x.line x.col).bad = none →
      (if letter ((z.digits base 0).2.peek 0) then (z.digits base 0).2.fail (z.digits base 0).2.line (z.digits base 0).2.col 3
        else if 4294967295 < (z.digits base 0).1 then (z.digits base 0).2.fail x.line x.col 6 else (z.digits base 0).2.put 2 [] (z.digits base 0).1 x.line x.col).line = x.line := by
    intro base z hz
    split
    · exact fun h => absurd h (fail_some _ _ _ _)
    split
    · exact fun h => absurd h (fail_some _ _ _ _)
    · exact fun _ => (digitsGo_line base _ 0 z).trans hz
  unfold St.number
  simp only
  by_cases hh : x.peek 0 = 48 ∧ x.peek 1 = 120 ∧ 0 ≤ hex (x.peek 2)
  · simp only [if_pos hh]
    have e1 : x.step.peek 0 = x.peek 1 := rfl
    exact main 16 x.step.step (by rw [step_line (by omega), step_line (by omega)])
  · simp only [if_neg hh]
    exact main 10 x rfl
theorem rone_line {x : St} (hb : x.one.bad = none) : x.one.line = if x.peek 0 = 10 then x.line + 1 else x.line := by
  revert hb
  unfold St.one
  simp only
  by_cases h1 : x.peek 0 = 32 ∨ x.peek 0 = 9 ∨ x.peek 0 = 13
  · rw [if_pos h1, if_neg (show ¬ x.peek 0 = 10 by omega)]
    exact fun _ => step_line (by omega)
  rw [if_neg h1]
  by_cases h2 : x.peek 0 = 59
  · rw [if_pos h2, if_neg (show ¬ x.peek 0 = 10 by omega)]
    exact fun _ => goWhile_line (by decide) _ _
  rw [if_neg h2]
  by_cases h3 : x.peek 0 = 10
  · rw [if_pos h3, if_pos h3]
    split
    · exact fun h => absurd h (fail_some _ _ _ _)
    · exact fun _ => step_line_end h3
  rw [if_neg h3, if_neg h3]
  split
  · unfold St.name
    simp only
    split
    · exact fun h => absurd h (fail_some _ _ _ _)
    · exact fun _ => goWhile_line (by decide) _ _
  split
  · exact number_line
  split
  · unfold St.quoted
    simp only
    split
    · exact fun h => absurd h (quote_some _ _ _)
    split
    · exact fun h => absurd h (quote_some _ _ _)
    · rename_i h5 _ h6
      intro _
      show (St.escaped _ _).2.step.line = _
      rw [step_line (by omega), escaped_line _ _ (by decide), step_line (by omega)]
  split
  · unfold St.text
    simp only
    have ht := textGo_line (x.step.l.length - x.step.at_ + 1) [] x.step
    have hs := textGo_some (x.step.l.length - x.step.at_ + 1) [] x.step
    generalize textGo (x.step.l.length - x.step.at_ + 1) [] x.step = r at *
    obtain ⟨_ | b, z⟩ := r
    · exact fun h => absurd h (quote_some _ _ _)
    · intro _
      show z.step.line = _
      have := hs b z rfl
      rw [step_line (by omega)]
      exact ht.trans (step_line (by omega))
  split
  · exact fun _ => step_line h3
  · exact fun h => absurd h (fail_some _ _ _ _)
/-! What a run's end answers. -/
section
variable {s : ByteArray} {y : St} {n : Nat}
theorem run_at (hb : ¬ (y.bad.isNone ∧ y.at_ < y.l.length)) (hr : runGo n y = run (Lx.start s)) : run (Lx.start s) = y := by rw [← hr, run_stop hb]
theorem tokens_fault {a b c : Int} (hs : ¬ 65536 < s.size) (hr : runGo n y = run (Lx.start s)) (hb : y.bad = some (a, b, c)) : tokens s = ([], a, b, c) := by
  have e := run_at (by rw [hb]; simp) hr
  unfold tokens
  rw [if_neg hs, e]
  have : (if y.cut = true then y.fail y.line y.col 4 else y).bad = some (a, b, c) := by
    split
    · unfold St.fail
      rw [hb]
      exact hb
    · exact hb
  simp only
  rw [this]
theorem tokens_cut (hs : ¬ 65536 < s.size) (hr : runGo n y = run (Lx.start s)) (hb : y.bad = none) (hc : y.cut = true) (hat : y.at_ = y.l.length) : tokens s = ([], y.line, y.col, 4) := by
  have e := run_at (by rw [hat]; simp) hr
  unfold tokens
  rw [if_neg hs, e]
  simp only
  rw [if_pos hc]
  have : (y.fail y.line y.col 4).bad = some (y.line, y.col, 4) := by unfold St.fail; rw [hb]
  rw [this]
theorem tokens_end (hs : ¬ 65536 < s.size) (hr : runGo n y = run (Lx.start s)) (hb : y.bad = none) (hc : y.cut = false) (hat : y.at_ = y.l.length) : tokens s = (y.out ++ [⟨6, [], 0, y.line, y.col⟩], 0, 0, 0) := by
  have e := run_at (by rw [hat]; simp) hr
  unfold tokens
  rw [if_neg hs, e]
  simp only
  rw [hc]
  simp only [Bool.false_eq_true, if_false]
  rw [hb]
  rfl
theorem run_on (hr : runGo (n + 1) y = run (Lx.start s)) (hb : y.bad = none) (hat : y.at_ < y.l.length) : runGo n y.one = run (Lx.start s) := by
  rw [← hr, run_step ⟨by rw [hb]; rfl, hat⟩]
end
/-! Lists of tokens that are alike, but for the texts of numbers. -/
structure TokLike (t u : Tok) : Prop where
  kind : t.kind = u.kind
  n : t.n = u.n
  line : t.line = u.line
  col : t.col = u.col
  text : t.kind ≠ 2 → t.text = u.text
def Like : List Tok → List Tok → Prop
  | [], [] => True
  | t :: ts, u :: us => TokLike t u ∧ Like ts us
  | _, _ => False
theorem Like.length : ∀ {ts us : List Tok}, Like ts us → ts.length = us.length
  | [], [], _ => rfl
  | _ :: _, _ :: _, h => by rw [List.length_cons, List.length_cons, Like.length h.2]
  | [], _ :: _, h => h.elim
  | _ :: _, [], h => h.elim
theorem Like.snoc {t u : Tok} (k : TokLike t u) : ∀ {ts us : List Tok}, Like ts us → Like (ts ++ [t]) (us ++ [u])
  | [], [], _ => ⟨k, trivial⟩
  | _ :: _, _ :: _, h => ⟨h.1, Like.snoc k h.2⟩
  | [], _ :: _, h => h.elim
  | _ :: _, [], h => h.elim
theorem Like.at_ : ∀ {ts us : List Tok}, Like ts us → ∀ i (h : i < ts.length) (h' : i < us.length), TokLike ts[i] us[i]
  | _ :: _, _ :: _, h, 0, _, _ => h.1
  | _ :: _, _ :: _, h, i + 1, a, b => Like.at_ h.2 i (by simpa using a) (by simpa using b)
  | [], _ :: _, h, _, _, _ => h.elim
  | _ :: _, [], h, _, _, _ => h.elim
/-! One, by its first rune. -/
section
variable {x : St}
def white (c : Int) : Bool := decide (c = 32 ∨ c = 9 ∨ c = 13)
theorem rone_white (h : white (x.peek 0) = true) : x.one = x.step := by
  have h' : x.peek 0 = 32 ∨ x.peek 0 = 9 ∨ x.peek 0 = 13 := by simpa [white] using h
  unfold St.one
  simp only
  rw [if_pos h']
theorem rone_note (h : x.peek 0 = 59) : x.one = x.skip noteCh := by
  unfold St.one
  simp only
  rw [if_neg (by omega), if_pos h]
theorem rone_end_bad (h : x.peek 0 = 10) (h8 : 8000 < x.line) : x.one = x.fail x.line x.col 2 := by
  unfold St.one
  simp only
  rw [if_neg (by omega), if_neg (by omega), if_pos h, if_pos h8]
theorem rone_end (h : x.peek 0 = 10) (h8 : ¬ 8000 < x.line) : x.one = x.step.put 5 [] 0 x.line x.col := by
  unfold St.one
  simp only
  rw [if_neg (by omega), if_neg (by omega), if_pos h, if_neg h8]
theorem letter_ne {c : Int} (h : letter c = true) : c ≠ 32 ∧ c ≠ 9 ∧ c ≠ 13 ∧ c ≠ 59 ∧ c ≠ 10 := by
  simp [letter] at h
  omega
theorem digit_ne {c : Int} (h : digit c = true) : c ≠ 32 ∧ c ≠ 9 ∧ c ≠ 13 ∧ c ≠ 59 ∧ c ≠ 10 ∧ letter c = false := by
  simp [digit] at h
  simp [letter]
  omega
theorem rone_name (h : letter (x.peek 0) = true) : x.one = x.name := by
  have := letter_ne h
  unfold St.one
  simp only
  rw [if_neg (by omega), if_neg (by omega), if_neg (by omega), if_pos h]
theorem name_bad' {x y : St} (h : x.skip nameCh = y) (h40 : 40 < y.at_ - x.at_) : x.name = y.fail x.line x.col 2 := by
  unfold St.name
  simp only
  rw [h, if_pos h40]
theorem name_good' {x y : St} (h : x.skip nameCh = y) (h40 : ¬ 40 < y.at_ - x.at_) : x.name = y.put 1 (runesBytes ((x.l.drop x.at_).take (y.at_ - x.at_))) 0 x.line x.col := by
  unfold St.name
  simp only
  rw [h, if_neg h40]
theorem rone_number (h : digit (x.peek 0) = true) : x.one = x.number := by
  obtain ⟨a, b, c, d, e, f⟩ := digit_ne h
  unfold St.one
  simp only
  rw [if_neg (by omega), if_neg (by omega), if_neg (by omega), f, h]
  simp
theorem rone_quoted (h : x.peek 0 = 39) : x.one = x.quoted := by
  unfold St.one
  simp only
  rw [h]
  simp [letter, digit]
theorem rone_text (h : x.peek 0 = 34) : x.one = x.text := by
  unfold St.one
  simp only
  rw [h]
  simp [letter, digit]
theorem rone_sign (h : sign (x.peek 0) = true) : x.one = x.step.put 4 (Utf8.encode (x.peek 0)).data.toList 0 x.line x.col := by
  have h' := h
  simp [sign] at h'
  have h1 : letter (x.peek 0) = false := by simp [letter]; omega
  have h2 : digit (x.peek 0) = false := by simp [digit]; omega
  unfold St.one
  simp only
  rw [if_neg (by omega), if_neg (by omega), if_neg (by omega), h1, h2, if_neg (by simp), if_neg (by simp), if_neg (by omega), if_neg (by omega), if_pos h]
theorem rone_bad (h1 : white (x.peek 0) = false) (h2 : x.peek 0 ≠ 59) (h3 : x.peek 0 ≠ 10) (h4 : letter (x.peek 0) = false) (h5 : digit (x.peek 0) = false) (h6 : x.peek 0 ≠ 39) (h7 : x.peek 0 ≠ 34) (h8 : sign (x.peek 0) = false) : x.one = x.fail x.line x.col 3 := by
  have h1' : ¬ (x.peek 0 = 32 ∨ x.peek 0 = 9 ∨ x.peek 0 = 13) := by simpa [white] using h1
  unfold St.one
  simp only
  rw [if_neg h1', if_neg h2, if_neg h3, h4, h5, if_neg (by simp), if_neg (by simp), if_neg h6, if_neg h7, h8, if_neg (by simp)]
end
end Go.Proofs.YtoidmljhlekbkaaDoor
