/-
  How the lexer's runs go, a token at a time, on sources that are written out: plain laws.
-/
import Derived.Test.YtoidmljhlekbkaaDoorPlain2
import Derived.Test.YtoidmljhlekbkaaDoorDec
namespace Go.Proofs.YtoidmljhlekbkaaDoor
open Lx
/-- A sound state, with nothing wrong so far: the runes that are left, where it stands. -/
structure At (x : St) (r : List Int) (line col : Int) (out : List Tok) : Prop where
  at_ : x.at_ ≤ x.l.length
  rest : x.l.drop x.at_ = r
  line : x.line = line
  col : x.col = col
  out : x.out = out
  bad : x.bad = none
  cut : x.cut = false
/-- The runs from a state end in another one, however long they may be. -/
def Ends (x y : St) : Prop := ∀ n, x.l.length - x.at_ + 1 ≤ n → runGo n x = y
theorem At.peek {x : St} {r : List Int} {line col : Int} {out : List Tok} (h : At x r line col out) (k : Nat) : x.peek k = r.getD k (-1) := by
  unfold St.peek runeAt
  rw [← h.rest, List.getD_eq_getElem?_getD, List.getD_eq_getElem?_getD, List.getElem?_drop]
theorem At.lt {x : St} {c : Int} {r : List Int} {line col : Int} {out : List Tok} (h : At x (c :: r) line col out) : x.at_ < x.l.length := by
  have := congrArg List.length h.rest
  simp at this
  omega
theorem At.step {x : St} {c : Int} {r : List Int} {line col : Int} {out : List Tok} (h : At x (c :: r) line col out) (hc : c ≠ 10) : At x.step r line (col + 1) out := by
  have hp : x.peek 0 = c := by rw [h.peek]; rfl
  have hlt := h.lt
  refine ⟨hlt, ?_, ?_, ?_, h.out, h.bad, h.cut⟩
  · show x.l.drop (x.at_ + 1) = r
    have e := h.rest
    rw [List.drop_eq_getElem_cons hlt] at e
    exact (List.cons.inj e).2
  · show (if x.peek 0 = 10 then x.line + 1 else x.line) = line
    rw [hp, if_neg hc]; exact h.line
  · show (if x.peek 0 = 10 then 1 else x.col + 1) = col + 1
    rw [hp, if_neg hc, h.col]
theorem At.newline {x : St} {r : List Int} {line col : Int} {out : List Tok} (h : At x (10 :: r) line col out) : At x.step r (line + 1) 1 out := by
  have hp : x.peek 0 = 10 := by rw [h.peek]; rfl
  have hlt := h.lt
  refine ⟨hlt, ?_, ?_, ?_, h.out, h.bad, h.cut⟩
  · show x.l.drop (x.at_ + 1) = r
    have e := h.rest
    rw [List.drop_eq_getElem_cons hlt] at e
    exact (List.cons.inj e).2
  · show (if x.peek 0 = 10 then x.line + 1 else x.line) = line + 1
    rw [hp, if_pos rfl, h.line]
  · show (if x.peek 0 = 10 then 1 else x.col + 1) = 1
    rw [hp, if_pos rfl]
theorem At.put {x : St} {r : List Int} {line col : Int} {out : List Tok} (h : At x r line col out) (k : Int) (t : List UInt8) (n a b : Int) : At (x.put k t n a b) r line col (out ++ [⟨k, t, n, a, b⟩]) :=
  ⟨h.at_, h.rest, h.line, h.col, by show x.out ++ _ = _; rw [h.out], h.bad, h.cut⟩
theorem Ends.stop {x : St} {line col : Int} {out : List Tok} (h : At x [] line col out) : Ends x x := by
  intro n _
  refine run_stop ?_
  rintro ⟨_, hlt⟩
  have := congrArg List.length h.rest
  simp at this
  omega
theorem Ends.bad {x : St} {v : Int × Int × Int} (h : x.bad = some v) : Ends x x := by
  intro n _
  refine run_stop ?_
  rintro ⟨h1, _⟩
  rw [h] at h1
  cases h1
theorem Ends.one {x y : St} {c : Int} {r : List Int} {line col : Int} {out : List Tok} (h : At x (c :: r) line col out) (hg : x.one.l = x.l ∧ (x.one.bad = none → x.at_ < x.one.at_)) (k : Ends x.one y) : Ends x y := by
  intro n hn
  obtain ⟨m, rfl⟩ : ∃ m, n = m + 1 := ⟨n - 1, by omega⟩
  rw [run_step ⟨by rw [h.bad]; rfl, h.lt⟩]
  rcases hb : x.one.bad with _ | v
  · refine k m ?_
    have := hg.2 hb
    have := h.lt
    rw [hg.1]
    omega
  · have h1 : runGo m x.one = x.one := by
      refine run_stop ?_
      rintro ⟨h1, _⟩
      rw [hb] at h1
      cases h1
    have h2 := k (x.one.l.length - x.one.at_ + 1) (Nat.le_refl _)
    rw [run_stop (by rintro ⟨h1, _⟩; rw [hb] at h1; cases h1)] at h2
    rw [h1, h2]
/-- The answer at the end of a source. -/
theorem tokens_of {s : ByteArray} {y : St} {line col : Int} {out : List Tok} (hs : s.size ≤ 65536) (he : Ends (Lx.start s) y) (h : At y [] line col out) : tokens s = (out ++ [⟨6, [], 0, line, col⟩], 0, 0, 0) := by
  unfold tokens
  rw [if_neg (by omega)]
  have : run (Lx.start s) = y := he _ (by show _ ≤ (Lx.start s).l.length + 2; omega)
  simp only [this, h.cut, Bool.false_eq_true, if_false, h.bad]
  simp [St.put, h.out, h.line, h.col]
theorem tokens_bad {s : ByteArray} {y : St} {a b e : Int} (hs : s.size ≤ 65536) (he : Ends (Lx.start s) y) (h : y.bad = some (a, b, e)) : tokens s = ([], a, b, e) := by
  unfold tokens
  rw [if_neg (by omega)]
  have : run (Lx.start s) = y := he _ (by show _ ≤ (Lx.start s).l.length + 2; omega)
  have hf : (if y.cut then y.fail y.line y.col 4 else y) = y := by
    unfold St.fail
    rw [h]
    simp
  simp only [this, hf, h]
theorem skip_at {p : Int → Bool} : ∀ (ds : List Int) {x : St} {r : List Int} {line col : Int} {out : List Tok}, At x (ds ++ r) line col out → (∀ d ∈ ds, p d = true ∧ d ≠ 10) → p (r.getD 0 (-1)) = false →
    At (x.skip p) r line (col + ds.length) out := by
  intro ds
  induction ds with
  | nil =>
    intro x r line col out h _ hr
    rw [skip_stop (by rw [h.peek]; exact hr)]
    simpa using h
  | cons d ds ih =>
    intro x r line col out h hd hr
    have hp : x.peek 0 = d := by rw [h.peek]; rfl
    rw [skip_step (by rw [hp]; exact (hd d (by simp)).1) h.lt]
    have := ih (h.step (hd d (by simp)).2) (fun e he => hd e (by simp [he])) hr
    have e : col + ((d :: ds).length : Int) = col + 1 + ds.length := by simp; omega
    rw [e]
    exact this
end Go.Proofs.YtoidmljhlekbkaaDoor
