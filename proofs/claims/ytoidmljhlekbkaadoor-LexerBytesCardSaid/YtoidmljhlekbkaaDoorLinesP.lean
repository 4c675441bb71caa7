/-
  LexerLines: what the plain lexer says of its sources.
-/
import Derived.Test.YtoidmljhlekbkaaDoorEnds
namespace Go.Proofs.YtoidmljhlekbkaaDoor
open Lx
theorem one_blank {x : St} {r : List Int} {line col : Int} {out : List Tok} (h : At x (32 :: r) line col out) : x.one = x.step := by
  have hp : x.peek 0 = 32 := by rw [h.peek]; rfl
  unfold St.one
  simp only [hp]
  rfl
theorem one_line_at {x : St} {r : List Int} {line col : Int} {out : List Tok} (h : At x (10 :: r) line col out) (hl : line ≤ 8000) : x.one = x.step.put 5 [] 0 line col := by
  have hp : x.peek 0 = 10 := by rw [h.peek]; rfl
  unfold St.one
  simp only [hp, h.line, h.col]
  rw [if_neg (by decide), if_neg (by decide), if_pos trivial, if_neg (by omega)]
theorem one_line_many_at {x : St} {r : List Int} {line col : Int} {out : List Tok} (h : At x (10 :: r) line col out) (hl : 8000 < line) : x.one = { x with bad := some (line, col, 2) } := by
  have hp : x.peek 0 = 10 := by rw [h.peek]; rfl
  have e1 := h.line
  have e2 := h.col
  subst e1 e2
  unfold St.one
  simp only [hp]
  rw [if_neg (by decide), if_neg (by decide), if_pos trivial, if_pos hl]
  unfold St.fail
  rw [h.bad]
def lineToks (line : Int) : Nat → List Tok
  | 0 => []
  | n + 1 => ⟨5, [], 0, line, 1⟩ :: lineToks (line + 1) n
theorem lineToks_len (n : Nat) : ∀ line, (lineToks line n).length = n := by
  induction n with
  | zero => intro line; rfl
  | succ n ih => intro line; simp [lineToks, ih]
/-- The runs from a state come to another one. -/
def Leads (x z : St) : Prop := ∀ y, Ends z y → Ends x y
theorem Leads.refl (x : St) : Leads x x := fun _ h => h
theorem Leads.one {x z : St} {c : Int} {r : List Int} {line col : Int} {out : List Tok} (h : At x (c :: r) line col out) (hg : x.one.l = x.l ∧ (x.one.bad = none → x.at_ < x.one.at_)) (k : Leads x.one z) : Leads x z :=
  fun y hy => Ends.one h hg (k y hy)
theorem leads_lines (n : Nat) : ∀ {x : St} {r : List Int} {line : Int} {out : List Tok}, At x (List.replicate n 10 ++ r) line 1 out → line + n ≤ 8001 →
    ∃ z, At z r (line + n) 1 (out ++ lineToks line n) ∧ Leads x z := by
  induction n with
  | zero =>
    intro x r line out h _
    exact ⟨x, by simpa [lineToks] using h, .refl _⟩
  | succ n ih =>
    intro x r line out h hl
    have h' : At x (10 :: (List.replicate n 10 ++ r)) line 1 out := h
    have e := one_line_at h' (by omega)
    have h2 : At x.one (List.replicate n 10 ++ r) (line + 1) 1 (out ++ [⟨5, [], 0, line, 1⟩]) := by rw [e]; exact h'.newline.put _ _ _ _ _
    obtain ⟨z, hz, hl2⟩ := ih h2 (by omega)
    refine ⟨z, ?_, Leads.one h' ⟨by rw [e]; rfl, fun _ => by rw [e]; exact Nat.lt_succ_self _⟩ hl2⟩
    have e1 : line + ((n + 1 : Nat) : Int) = line + 1 + n := by omega
    rw [e1]
    simpa [lineToks] using hz
theorem leads_many (n : Nat) : ∀ {x : St} {r : List Int} {line : Int} {out : List Tok}, At x (List.replicate n 10 ++ r) line 1 out → line ≤ 8001 → 8001 < line + n →
    ∃ z : St, z.bad = some (8001, 1, 2) ∧ Leads x z := by
  induction n with
  | zero => intro x r line out h h1 h2; omega
  | succ n ih =>
    intro x r line out h h1 h2
    have h' : At x (10 :: (List.replicate n 10 ++ r)) line 1 out := h
    by_cases hl : line ≤ 8000
    · have e := one_line_at h' hl
      have h3 : At x.one (List.replicate n 10 ++ r) (line + 1) 1 (out ++ [⟨5, [], 0, line, 1⟩]) := by rw [e]; exact h'.newline.put _ _ _ _ _
      obtain ⟨z, hz, hl2⟩ := ih h3 (by omega) (by omega)
      exact ⟨z, hz, Leads.one h' ⟨by rw [e]; rfl, fun _ => by rw [e]; exact Nat.lt_succ_self _⟩ hl2⟩
    · obtain rfl : line = 8001 := by omega
      have e := one_line_many_at h' (by decide)
      exact ⟨x.one, by rw [e], Leads.one h' ⟨by rw [e], fun hb => by rw [e] at hb; cases hb⟩ (.refl _)⟩
theorem leads_blanks (n : Nat) : ∀ {x : St} {r : List Int} {line col : Int} {out : List Tok}, At x (List.replicate n 32 ++ r) line col out →
    ∃ z, At z r line (col + n) out ∧ Leads x z := by
  induction n with
  | zero =>
    intro x r line col out h
    exact ⟨x, by simpa using h, .refl _⟩
  | succ n ih =>
    intro x r line col out h
    have h' : At x (32 :: (List.replicate n 32 ++ r)) line col out := h
    have e := one_blank h'
    have h2 : At x.one (List.replicate n 32 ++ r) line (col + 1) out := by rw [e]; exact h'.step (by decide)
    obtain ⟨z, hz, hl2⟩ := ih h2
    refine ⟨z, ?_, Leads.one h' ⟨by rw [e]; rfl, fun _ => by rw [e]; exact Nat.lt_succ_self _⟩ hl2⟩
    have e1 : col + ((n + 1 : Nat) : Int) = col + 1 + n := by omega
    rw [e1]
    exact hz
/-- A name: its runes, from a letter on, up to one that is none of a name's. -/
theorem one_name_at {x : St} {c : Int} {ds r : List Int} {line col : Int} {out : List Tok} (h : At x (c :: ds ++ r) line col out) (hc : letter c = true) (hcs : c ≠ 59) (hd : ∀ d ∈ ds, nameCh d = true) (hr : nameCh (r.getD 0 (-1)) = false) (hn : ds.length ≤ 39) :
    x.one.l = x.l ∧ x.at_ < x.one.at_ ∧ At x.one r line (col + 1 + ds.length) (out ++ [⟨1, runesBytes (c :: ds), 0, line, col⟩]) := by
  have hp : x.peek 0 = c := by rw [h.peek]; rfl
  have hc' := hc
  simp [letter] at hc'
  have hnl : ∀ d, nameCh d = true → d ≠ 10 := by intro d hd e; subst e; exact absurd hd (by decide)
  have hsk := skip_at (p := nameCh) (c :: ds) h (fun d hd' => by
    rcases List.mem_cons.1 hd' with rfl | hd'
    · have : nameCh d = true := by simp [nameCh, hc]
      exact ⟨this, hnl d this⟩
    · exact ⟨hd d hd', hnl d (hd d hd')⟩) hr
  have hg := skip_goes nameCh x
  have hat : (x.skip nameCh).at_ - x.at_ = ds.length + 1 := by
    have e1 := congrArg List.length h.rest
    have e2 := congrArg List.length hsk.rest
    rw [hg.l] at e2
    simp at e1 e2
    have := hsk.at_
    rw [hg.l] at this
    have := h.at_
    omega
  have e : x.one = (x.skip nameCh).put 1 (runesBytes (c :: ds)) 0 line col := by
    have hn1 : x.one = x.name := by
      unfold St.one
      simp only [hp]
      rw [if_neg (by omega), if_neg hcs, if_neg (by omega), if_pos hc]
    rw [hn1]
    unfold St.name
    simp only [hat, h.line, h.col]
    rw [if_neg (by omega)]
    have : (x.l.drop x.at_).take (ds.length + 1) = c :: ds := by rw [h.rest]; simp
    rw [this]
  rw [e]
  refine ⟨hg.l, ?_, ?_⟩
  · show x.at_ < (x.skip nameCh).at_
    omega
  · have := hsk.put 1 (runesBytes (c :: ds)) 0 line col
    have e1 : col + ((c :: ds).length : Int) = col + 1 + ds.length := by simp; omega
    rw [e1] at this
    exact this
def linesRunes (n b : Nat) : List Int := List.replicate n 10 ++ (List.replicate b 32 ++ [120])
theorem linesRunes_valid (n b : Nat) : ∀ r ∈ linesRunes n b, validR r := by
  intro r hr
  simp [linesRunes] at hr
  rcases hr with ⟨_, rfl⟩ | ⟨_, rfl⟩ | rfl <;> simp [validR]
theorem linesRunes_at (n b : Nat) : At (Lx.start ⟨(runesBytes (linesRunes n b)).toArray⟩) (linesRunes n b) 1 1 [] := by
  rw [start_runes _ (linesRunes_valid n b)]
  exact ⟨Nat.zero_le _, rfl, rfl, rfl, rfl, rfl, rfl⟩
theorem runes_low (l : List Int) (hl : ∀ r ∈ l, 0 ≤ r ∧ r < 128) : runesBytes l = l.map fun r => UInt8.ofNat r.toNat := by
  induction l with
  | nil => rfl
  | cons r l ih =>
    have h1 := hl r (by simp)
    have e : runesBytes (r :: l) = (Utf8.encode r).data.toList ++ runesBytes l := by simp [runesBytes]
    rw [e, ih (fun x hx => hl x (by simp [hx]))]
    have h2 : (Utf8.encode r).data.toList = [UInt8.ofNat r.toNat] := by
      rw [← encode_list r h1.1 (by omega)]
      unfold Lib.encodeRune
      rw [Lib.encodeRuneZ_one h1.1 (by omega)]
      rfl
    rw [h2]
    rfl
theorem lines_low (n b : Nat) : ∀ r ∈ linesRunes n b, 0 ≤ r ∧ r < 128 := by
  intro r hr
  simp [linesRunes] at hr
  rcases hr with ⟨_, rfl⟩ | ⟨_, rfl⟩ | rfl <;> simp
theorem lines_size (n b : Nat) : (⟨(runesBytes (linesRunes n b)).toArray⟩ : ByteArray).size = n + b + 1 := by
  show (runesBytes (linesRunes n b)).toArray.size = _
  rw [runes_low _ (lines_low n b)]
  simp [linesRunes]
  omega
theorem lines_few (n b : Nat) (hn : n ≤ 8000) (hb : b ≤ 20) : tokens ⟨(runesBytes (linesRunes n b)).toArray⟩ = (lineToks 1 n ++ [⟨1, [120], 0, n + 1, b + 1⟩, ⟨6, [], 0, n + 1, b + 2⟩], 0, 0, 0) := by
  have h0 := linesRunes_at n b
  obtain ⟨z, hz, l1⟩ := leads_lines n h0 (by omega)
  obtain ⟨u, hu, l2⟩ := leads_blanks b hz
  have hx := one_name_at (ds := []) (r := []) hu (by decide) (by decide) (by simp) (by decide) (by decide)
  have l3 : Leads u u.one := Leads.one hu ⟨hx.1, fun _ => hx.2.1⟩ (.refl _)
  have e := l1 _ (l2 _ (l3 _ (Ends.stop hx.2.2)))
  rw [tokens_of (by rw [lines_size]; omega) e hx.2.2]
  have e1 : runesBytes [120] = [120] := by decide +kernel
  simp [e1]
  refine ⟨⟨?_, ?_⟩, ?_, ?_⟩ <;> omega
theorem lines_many (n b : Nat) (hn : 8000 < n) (hn2 : n ≤ 8010) (hb : b ≤ 20) : tokens ⟨(runesBytes (linesRunes n b)).toArray⟩ = ([], 8001, 1, 2) := by
  have h0 := linesRunes_at n b
  obtain ⟨z, hz, l1⟩ := leads_many n h0 (by omega) (by omega)
  exact tokens_bad (by rw [lines_size]; omega) (l1 _ (Ends.bad hz)) hz
end Go.Proofs.YtoidmljhlekbkaaDoor
