/-
  LexerStrings: what the plain lexer says of its source.
-/
import Derived.Test.YtoidmljhlekbkaaDoorLinesP
namespace Go.Proofs.YtoidmljhlekbkaaDoor
open Lx
/-- A rune, as a quoted text writes it. -/
def escOf (r : Int) : List Int := if r = 10 then [92, 110] else if r = 34 ∨ r = 92 then [92, r] else [r]
def escs (l : List Int) : List Int := l.flatMap escOf
def escCount (l : List Int) : Nat := (l.map fun r => if r = 10 ∨ r = 34 ∨ r = 92 then 1 else 0).sum
theorem escaped_at {x : St} {c : Int} {r : List Int} {line col : Int} {out : List Tok} (hv : validR c) (h : At x (escOf c ++ r) line col out) :
    x.peek 0 ≠ 34 ∧ (x.escaped 34).1 = c ∧ At (x.escaped 34).2 r line (col + (escOf c).length) out ∧ (x.escaped 34).2.l = x.l ∧ (x.escaped 34).2.at_ = x.at_ + (escOf c).length := by
  have h0 : 0 ≤ c := by unfold validR at hv; omega
  by_cases h10 : c = 10
  · subst h10
    have h' : At x (92 :: 110 :: r) line col out := h
    have hp : x.peek 0 = 92 := by rw [h'.peek]; rfl
    have hs := h'.step (by decide)
    have hp2 : x.step.peek 0 = 110 := by rw [hs.peek]; rfl
    have e : x.escaped 34 = (10, x.step.step) := by
      unfold St.escaped
      simp only [hp, hp2]
      rfl
    rw [e, hp]
    refine ⟨by decide, rfl, ?_, rfl, rfl⟩
    have := hs.step (by decide)
    rw [show col + ((escOf 10).length : Int) = col + 1 + 1 by show col + 2 = _; omega]
    exact this
  · by_cases hq : c = 34 ∨ c = 92
    · have ee : escOf c = [92, c] := by unfold escOf; rw [if_neg h10, if_pos hq]
      rw [ee] at h ⊢
      have h' : At x (92 :: c :: r) line col out := h
      have hp : x.peek 0 = 92 := by rw [h'.peek]; rfl
      have hs := h'.step (by decide)
      have hp2 : x.step.peek 0 = c := by rw [hs.peek]; rfl
      have e : x.escaped 34 = (c, x.step.step) := by
        unfold St.escaped
        simp only [hp, hp2]
        rw [if_neg (by decide), if_neg (by decide), if_neg (by omega), if_pos (by omega)]
      rw [e, hp]
      refine ⟨by decide, rfl, ?_, rfl, rfl⟩
      have := hs.step (by omega)
      rw [show col + (([92, c] : List Int).length : Int) = col + 1 + 1 by show col + 2 = _; omega]
      exact this
    · have ee : escOf c = [c] := by unfold escOf; rw [if_neg h10, if_neg hq]
      rw [ee] at h ⊢
      have h' : At x (c :: r) line col out := h
      have hp : x.peek 0 = c := by rw [h'.peek]; rfl
      have e : x.escaped 34 = (c, x.step) := by
        unfold St.escaped
        simp only [hp]
        rw [if_neg (by omega), if_pos (by omega)]
      rw [e, hp]
      exact ⟨by omega, rfl, h'.step h10, rfl, rfl⟩
theorem escOf_len (c : Int) : 1 ≤ (escOf c).length ∧ (escOf c).length ≤ 2 := by
  unfold escOf
  repeat' split
  all_goals simp
theorem textGo_at (l : List Int) : ∀ {x : St} {r : List Int} {line col : Int} {out : List Tok} (b : List UInt8) (f : Nat), (∀ c ∈ l, validR c) → At x (escs l ++ 34 :: r) line col out → x.l.length - x.at_ + 1 ≤ f →
    ∃ y, textGo f b x = (some (b ++ Lx.runesBytes l), y) ∧ At y (34 :: r) line (col + (escs l).length) out ∧ y.l = x.l ∧ y.at_ = x.at_ + (escs l).length := by
  induction l with
  | nil =>
    intro x r line col out b f _ h hf
    have h' : At x (34 :: r) line col out := h
    have hp : x.peek 0 = 34 := by rw [h'.peek]; rfl
    obtain ⟨g, rfl⟩ : ∃ g, f = g + 1 := ⟨f - 1, by omega⟩
    refine ⟨x, ?_, by simpa [escs] using h', rfl, rfl⟩
    unfold textGo
    rw [if_pos hp]
    simp [Lx.runesBytes]
  | cons c l ih =>
    intro x r line col out b f hv h hf
    have ee : escs (c :: l) = escOf c ++ escs l := by simp [escs]
    rw [ee, List.append_assoc] at h
    have hc := hv c (by simp)
    obtain ⟨h34, he1, he2, he3, he4⟩ := escaped_at hc h
    have h0 : 0 ≤ c := by unfold validR at hc; omega
    have hlen := escOf_len c
    have hlt := congrArg List.length h.rest
    simp at hlt
    obtain ⟨g, rfl⟩ : ∃ g, f = g + 1 := ⟨f - 1, by omega⟩
    obtain ⟨y, e1, e2, e3, e4⟩ := ih (b ++ (Utf8.encode c).data.toList) g (fun d hd => hv d (by simp [hd])) he2 (by rw [he3, he4]; omega)
    refine ⟨y, ?_, ?_, e3.trans he3, ?_⟩
    · unfold textGo
      rw [if_neg h34]
      simp only [he1]
      rw [if_neg (by omega), e1]
      simp [Lx.runesBytes]
    · rw [ee, List.length_append, show col + (((escOf c).length + (escs l).length : Nat) : Int) = col + (escOf c).length + (escs l).length by omega]
      exact e2
    · rw [e4, he4, ee, List.length_append]; omega
theorem escs_valid (l : List Int) (hv : ∀ c ∈ l, validR c) : ∀ r ∈ escs l, validR r := by
  intro r hr
  simp [escs] at hr
  obtain ⟨c, hc, hr⟩ := hr
  have h1 := hv c hc
  unfold escOf at hr
  split at hr
  · simp at hr; rcases hr with rfl | rfl <;> simp [validR]
  · split at hr
    · simp at hr; rcases hr with rfl | rfl
      · simp [validR]
      · exact h1
    · simp at hr; rw [hr]; exact h1
theorem escs_len (l : List Int) : (escs l).length = l.length + escCount l := by
  induction l with
  | nil => rfl
  | cons c l ih =>
    have ee : escs (c :: l) = escOf c ++ escs l := by simp [escs]
    have e2 : escCount (c :: l) = (if c = 10 ∨ c = 34 ∨ c = 92 then 1 else 0) + escCount l := by simp [escCount]
    rw [ee, List.length_append, ih, e2]
    unfold escOf
    by_cases h1 : c = 10
    · rw [if_pos h1, if_pos (.inl h1)]; simp; omega
    · by_cases h2 : c = 34 ∨ c = 92
      · rw [if_neg h1, if_pos h2, if_pos (.inr h2)]; simp; omega
      · rw [if_neg h1, if_neg h2, if_neg (by omega)]; simp; omega
theorem one_text_at {x : St} {r : List Int} {line col : Int} {out : List Tok} (h : At x (34 :: r) line col out) : x.one = x.text := by
  have hp : x.peek 0 = 34 := by rw [h.peek]; rfl
  unfold St.one
  simp only [hp]
  rfl
def strRunes (l : List Int) : List Int := 34 :: (escs l ++ [34, 32, 120])
theorem strRunes_valid (l : List Int) (hv : ∀ c ∈ l, validR c) : ∀ r ∈ strRunes l, validR r := by
  intro r hr
  simp [strRunes] at hr
  rcases hr with rfl | hr | rfl | rfl | rfl
  · simp [validR]
  · exact escs_valid l hv r hr
  · simp [validR]
  · simp [validR]
  · simp [validR]
theorem runesBytes_len (l : List Int) (hv : ∀ c ∈ l, validR c) : (Lx.runesBytes l).length ≤ 4 * l.length := by
  induction l with
  | nil => simp [Lx.runesBytes]
  | cons c l ih =>
    have e : Lx.runesBytes (c :: l) = (Utf8.encode c).data.toList ++ Lx.runesBytes l := by simp [Lx.runesBytes]
    have h1 : (Utf8.encode c).data.toList.length ≤ 4 := by
      unfold Utf8.encode
      simp only []
      repeat' split
      all_goals simp
    have := ih fun d hd => hv d (by simp [hd])
    rw [e, List.length_append, List.length_cons]
    omega
theorem str_source (l : List Int) (hv : ∀ c ∈ l, validR c) (hl : l.length ≤ 100) :
    tokens ⟨(Lx.runesBytes (strRunes l)).toArray⟩ = ([⟨3, Lx.runesBytes l, 0, 1, 1⟩, ⟨1, [120], 0, 1, l.length + escCount l + 4⟩, ⟨6, [], 0, 1, l.length + escCount l + 5⟩], 0, 0, 0) := by
  have hv2 := strRunes_valid l hv
  have hel := escs_len l
  have hec : escCount l ≤ l.length := by
    clear hv2 hel hl hv
    induction l with
    | nil => simp [escCount]
    | cons c l ih => simp [escCount] at *; split <;> omega
  have hsz : (⟨(Lx.runesBytes (strRunes l)).toArray⟩ : ByteArray).size ≤ 65536 := by
    show (Lx.runesBytes (strRunes l)).toArray.size ≤ _
    have := runesBytes_len _ hv2
    simp [strRunes] at this ⊢
    omega
  have h0 : At (Lx.start ⟨(Lx.runesBytes (strRunes l)).toArray⟩) (strRunes l) 1 1 [] := by
    rw [start_runes _ hv2]
    exact ⟨Nat.zero_le _, rfl, rfl, rfl, rfl, rfl, rfl⟩
  have h0' : At (Lx.start ⟨(Lx.runesBytes (strRunes l)).toArray⟩) (34 :: (escs l ++ 34 :: [32, 120])) 1 1 [] := h0
  have hs := h0'.step (by decide)
  obtain ⟨y, e1, hy, e2, e3⟩ := textGo_at l [] _ hv hs (Nat.le_refl _)
  have hys := hy.step (by decide)
  have et : (Lx.start ⟨(Lx.runesBytes (strRunes l)).toArray⟩).one = y.step.put 3 (Lx.runesBytes l) 0 1 1 := by
    rw [one_text_at h0']
    unfold St.text
    simp only [e1]
    rw [h0'.line, h0'.col]
    rfl
  have l1 : Leads (Lx.start ⟨(Lx.runesBytes (strRunes l)).toArray⟩) (y.step.put 3 (Lx.runesBytes l) 0 1 1) := by
    refine Leads.one h0' ⟨by rw [et]; exact e2, fun _ => ?_⟩ (by rw [et]; exact .refl _)
    rw [et]
    show _ < y.at_ + 1
    rw [e3]
    show _ < _ + 1 + _ + 1
    omega
  have hp := hys.put 3 (Lx.runesBytes l) 0 1 1
  have eb := one_blank hp
  have hb := hp.step (by decide)
  rw [← eb] at hb
  have l2 : Leads (y.step.put 3 (Lx.runesBytes l) 0 1 1) (y.step.put 3 (Lx.runesBytes l) 0 1 1).one := Leads.one hp ⟨by rw [eb]; rfl, fun _ => by rw [eb]; exact Nat.lt_succ_self _⟩ (.refl _)
  have hx := one_name_at (ds := []) (r := []) hb (by decide) (by decide) (by simp) (by decide) (by decide)
  have l3 := Leads.one hb ⟨hx.1, fun _ => hx.2.1⟩ (.refl _)
  have e := l1 _ (l2 _ (l3 _ (Ends.stop hx.2.2)))
  rw [tokens_of hsz e hx.2.2]
  have ex : Lx.runesBytes [120] = [120] := by decide +kernel
  simp [ex, hel]
  refine ⟨?_, ?_⟩ <;> omega
end Go.Proofs.YtoidmljhlekbkaaDoor
