/-
  The words of a line, told rune by rune: the plain law under the walk. No program is named here.
-/
import Derived.Test.YtadcfedjmofjjaaDoorDec
namespace Go.Proofs.YtadcfedjmofjjaaDoor
/-- Behind so many bytes of a line: the words that are done, and where the word under way began. -/
def WState (l : List UInt8) (pos : Nat) (ws : List (List UInt8)) (fr : Int) : Prop :=
  ws.length ≤ pos ∧ ((pos = 0 ∧ ws = [] ∧ fr = -1) ∨ (0 < pos ∧ ((fr = -1 ∧ ws ++ Tk.wordsGo (l.drop pos) [] = Tk.words l) ∨ ∃ f : Nat, fr = f ∧ f < pos ∧ ws ++ Tk.wordsGo (l.drop pos) ((l.take pos).drop f) = Tk.words l)))
section
variable {l : List UInt8} {pos c wd : Nat} {ws : List (List UInt8)}
theorem RuneAt.chunk (_ : RuneAt l pos c wd) : l.drop pos = (l.drop pos).take wd ++ l.drop (pos + wd) ∧ l.take (pos + wd) = l.take pos ++ (l.drop pos).take wd := by
  refine ⟨?_, List.take_add⟩
  rw [← List.drop_drop, List.take_append_drop]
theorem RuneAt.solid (h : RuneAt l pos c wd) (hc : c ≠ 32) : ∀ b ∈ (l.drop pos).take wd, b ≠ 32 := by
  intro b hb he
  subst he
  rcases h.form with ⟨a, e, g⟩ | ⟨a, g⟩
  · subst e
    have h2 := h.le
    have : (l.drop pos).take 1 = [UInt8.ofNat c] := by
      rw [List.drop_eq_getElem_cons (by omega), List.take_succ_cons, List.take_zero]
      rw [List.getElem?_eq_getElem (by omega)] at g
      injection g with g
      rw [g]
    rw [this] at hb
    have hb' := congrArg UInt8.toNat (List.mem_singleton.1 hb)
    simp at hb'
    omega
  · have := g _ hb
    simp at this
theorem RuneAt.space (h : RuneAt l pos 32 wd) : wd = 1 ∧ l.drop pos = 32 :: l.drop (pos + 1) := by
  rcases h.form with ⟨a, e, g⟩ | ⟨a, g⟩
  · have h2 := h.le
    refine ⟨e, ?_⟩
    rw [List.drop_eq_getElem_cons (by omega)]
    rw [List.getElem?_eq_getElem (by omega)] at g
    injection g with g
    rw [g]
    rfl
  · omega
theorem RuneAt.flags (h : RuneAt l 0 c wd) : Tk.dotted l = decide (c = 183) ∧ Tk.inner l = (decide (c = 183) || decide (c = 32)) := by
  have h1 := h.dot
  rw [List.drop_zero] at h1
  have hd : Tk.dotted l = decide (c = 183) := by unfold Tk.dotted; exact decide_eq_decide.2 h1.symm
  refine ⟨hd, ?_⟩
  unfold Tk.inner
  rw [hd]
  congr 1
  rw [decide_eq_decide, List.head?_eq_getElem?]
  rcases h.form with ⟨a, e, g⟩ | ⟨a, g⟩
  · rw [g]
    constructor
    · intro h3
      injection h3 with h3
      have := congrArg UInt8.toNat h3
      simp at this
      omega
    · rintro rfl
      rfl
  · have h2 := h.le
    have h4 := h.pos_
    constructor
    · intro h3
      have := g 32 (by
        rw [List.drop_zero]
        refine List.mem_iff_getElem?.2 ⟨0, ?_⟩
        rw [List.getElem?_take, if_pos (by omega)]
        exact h3)
      simp at this
    · omega
theorem wstate_blank_open {f : Nat} (h : WState l pos ws f) (r : RuneAt l pos 32 wd) : wd = 1 ∧ f < pos ∧ WState l (pos + 1) (ws ++ [(l.take pos).drop f]) (-1) := by
  obtain ⟨e, r2⟩ := r.space
  have h2 := r.le
  obtain ⟨hl, h | h⟩ := h
  · omega
  obtain ⟨hp, h | ⟨f', e', hf, h⟩⟩ := h
  · omega
  obtain rfl : f = f' := by omega
  refine ⟨e, hf, by rw [List.length_append, List.length_singleton]; omega, .inr ⟨by omega, .inl ⟨rfl, ?_⟩⟩⟩
  rw [r2, wordsGo_blank, if_neg] at h
  · rw [← h, List.append_assoc]
    rfl
  · intro h0
    have := congrArg List.length h0
    rw [List.length_drop, List.length_take, List.length_nil] at this
    omega
theorem wstate_blank_shut (h : WState l pos ws (-1)) (r : RuneAt l pos c wd) (hb : c = 32 ∨ (c = 183 ∧ pos = 0)) : WState l (pos + wd) ws (-1) := by
  have h1 := r.pos_
  obtain ⟨hl, h | ⟨hp, h⟩⟩ := h
  · obtain ⟨rfl, rfl, _⟩ := h
    refine ⟨Nat.zero_le _, .inr ⟨by omega, .inl ⟨rfl, ?_⟩⟩⟩
    have hd := r.flags.1
    rw [List.nil_append, Nat.zero_add]
    unfold Tk.words
    rcases hb with rfl | ⟨rfl, _⟩
    · obtain ⟨e, r2⟩ := r.space
      subst e
      rw [hd, if_neg (by decide)]
      rw [List.drop_zero] at r2
      conv => rhs; rw [r2]
      rw [wordsGo_blank, if_pos rfl]
    · obtain rfl := r.dotw rfl
      rw [hd, if_pos (by decide)]
  · obtain rfl : c = 32 := by
      rcases hb with h | h
      · exact h
      · have := h.2; omega
    obtain ⟨e, r2⟩ := r.space
    subst e
    rcases h with ⟨_, h⟩ | ⟨f, e, _⟩
    · refine ⟨by omega, .inr ⟨by omega, .inl ⟨rfl, ?_⟩⟩⟩
      rw [r2, wordsGo_blank, if_pos rfl] at h
      exact h
    · omega
theorem wstate_word_start (h : WState l pos ws (-1)) (r : RuneAt l pos c wd) (hb : ¬ (c = 32 ∨ (c = 183 ∧ pos = 0))) : WState l (pos + wd) ws pos := by
  have h1 := r.pos_
  have hs := r.solid (by omega)
  obtain ⟨c1, c2⟩ := r.chunk
  have key : ws ++ Tk.wordsGo (l.drop pos) [] = Tk.words l → WState l (pos + wd) ws pos ∨ pos + wd ≤ ws.length := by
    intro h
    rcases Nat.lt_or_ge ws.length (pos + wd) with h5 | h5
    · left
      refine ⟨by omega, .inr ⟨by omega, .inr ⟨pos, rfl, by omega, ?_⟩⟩⟩
      rw [c1, wordsGo_chunk _ _ _ hs, List.nil_append] at h
      have e0 : (l.take pos).drop pos = [] := List.drop_of_length_le (by rw [List.length_take]; omega)
      rw [c2, List.drop_append_of_le_length (by rw [List.length_take]; have := r.le; omega), e0, List.nil_append]
      exact h
    · exact .inr h5
  obtain ⟨hl, h | ⟨hp, h⟩⟩ := h
  · obtain ⟨rfl, rfl, _⟩ := h
    have hd := r.flags.1
    rcases key (by
      rw [List.nil_append, List.drop_zero]
      unfold Tk.words
      rw [hd, if_neg (by simp; omega)]) with h | h
    · exact h
    · simp at h; omega
  · rcases h with ⟨_, h⟩ | ⟨f, e, _⟩
    · rcases key h with h | h
      · exact h
      · omega
    · omega
theorem wstate_word_on {f : Nat} (h : WState l pos ws f) (r : RuneAt l pos c wd) (hb : c ≠ 32) : WState l (pos + wd) ws f := by
  have h1 := r.pos_
  have hs := r.solid hb
  obtain ⟨c1, c2⟩ := r.chunk
  obtain ⟨hl, h | ⟨hp, h⟩⟩ := h
  · omega
  · rcases h with ⟨e, _⟩ | ⟨f', e, hf, h⟩
    · omega
    · obtain rfl : f = f' := by omega
      refine ⟨by omega, .inr ⟨by omega, .inr ⟨f, rfl, by omega, ?_⟩⟩⟩
      rw [c1, wordsGo_chunk _ _ _ hs] at h
      rw [c2, List.drop_append_of_le_length (by rw [List.length_take]; have := r.le; omega)]
      exact h
theorem wstate_end_shut (h : WState l pos ws (-1)) (hp : l.length ≤ pos) : ws = Tk.words l := by
  obtain ⟨hl, h | ⟨hp0, h⟩⟩ := h
  · obtain ⟨rfl, rfl, _⟩ := h
    obtain rfl : l = [] := List.eq_nil_of_length_eq_zero (by omega)
    rfl
  · rcases h with ⟨_, h⟩ | ⟨f, e, _⟩
    · rw [List.drop_of_length_le hp, Tk.wordsGo, if_pos rfl, List.append_nil] at h
      exact h
    · omega
theorem wstate_end_open {f : Nat} (h : WState l pos ws f) (hp : l.length ≤ pos) (hp2 : pos ≤ l.length) : ws ++ [l.drop f] = Tk.words l ∧ f < l.length := by
  obtain ⟨hl, h | ⟨hp0, h⟩⟩ := h
  · omega
  · rcases h with ⟨e, _⟩ | ⟨f', e, hf, h⟩
    · omega
    · obtain rfl : f = f' := by omega
      rw [List.drop_of_length_le hp, List.take_of_length_le hp, Tk.wordsGo, if_neg] at h
      · exact ⟨h, by omega⟩
      · intro h0
        have := congrArg List.length h0
        rw [List.length_drop, List.length_nil] at this
        omega
/-- The word under way is never before the line. -/
theorem wstate_from {fr : Int} (h : WState l pos ws fr) : fr = -1 ∨ ∃ f : Nat, fr = f ∧ f < pos := by
  obtain ⟨hl, ⟨_, _, h⟩ | ⟨hp, ⟨h, _⟩ | ⟨f, h, hf, _⟩⟩⟩ := h
  · exact .inl h
  · exact .inl h
  · exact .inr ⟨f, h, hf⟩
end
end Go.Proofs.YtadcfedjmofjjaaDoor
