/-
  Blanks, empty lines, notes and dots in the middle turn nothing. No program is named here.
-/
import Derived.Test.YtadcfedjmofjjaaDoorTextQ
namespace Go.Proofs.YtadcfedjmofjjaaDoor
namespace Tk
/-- "# words" and an end; three blanks and two ends. -/
def hash : List UInt8 := [35, 32, 119, 111, 114, 100, 115, 10]
def blanks : List UInt8 := [32, 32, 32, 10, 10]
/-- What is put ahead of a byte. -/
def pre (bg : Bool) (n : Int) (c : UInt8) : List UInt8 :=
  if bg = true ∧ n = 1 then hash else if bg = true ∧ n = 2 then blanks else if c = 32 ∧ n = 4 then [32, 32] else if c = 10 ∧ n = 5 then [32] else []
/-- The rest of a text with noise, from a byte on: what the noise is at k; is a line begun? -/
def noise (pick : Nat → Int) : List UInt8 → Nat → Bool → List UInt8
  | [], _, _ => []
  | c :: s, k, bg =>
    if bg = true ∧ pick k = 3 ∧ c = 32 then 194 :: 183 :: noise pick s (k + 1) false
    else pre bg (pick k) c ++ c :: noise pick s (if bg = true ∨ c = 32 ∨ c = 10 then k + 1 else k) (decide (c = 10))
/-- The same line with more blanks. -/
inductive Blur : List UInt8 → List UInt8 → Prop
  | nil : Blur [] []
  | last : Blur [] [32]
  | same (c : UInt8) {l l' : List UInt8} : Blur l l' → Blur (c :: l) (c :: l')
  | more {l l' : List UInt8} : Blur l l' → Blur (32 :: l) (32 :: 32 :: 32 :: l')
theorem Blur.words {l l' : List UInt8} (h : Blur l l') : ∀ cur, wordsGo l' cur = wordsGo l cur := by
  induction h with
  | nil => intro _; rfl
  | last => intro cur; by_cases q : cur = [] <;> simp [q, wordsGo]
  | same c _ ih => intro cur; rw [wordsGo, wordsGo]; by_cases q : c = 32 <;> simp [q, ih]
  | more _ ih =>
    intro cur
    rw [wordsGo, if_pos rfl, wordsGo, if_pos rfl, if_pos rfl, wordsGo, if_pos rfl, if_pos rfl, ih, wordsGo, if_pos rfl]
theorem noise_mid (pick : Nat → Int) (R : List UInt8) (l : List UInt8) (hl : ∀ b ∈ l, b ≠ 10) : ∀ k, ∃ l' k', noise pick (l ++ 10 :: R) k false = l' ++ 10 :: noise pick R k' true ∧ Blur l l' ∧ ∀ b ∈ l', b ≠ 10 := by
  induction l with
  | nil =>
    intro k
    rw [List.nil_append, noise, if_neg (by simp), if_pos (by simp), show decide ((10 : UInt8) = 10) = true from rfl]
    unfold pre
    rw [if_neg (by simp), if_neg (by simp), if_neg (by simp)]
    by_cases q : pick k = 5
    · rw [if_pos ⟨rfl, q⟩]
      exact ⟨[32], _, rfl, .last, by decide⟩
    · rw [if_neg fun p => q p.2]
      exact ⟨[], _, rfl, .nil, by simp⟩
  | cons c l ih =>
    intro k
    have hc := hl c (.head _)
    rw [List.cons_append, noise, if_neg (by simp), show decide (c = 10) = false from decide_eq_false hc]
    obtain ⟨l', k', e, hb, ht⟩ := ih (fun b hb => hl b (.tail _ hb)) (if false = true ∨ c = 32 ∨ c = 10 then k + 1 else k)
    rw [e]
    unfold pre
    rw [if_neg (by simp), if_neg (by simp)]
    by_cases q : c = 32 ∧ pick k = 4
    · rw [if_pos q]
      obtain ⟨rfl, _⟩ := q
      refine ⟨32 :: 32 :: 32 :: l', k', rfl, .more hb, ?_⟩
      intro b hb
      rcases List.mem_cons.1 hb with rfl | hb
      · decide
      rcases List.mem_cons.1 hb with rfl | hb
      · decide
      rcases List.mem_cons.1 hb with rfl | hb
      · decide
      exact ht b hb
    · rw [if_neg q, if_neg fun p => hc p.1]
      refine ⟨c :: l', k', rfl, .same c hb, ?_⟩
      intro b hb
      rcases List.mem_cons.1 hb with rfl | hb
      · exact hc
      exact ht b hb
/-- A line that reads as another one. -/
def Reads1 (l l' : List UInt8) : Prop := ∀ t h, line t h l' = line t h l
theorem good_ne {l : List UInt8} (h : Good l) : l ≠ [] := by
  rintro rfl
  obtain ⟨w, ws, e, _⟩ := h.words
  cases e
theorem reads_of {l l' : List UInt8} (h : Good l) (hw : words l' = words l) (hi : inner l' = inner l) : Reads1 l l' := by
  intro t hd
  obtain ⟨w, ws, e, hh⟩ := h.words
  unfold line
  rw [hw, e, hi]
  show (if w.head? = some 35 ∧ dotted l' = false then _ else _) = (if w.head? = some 35 ∧ dotted l = false then _ else _)
  rw [if_neg fun q => hh q.1, if_neg fun q => hh q.1]
theorem dotted_two {l : List UInt8} : dotted l = true ↔ ∃ r, l = 194 :: 183 :: r := by
  unfold dotted
  rw [decide_eq_true_eq]
  constructor
  · intro h
    rcases l with _ | ⟨a, _ | ⟨b, r⟩⟩
    · cases h
    · simp at h
    · simp at h
      obtain ⟨rfl, rfl⟩ := h
      exact ⟨r, rfl⟩
  · rintro ⟨r, rfl⟩
    rfl
theorem blur_dot {c : UInt8} {l l' : List UInt8} (h : dotted (c :: l) = false) (hb : Blur l l') : dotted (c :: l') = false := by
  by_cases q : dotted (c :: l') = true
  · obtain ⟨r, e⟩ := dotted_two.1 q
    injection e with e1 e2
    subst e1
    subst e2
    cases hb with
    | same _ hb => exact absurd (dotted_two.2 ⟨_, rfl⟩) (by rw [h]; decide)
  · simpa using q
theorem noise_line (pick : Nat → Int) (R : List UInt8) {l : List UInt8} (hg : Good l) (k : Nat) : ∃ L' k', noise pick (l ++ 10 :: R) k true = unlines L' ++ noise pick R k' true ∧ (∀ l' ∈ L', ∀ b ∈ l', b ≠ 10) ∧
    ∀ i t h, line t h l ≠ none → linesRun L' i t h = linesRun [l] i t h := by
  rcases l with _ | ⟨c, l⟩
  · exact absurd rfl (good_ne hg)
  have hc := hg.ten c (.head _)
  obtain ⟨w, ws, ew, hh⟩ := hg.words
  have hww : Tk.words (c :: l) = wordsGo (c :: l) [] := by unfold Tk.words; rw [hg.dot]; rfl
  by_cases q : pick k = 3 ∧ c = 32
  · obtain ⟨q1, rfl⟩ := q
    obtain ⟨l', k', e, hb, ht⟩ := noise_mid pick R l (fun b hb => hg.ten b (.tail _ hb)) (k + 1)
    have hr : Reads1 (32 :: l) (194 :: 183 :: l') := by
      refine reads_of hg ?_ ?_
      · rw [hww]
        show wordsGo l' [] = _
        rw [hb.words, wordsGo, if_pos rfl, if_pos rfl]
      · unfold inner
        rw [hg.dot]
        rfl
    refine ⟨[194 :: 183 :: l'], k', ?_, ?_, ?_⟩
    · rw [List.cons_append, noise, if_pos ⟨rfl, q1, rfl⟩, e]
      simp [unlines]
    · intro l'' hl b hb
      rw [List.mem_singleton.1 hl] at hb
      rcases List.mem_cons.1 hb with rfl | hb
      · decide
      rcases List.mem_cons.1 hb with rfl | hb
      · decide
      exact ht b hb
    · intro i t h _
      rw [linesRun, linesRun, hr]
  · rw [List.cons_append, noise, if_neg (fun p => q p.2), if_pos (by simp), show decide (c = 10) = false from decide_eq_false hc]
    obtain ⟨l', k', e, hb, ht⟩ := noise_mid pick R l (fun b hb => hg.ten b (.tail _ hb)) (k + 1)
    rw [e]
    have hr : Reads1 (c :: l) (c :: l') := by
      have hd := blur_dot hg.dot hb
      refine reads_of hg ?_ ?_
      · rw [hww]
        unfold Tk.words
        rw [hd]
        exact Blur.words (.same c hb) []
      · unfold inner
        rw [hg.dot, hd]
        rfl
    have htc : ∀ b ∈ c :: l', b ≠ 10 := by
      intro b hb
      rcases List.mem_cons.1 hb with rfl | hb
      · exact hc
      exact ht b hb
    unfold pre
    by_cases q1 : pick k = 1
    · rw [if_pos ⟨rfl, q1⟩]
      refine ⟨[[35, 32, 119, 111, 114, 100, 115], c :: l'], k', by simp [unlines, hash], ?_, ?_⟩
      · intro l'' hl
        rcases List.mem_cons.1 hl with rfl | hl
        · decide
        rw [List.mem_singleton.1 hl]
        exact htc
      · intro i t h hn
        rw [linesRun, show line t h [35, 32, 119, 111, 114, 100, 115] = some (t, h) from rfl]
        show linesRun [c :: l'] (i + 1) t h = _
        rw [linesRun, linesRun, hr]
        rcases hx : line t h (c :: l) with _ | ⟨t', h'⟩
        · exact absurd hx hn
        · rfl
    rw [if_neg fun p => q1 p.2]
    by_cases q2 : pick k = 2
    · rw [if_pos ⟨rfl, q2⟩]
      refine ⟨[[32, 32, 32], [], c :: l'], k', by simp [unlines, blanks], ?_, ?_⟩
      · intro l'' hl
        rcases List.mem_cons.1 hl with rfl | hl
        · decide
        rcases List.mem_cons.1 hl with rfl | hl
        · decide
        rw [List.mem_singleton.1 hl]
        exact htc
      · intro i t h hn
        rw [linesRun, show line t h [32, 32, 32] = some (t, h) from rfl]
        show linesRun [[], c :: l'] (i + 1) t h = _
        rw [linesRun, show line t h [] = some (t, h) from rfl]
        show linesRun [c :: l'] (i + 1 + 1) t h = _
        rw [linesRun, linesRun, hr]
        rcases hx : line t h (c :: l) with _ | ⟨t', h'⟩
        · exact absurd hx hn
        · rfl
    rw [if_neg fun p => q2 p.2]
    by_cases q4 : c = 32 ∧ pick k = 4
    · rw [if_pos q4]
      obtain ⟨rfl, _⟩ := q4
      have hr3 : Reads1 (32 :: l) (32 :: 32 :: 32 :: l') := by
        refine reads_of hg ?_ ?_
        · rw [hww]
          exact Blur.words (.more hb) []
        · rfl
      refine ⟨[32 :: 32 :: 32 :: l'], k', by simp [unlines], ?_, ?_⟩
      · intro l'' hl b hb
        rw [List.mem_singleton.1 hl] at hb
        rcases List.mem_cons.1 hb with rfl | hb
        · decide
        rcases List.mem_cons.1 hb with rfl | hb
        · decide
        exact htc b hb
      · intro i t h _
        rw [linesRun, linesRun, hr3]
    · rw [if_neg q4, if_neg fun p => hc p.1]
      refine ⟨[c :: l'], k', by simp [unlines], ?_, ?_⟩
      · intro l'' hl
        rw [List.mem_singleton.1 hl]
        exact htc
      · intro i t h _
        rw [linesRun, linesRun, hr]
theorem linesRun_shift {L : List (List UInt8)} : ∀ {i j t h r}, linesRun L i t h = .inl r → linesRun L j t h = .inl r := by
  induction L with
  | nil => intro i j t h r e; exact e
  | cons l L ih =>
    intro i j t h r e
    rw [linesRun] at e ⊢
    rcases hl : line t h l with _ | ⟨t', h'⟩
    · rw [hl] at e; cases e
    · rw [hl] at e
      exact ih e
theorem noise_lines (pick : Nat → Int) (L : List (List UInt8)) (hg : ∀ l ∈ L, Good l) : ∀ k, ∃ L', noise pick (unlines L) k true = unlines L' ∧ (∀ l' ∈ L', ∀ b ∈ l', b ≠ 10) ∧ ∀ i t h r, linesRun L i t h = .inl r → linesRun L' i t h = .inl r := by
  induction L with
  | nil => intro k; exact ⟨[], rfl, by simp, fun _ _ _ _ e => e⟩
  | cons l L ih =>
    intro k
    obtain ⟨L1, k1, e1, t1, r1⟩ := noise_line pick (unlines L) (hg l (.head _)) k
    obtain ⟨L2, e2, t2, r2⟩ := ih (fun m hm => hg m (.tail _ hm)) k1
    refine ⟨L1 ++ L2, ?_, ?_, ?_⟩
    · rw [show unlines (l :: L) = l ++ 10 :: unlines L by simp [unlines], e1, e2]
      simp [unlines]
    · intro l' hl
      rcases List.mem_append.1 hl with hl | hl
      · exact t1 l' hl
      · exact t2 l' hl
    · intro i t h r e
      rw [linesRun] at e
      rcases hl : line t h l with _ | ⟨t', h'⟩
      · rw [hl] at e; cases e
      rw [hl] at e
      have e3 : linesRun L1 i t h = .inl (t', h') := by
        rw [r1 i t h (by rw [hl]; simp), linesRun, hl]
        rfl
      rw [linesRun_append _ _ _ _ _ _ _ e3]
      exact linesRun_shift (r2 (i + 1) t' h' r e)
theorem parse_noise {t : Table} (ht : t.fits = true) (pick : Nat → Int) (k : Nat) : parse (noise pick (text t) k true) = (t, 0, 0) := by
  have h := fits_reads ht
  obtain ⟨L', e, ht', hr⟩ := noise_lines pick (textLines t) (textLines_good h) k
  apply parse_lines ht
  unfold text
  rw [if_pos ht, e, lines_unlines _ ht']
  exact hr _ _ _ _ (textLines_run h)
end Tk
end Go.Proofs.YtadcfedjmofjjaaDoor
