/-
  A table's text, and that it is read again. No program is named here.
-/
import Derived.Test.YtadcfedjmofjjaaDoorSpec
namespace Go.Proofs.YtadcfedjmofjjaaDoor
namespace Tk
/-- A number's digits. -/
def digits (n : Nat) : List UInt8 := if n ≤ 9 then [UInt8.ofNat (48 + n)] else digits (n / 10) ++ [UInt8.ofNat (48 + n % 10)]
def numStr (n : Int) : List UInt8 := if n < 0 then 45 :: digits (-n).toNat else digits n.toNat
def numbers (l : List Int) : List UInt8 := l.flatMap fun n => 32 :: numStr n
def opArgs (o : Op) : List Int := [o.a, o.b].take ((names.getD o.kind.toNat ([], 0)).2)
def opLine (o : Op) : List UInt8 := 32 :: (names.getD o.kind.toNat ([], 0)).1 ++ numbers (opArgs o)
def taskLines (x : Task) : List (List UInt8) := ([116, 97, 115, 107] ++ numbers [x.prio]) :: x.ops.map opLine
def textLines (t : Table) : List (List UInt8) :=
  ([115, 101, 109, 115] ++ numbers t.sems) :: ([109, 117, 116, 101, 120, 101, 115] ++ numbers [t.mutexes]) :: ([113, 117, 101, 117, 101, 115] ++ numbers t.queues) :: t.tasks.flatMap taskLines
def unlines (L : List (List UInt8)) : List UInt8 := L.flatMap (· ++ [10])
def text (t : Table) : List UInt8 := if t.fits then unlines (textLines t) else []
/-! Numbers. -/
theorem digits_small {n : Nat} (h : n ≤ 9) : digits n = [UInt8.ofNat (48 + n)] := by rw [digits, if_pos h]
theorem digits_great {n : Nat} (h : 9 < n) : digits n = digits (n / 10) ++ [UInt8.ofNat (48 + n % 10)] := by rw [digits, if_neg (by omega)]
theorem digit_nat {d : Nat} (h : d ≤ 9) : (UInt8.ofNat (48 + d)).toNat = 48 + d := by simp; omega
theorem value_snoc (l : List UInt8) (b : UInt8) : value (l ++ [b]) = 10 * value l + (b.toNat - 48 : Int) := by
  unfold value
  rw [List.foldl_append]
  rfl
theorem digits_law (n : Nat) : digits n ≠ [] ∧ (digits n).all isDigit = true ∧ value (digits n) = n ∧ (n ≠ 0 → (digits n).head? ≠ some 48) ∧ ∀ k, n < 10 ^ (k + 1) → (digits n).length ≤ k + 1 := by
  induction n using Nat.strongRecOn with
  | _ n ih =>
    by_cases h : n ≤ 9
    · rw [digits_small h]
      have hd := digit_nat h
      refine ⟨by simp, ?_, ?_, ?_, fun k _ => by simp⟩
      · simp only [List.all_cons, List.all_nil, Bool.and_true, isDigit, decide_eq_true_eq]
        omega
      · unfold value
        simp only [List.foldl_cons, List.foldl_nil]
        omega
      · intro h0 hc
        injection hc with hc
        have := congrArg UInt8.toNat hc
        rw [hd] at this
        simp at this
        omega
    · rw [digits_great (by omega)]
      obtain ⟨h1, h2, h3, h4, h5⟩ := ih (n / 10) (by omega)
      have hd := digit_nat (d := n % 10) (by omega)
      refine ⟨by simp, ?_, ?_, ?_, ?_⟩
      · rw [List.all_append, h2]
        simp only [List.all_cons, List.all_nil, Bool.and_true, Bool.true_and, isDigit, decide_eq_true_eq]
        omega
      · rw [value_snoc, h3, hd]
        omega
      · intro _
        have h6 := h4 (by omega)
        rcases hq : digits (n / 10) with _ | ⟨a, l⟩
        · exact absurd hq h1
        · rw [hq] at h6
          exact h6
      · intro k hk
        rcases k with _ | k
        · simp at hk
          omega
        · have := h5 k (by rw [Nat.pow_succ] at hk; omega)
          simp
          omega
theorem digits_solid (n : Nat) : ∀ b ∈ digits n, b ≠ 32 ∧ b ≠ 10 := by
  intro b hb
  have h := List.all_eq_true.1 (digits_law n).2.1 b hb
  unfold isDigit at h
  have h := of_decide_eq_true h
  constructor <;> rintro rfl <;> simp at h
theorem numStr_solid (n : Int) : ∀ b ∈ numStr n, b ≠ 32 ∧ b ≠ 10 := by
  intro b hb
  unfold numStr at hb
  split at hb
  · rcases List.mem_cons.1 hb with rfl | hb
    · decide
    · exact digits_solid _ b hb
  · exact digits_solid _ b hb
theorem numStr_ne (n : Int) : numStr n ≠ [] := by
  unfold numStr
  split
  · simp
  · exact (digits_law _).1
theorem num_numStr {n : Int} (h1 : -1 ≤ n) (h2 : n ≤ 9999) : num (numStr n) = some n := by
  by_cases h : n < 0
  · obtain rfl : n = -1 := by omega
    have e : numStr (-1) = [45, 49] := by
      unfold numStr
      rw [if_pos (by decide)]
      show 45 :: digits 1 = _
      rw [digits_small (by decide)]
      rfl
    rw [e]
    rfl
  · obtain ⟨q1, q2, q3, q4, q5⟩ := digits_law n.toNat
    unfold numStr
    rw [if_neg h]
    unfold num
    have hm : digits n.toNat ≠ [45, 49] := by
      intro e
      rw [e] at q2
      exact absurd q2 (by decide)
    rw [if_neg hm, if_pos]
    · rw [q3]
      congr 1
      omega
    · refine ⟨fun e => q1 (List.length_eq_zero_iff.1 e), q5 3 (by omega), ?_, q2⟩
      by_cases h0 : n.toNat = 0
      · right
        rw [h0, digits_small (by decide)]
        rfl
      · exact .inl (q4 h0)
theorem nums_numStr (l : List Int) (h : ∀ n ∈ l, -1 ≤ n ∧ n ≤ 9999) : nums (l.map numStr) = some l := by
  induction l with
  | nil => rfl
  | cons n l ih =>
    rw [List.map_cons, nums, num_numStr (h n (.head _)).1 (h n (.head _)).2, ih fun m hm => h m (.tail _ hm)]
/-! Words. -/
theorem wordsGo_solid (u t : List UInt8) (hu : ∀ b ∈ u, b ≠ 32) : ∀ cur, wordsGo (u ++ t) cur = wordsGo t (cur ++ u) := by
  induction u with
  | nil => intro cur; simp
  | cons b u ih =>
    intro cur
    rw [List.cons_append, wordsGo, if_neg (hu b (.head _)), ih fun c hc => hu c (.tail _ hc)]
    simp
theorem wordsGo_numbers (l : List Int) : ∀ cur, cur ≠ [] → wordsGo (numbers l) cur = cur :: l.map numStr := by
  induction l with
  | nil => intro cur h; rw [show numbers [] = [] from rfl, wordsGo, if_neg h]; rfl
  | cons n l ih =>
    intro cur h
    rw [show numbers (n :: l) = 32 :: (numStr n ++ numbers l) from rfl, wordsGo, if_pos rfl, if_neg h, wordsGo_solid _ _ fun b hb => (numStr_solid n b hb).1, List.nil_append, ih _ (numStr_ne n)]
    rfl
theorem words_of (w : List UInt8) (l : List Int) (hw : ∀ b ∈ w, b ≠ 32) (hn : w ≠ []) (hd : dotted (w ++ numbers l) = false) : words (w ++ numbers l) = w :: l.map numStr := by
  unfold words
  rw [hd, if_neg (by decide), wordsGo_solid _ _ hw, List.nil_append, wordsGo_numbers _ _ hn]
theorem words_in (w : List UInt8) (l : List Int) (hw : ∀ b ∈ w, b ≠ 32) (hn : w ≠ []) : dotted (32 :: (w ++ numbers l)) = false ∧ inner (32 :: (w ++ numbers l)) = true ∧ words (32 :: (w ++ numbers l)) = w :: l.map numStr := by
  have hd : dotted (32 :: (w ++ numbers l)) = false := by
    unfold dotted
    rw [List.take_succ_cons, decide_eq_false_iff_not]
    intro h
    injection h with h
    exact absurd h (by decide)
  refine ⟨hd, by unfold inner; rw [hd]; rfl, ?_⟩
  unfold words
  rw [hd, if_neg (by decide), wordsGo, if_pos rfl, if_pos rfl, wordsGo_solid _ _ hw, List.nil_append, wordsGo_numbers _ _ hn]
theorem numbers_ten (l : List Int) : ∀ b ∈ numbers l, b ≠ 10 := by
  intro b hb
  obtain ⟨n, _, hb⟩ := List.mem_flatMap.1 hb
  rcases List.mem_cons.1 hb with rfl | hb
  · decide
  · exact (numStr_solid n b hb).2
/-! Lines. -/
theorem linesGo_solid (l R : List UInt8) (h : ∀ b ∈ l, b ≠ 10) : ∀ cur, linesGo (l ++ 10 :: R) cur = (cur ++ l) :: linesGo R [] := by
  induction l with
  | nil => intro cur; rw [List.nil_append, linesGo, if_pos rfl, List.append_nil]
  | cons b l ih =>
    intro cur
    rw [List.cons_append, linesGo, if_neg (h b (.head _)), ih fun c hc => h c (.tail _ hc)]
    simp
theorem lines_unlines (L : List (List UInt8)) (h : ∀ l ∈ L, ∀ b ∈ l, b ≠ 10) : lines (unlines L) = L := by
  unfold lines
  induction L with
  | nil => rfl
  | cons l L ih =>
    rw [show unlines (l :: L) = l ++ 10 :: unlines L by simp [unlines], linesGo_solid _ _ (h l (.head _)), ih fun m hm => h m (.tail _ hm)]
    rfl
theorem linesRun_append (L M : List (List UInt8)) : ∀ i t h t1 h1, linesRun L i t h = .inl (t1, h1) → linesRun (L ++ M) i t h = linesRun M (i + L.length) t1 h1 := by
  induction L with
  | nil => intro i t h t1 h1 e; injection e with e; injection e with e1 e2; subst e1; subst e2; rfl
  | cons l L ih =>
    intro i t h t1 h1 e
    rw [linesRun] at e
    rw [List.cons_append, linesRun]
    rcases hl : line t h l with _ | ⟨t', h'⟩
    · rw [hl] at e; cases e
    · rw [hl] at e
      show linesRun (L ++ M) (i + 1) t' h' = _
      rw [ih _ _ _ _ _ e, List.length_cons]
      congr 1
      omega
end Tk
end Go.Proofs.YtadcfedjmofjjaaDoor
