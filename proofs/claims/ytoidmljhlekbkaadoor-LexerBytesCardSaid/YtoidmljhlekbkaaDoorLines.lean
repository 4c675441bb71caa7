/-
  LexerLines: the walk of the law.
-/
import Derived.Test.YtoidmljhlekbkaaDoorAlive
import Derived.Test.YtoidmljhlekbkaaDoorLinesP
import Derived.Laws.IdiomStrings
import Derived.Deep.OwnRows
namespace Go.Proofs.YtoidmljhlekbkaaDoor
open Go.RowKit
theorem lines_off (n b : Int) (w : World) (hT : Lib.Utf8Tabs 0 1 w) (h2 : 2 ≤ w.heap.size) (hn : n < 0 ∨ 8010 < n ∨ b < 0 ∨ 20 < b) :
    Calls Tryd.prog 7 #[.int .i64 n, .int .i64 b] w fun e w' => e = .returned (.bool true) ∧ Below w.heap.size w w' := by
  have h : n < 0 ∨ (¬ n < 0 ∧ 8010 < n) ∨ (¬ n < 0 ∧ ¬ 8010 < n ∧ b < 0) ∨ (¬ n < 0 ∧ ¬ 8010 < n ∧ ¬ b < 0 ∧ 20 < b) := by omega
  clear hn
  rcases h with c1 | ⟨c1, c2⟩ | ⟨c1, c2, c3⟩ | ⟨c1, c2, c3, c4⟩
  all_goals
    go_enter Tryd.func7, Tryd.ntmps7
    go_wp2_with fail
    refine (alive_any w hT h2).mono ?_
    rintro e w1 ⟨rfl, hb⟩
    go_wp2_with fail
    go_ret
    exact ⟨rfl, hb⟩
/-- What the loop over the bytes leaves: the ends of lines so far, the blanks so far. -/
def LinesRel (w0 : World) (g n m k : Nat) (wr : World) : Prop :=
  ∃ cs : Array Value, Whole wr g 5 cs ∧ cs.size = m ∧ (∀ i, i < k → cs[i]? = some (.int .u8 (if i < n then 10 else 32))) ∧ (Below w0.heap.size w0 wr)
theorem toksCells_len (l : List Lx.Tok) : (toksCells l).length = l.length * 5 := by
  induction l with
  | nil => rfl
  | cons a l ih =>
    have h5 : (tokCells a).length = 5 := rfl
    simp [toksCells] at *
    omega
theorem toksCells_at (l m : List Lx.Tok) (n k : Nat) (hn : l.length = n) : (toksCells (l ++ m))[n * 5 + k]? = (toksCells m)[k]? := by
  have e : toksCells (l ++ m) = toksCells l ++ toksCells m := by simp [toksCells]
  rw [e, List.getElem?_append_right (by rw [toksCells_len]; omega), toksCells_len, hn]
  congr 1
  omega
theorem lines_in (n b : Nat) (w : World) (hT : Lib.Utf8Tabs 0 1 w) (h2 : 2 ≤ w.heap.size) (h1 : n ≤ 8010) (hb20 : b ≤ 20) :
    Calls Tryd.prog 7 #[.int .i64 n, .int .i64 b] w fun e w' => e = .returned (.bool true) ∧ Below w.heap.size w w' := by
  have hmk := run_make_row' (P := Tryd.prog) 34 5 (.int .u8 0) 1 Tryd.underlying34 (by kernel_rfl) rfl .i64 .i64 (n + b) (by omega) (by omega)
  rw [Int.natCast_add] at hmk
  go_enter Tryd.func7, Tryd.ntmps7
  go_wp2_with fail
  refine (alive_any w hT h2).mono ?_
  rintro e w1 ⟨rfl, hb⟩
  go_wp2_with fail
  have hs1 := hb.size
  go_loopg [7] (n + b) (fun k v wr => ∃ i : Nat, v = .int .i64 i ∧ i + k = n + b ∧ LinesRel w w1.heap.size n (n + b) i wr)
  case atStart => exact ⟨0, rfl, by omega, _, Whole.made _ _ _, size_madeCells _ _, fun i hi => by omega, hb.alloc (by omega) _⟩
  case round =>
    obtain ⟨i, rfl, hk, cs, hw, hsz, hcs, hbel⟩ := hrel
    by_cases hi : i < n + b
    · have hi' : (i : Int) < n + b := by omega
      have f0 := hw.frozen i
      have c0 := hw.cell i
      by_cases hin : i < n
      · go_wp2_with fail
        go_roundg (n + b - (i + 1))
        case measure => omega
        case rel =>
          refine ⟨i + 1, by go_num, by omega, _, (hw.put i (.int .u8 32)).put i (.int .u8 10), by simp [hsz], ?_, (hbel.setCell (by show _ ≤ w1.heap.size; omega) _).setCell (by show _ ≤ w1.heap.size; omega) _⟩
          intro j hj
          by_cases hji : j = i
          · subst hji
            rw [Array.getElem?_setIfInBounds_self_of_lt (by simp [hsz]; omega), if_pos hin]
          · rw [Array.getElem?_setIfInBounds_ne (by omega), Array.getElem?_setIfInBounds_ne (by omega)]
            exact hcs j (by omega)
      · go_wp2_with fail
        go_roundg (n + b - (i + 1))
        case measure => omega
        case rel =>
          refine ⟨i + 1, by go_num, by omega, _, hw.put i (.int .u8 32), by simp [hsz], ?_, hbel.setCell (by show _ ≤ w1.heap.size; omega) _⟩
          intro j hj
          by_cases hji : j = i
          · subst hji
            rw [Array.getElem?_setIfInBounds_self_of_lt (by omega), if_neg hin]
          · rw [Array.getElem?_setIfInBounds_ne (by omega)]
            exact hcs j (by omega)
    · obtain rfl : i = n + b := by omega
      have hlen : (List.replicate n (10 : UInt8) ++ List.replicate b 32).length = n + b := by simp
      have cv : (convert 34 9 (.slice (some ⟨w1.heap.size, 0, none⟩) (n + b) (n + b))).run Tryd.prog wr = .ok (.string ⟨(List.replicate n (10 : UInt8) ++ List.replicate b 32).toArray⟩) wr := by
        have := run_convert_bytes_back (P := Tryd.prog) wr 34 9 5 ⟨w1.heap.size, 0, none⟩ (n + b) (List.replicate n (10 : UInt8) ++ List.replicate b 32) Tryd.underlying34 Tryd.underlying5 Tryd.underlying9 (fun j hj => by
          have hj' : j < n + b := by omega
          have ea : (⟨w1.heap.size, 0, none⟩ : Addr).add j = ⟨w1.heap.size, j, none⟩ := by unfold Addr.add; split <;> simp_all
          rw [ea, hw.cell, hcs j hj']
          by_cases c : j < n
          · rw [List.getElem_append_left (by simpa using c)]
            simp [c]
          · rw [List.getElem_append_right (by simpa using c)]
            simp [c])
        rw [hlen] at this
        exact this
      obtain ⟨S, hS⟩ : ∃ S : ByteArray, S = ⟨(Lx.runesBytes (linesRunes n b)).toArray⟩ := ⟨_, rfl⟩
      have eS : Hid ((⟨(List.replicate n (10 : UInt8) ++ List.replicate b 32).toArray⟩ : ByteArray) ++ ⟨#[120]⟩ = S) := by
        show _ ++ _ = _
        rw [hS, runes_low _ (lines_low n b)]
        have := bytes_app (List.replicate n (10 : UInt8) ++ List.replicate b 32) [120]
        refine this.trans ?_
        simp [linesRunes]
      have hsz2 : (⟨(List.replicate n (10 : UInt8) ++ List.replicate b 32).toArray⟩ : ByteArray).size = n + b := by show (List.toArray _).size = _; simp
      have hbs := hbel.size
      by_cases h8 : n ≤ 8000
      · have h8' : ¬ (8000 : Int) < n := by omega
        have T : Hid (Lx.tokens S = (lineToks 1 n ++ [⟨1, [120], 0, n + 1, b + 1⟩, ⟨6, [], 0, n + 1, b + 2⟩], 0, 0, 0)) := by rw [hS]; exact lines_few n b h8 hb20
        clear hS
        go_wp2_with fail
        rw [eS.out]
        refine (tokens_any S wr (tabs_below hT hbel h2) (by omega)).mono ?_
        rintro e w2 ⟨v, rfl, hown, hb2⟩
        rw [T.out] at hown ⊢
        obtain ⟨g, cap, rfl, hg1, hg2, hc⟩ := toks_form hown (by simp)
        have hl : (lineToks 1 n ++ [⟨1, [120], 0, (n : Int) + 1, (b : Int) + 1⟩, ⟨6, [], 0, (n : Int) + 1, (b : Int) + 2⟩] : List Lx.Tok).length = n + 2 := by simp [lineToks_len]
        have k1 := hc (n * 5 + 1) _ ((toksCells_at _ _ n 1 (lineToks_len n 1)).trans rfl)
        have k2 := hc (n * 5 + 3) _ ((toksCells_at _ _ n 3 (lineToks_len n 1)).trans rfl)
        have k3 := hc (n * 5 + 4) _ ((toksCells_at _ _ n 4 (lineToks_len n 1)).trans rfl)
        have k4 := hc (n * 5 + 5) _ ((toksCells_at _ _ n 5 (lineToks_len n 1)).trans rfl)
        have k5 := hc (n * 5 + 9) _ ((toksCells_at _ _ n 9 (lineToks_len n 1)).trans rfl)
        rw [show n * 5 + 5 = (n + 1) * 5 by omega] at k4
        rw [show n * 5 + 9 = (n + 1) * 5 + 4 by omega] at k5
        simp only [hl]
        go_wp2_with fail
        refine (num_any _ _).mono ?_
        rintro e w' ⟨rfl, rfl⟩
        go_wp2_with fail
        go_ret
        exact ⟨rfl, hbel.trans (hb2.mono (by omega))⟩
      · have h8' : (8000 : Int) < n := by omega
        have T : Hid (Lx.tokens S = ([], 8001, 1, 2)) := by rw [hS]; exact lines_many n b (by omega) h1 hb20
        clear hS
        go_wp2_with fail
        rw [eS.out]
        refine (tokens_any S wr (tabs_below hT hbel h2) (by omega)).mono ?_
        rintro e w2 ⟨v, rfl, hown, hb2⟩
        rw [T.out] at hown ⊢
        obtain ⟨a, cap, rfl⟩ := toks_len hown
        go_wp2_with fail
        refine (num_any _ _).mono ?_
        rintro e w' ⟨rfl, rfl⟩
        go_wp2_with fail
        go_ret
        exact ⟨rfl, hbel.trans (hb2.mono (by omega))⟩
theorem lines_any (n b : Int) (w : World) (hT : Lib.Utf8Tabs 0 1 w) (h2 : 2 ≤ w.heap.size) :
    Calls Tryd.prog 7 #[.int .i64 n, .int .i64 b] w fun e w' => e = .returned (.bool true) ∧ Below w.heap.size w w' := by
  by_cases h : n < 0 ∨ 8010 < n ∨ b < 0 ∨ 20 < b
  · exact lines_off n b w hT h2 h
  · obtain ⟨m, rfl⟩ := Int.eq_ofNat_of_zero_le (show 0 ≤ n by omega)
    obtain ⟨c, rfl⟩ := Int.eq_ofNat_of_zero_le (show 0 ≤ b by omega)
    exact lines_in m c w hT h2 (by omega) (by omega)
end Go.Proofs.YtoidmljhlekbkaaDoor
