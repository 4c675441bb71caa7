/-
  LexerTokens: the walk of the law.
-/
import Derived.Test.YtoidmljhlekbkaaDoorR9
namespace Go.Proofs.YtoidmljhlekbkaaDoor
open Go.RowKit
theorem toks_cap {w : World} {B : Nat} {v : Value} {l : List Lx.Tok} (h : w.ownsRow B 28 5 v l.length (toksCells l)) (h0 : 0 < l.length) :
    ∃ g cap, v = .slice (some ⟨g, 0, none⟩) l.length cap ∧ B ≤ g ∧ g < w.heap.size := by
  obtain ⟨g, cap, hv, hb, hlt, _⟩ := toks_form h h0
  exact ⟨g, cap, hv, hb, hlt⟩
set_option maxRecDepth 100000 in
set_option maxHeartbeats 4000000 in
theorem toks_law_any (s o : ByteArray) (w : World) (hT : Lib.Utf8Tabs 0 1 w) (h2 : 2 ≤ w.heap.size) :
    Calls Tryd.prog 3 #[.string s, .string o] w fun e w' => e = .returned (.bool true) ∧ Below w.heap.size w w' := by
  by_cases hs : 70000 < s.size
  · have hs' : (70000 : Int) < s.size := by omega
    go_enter Tryd.func3, Tryd.ntmps3
    go_wp2_with fail
    refine (alive_any w hT h2).mono ?_
    rintro e w1 ⟨rfl, hb⟩
    go_wp2_with fail
    go_ret
    exact ⟨rfl, hb⟩
  have hs' : ¬ (70000 : Int) < s.size := by omega
  by_cases ho : 70000 < o.size
  · have ho' : (70000 : Int) < o.size := by omega
    go_enter Tryd.func3, Tryd.ntmps3
    go_wp2_with fail
    refine (alive_any w hT h2).mono ?_
    rintro e w1 ⟨rfl, hb⟩
    go_wp2_with fail
    go_ret
    exact ⟨rfl, hb⟩
  have ho' : ¬ (70000 : Int) < o.size := by omega
  go_enter Tryd.func3, Tryd.ntmps3
  go_wp2_with fail
  refine (alive_any w hT h2).mono ?_
  rintro e w1 ⟨rfl, hb⟩
  go_wp2_with fail
  refine (tokens_any s w1 (tabs_below hT hb h2) (by have := hb.size; omega)).mono ?_
  rintro e w2 ⟨v1, rfl, own1, hb1⟩
  have hb2 := hb.trans (hb1.mono hb.size)
  go_wp2_with fail
  refine (tokens_any o w2 (tabs_below hT hb2 h2) (by have := hb2.size; omega)).mono ?_
  rintro e w3 ⟨v2, rfl, own2, hb3⟩
  have hb4 := hb2.trans (hb3.mono hb2.size)
  generalize (Lx.tokens o).1 = os at *
  have hmx := toks_max own2
  have hz3 := hb4.size
  have hz2 := hb2.size
  have hz23 := hb3.size
  rcases Nat.eq_zero_or_pos os.length with h0 | h0
  · obtain ⟨a2, c2, rfl⟩ := toks_len own2
    rw [h0]
    go_wp2_with fail
    go_loopg [14] 0 (fun _ v wr => v = .int .i64 0 ∧ Below w2.heap.size w3 wr)
    case atStart => exact ⟨rfl, Below.refl _ _⟩
    case round =>
      obtain ⟨rfl, hbr⟩ := hrel
      go_wp2_with fail
      refine (rtokens_any s wr).mono ?_
      rintro e w5 ⟨v3, us, rfl, lk, own5, hb5⟩
      have hzr := hbr.size
      have own6 : w5.ownsRow w1.heap.size 28 5 v1 (Lx.tokens s).1.length (toksCells (Lx.tokens s).1) := by
        refine row_same own1 fun k hk => ?_
        have hlk := (own1.lt k hk).2
        rw [hb5.block k (by omega), hbr.block k hlk, hb3.block k hlk]
      go_wp2_with fail
      refine (num_any _ _).mono ?_
      rintro e w' ⟨rfl, ew⟩
      have ew' := ew.symm
      subst ew'
      go_wp2_with fail
      refine (same_any own6 own5 lk).mono ?_
      rintro e w6 ⟨rfl, hb6⟩
      go_wp2_with fail
      go_ret
      have hz5 := hb5.size
      exact ⟨rfl, (((hb4.trans (hbr.mono (by omega))).trans (hb5.mono (by omega))).trans (hb6.mono (by omega)))⟩
  · obtain ⟨g2, c2, rfl, hg0, hg2⟩ := toks_cap own2 h0
    obtain ⟨N, eN⟩ : ∃ N, N = os.length := ⟨_, rfl⟩
    rw [← eN] at hmx own2
    rw [← eN]
    have own3 : ∃ xs, w3.ownsRow w2.heap.size 28 5 (.slice (some ⟨g2, 0, none⟩) N c2) N xs := ⟨_, own2⟩
    clear own2 eN h0
    go_wp2_with fail
    go_loopg [14] N (fun k v wr => ∃ i : Nat, v = .int .i64 i ∧ i ≤ N ∧ (∃ xs, wr.ownsRow w2.heap.size 28 5 (.slice (some ⟨g2, 0, none⟩) N c2) N xs) ∧ Below w2.heap.size w3 wr ∧ N - i ≤ k)
    case atStart => exact ⟨0, rfl, Nat.zero_le _, own3, Below.refl _ _, by omega⟩
    case round =>
      obtain ⟨i, rfl, hi, ⟨xs, own4⟩, hbr, hk⟩ := hrel
      by_cases hlt : i < N
      · have hlt' : (i : Int) < N := by omega
        have hxl : xs.length = N * 5 := own4.1
        have cl : ∀ k, k < 5 → ∃ u, wr.cell? ⟨g2, i * 5 + k, none⟩ = some u := fun k hk5 => ⟨xs[i * 5 + k]'(by omega), by rw [own4.cellAt _ (by omega)]; exact List.getElem?_eq_getElem _⟩
        obtain ⟨y0, k0⟩ := cl 0 (by omega)
        obtain ⟨y1, k1⟩ := cl 1 (by omega)
        obtain ⟨y2, k2⟩ := cl 2 (by omega)
        obtain ⟨y3, k3⟩ := cl 3 (by omega)
        obtain ⟨y4, k4⟩ := cl 4 (by omega)
        have f0 := own4.frozenAt (i * 5)
        have f1 := own4.frozenAt (i * 5 + 1)
        have f2 := own4.frozenAt (i * 5 + 2)
        have f3 := own4.frozenAt (i * 5 + 3)
        have f4 := own4.frozenAt (i * 5 + 4)
        rw [Nat.add_zero] at k0
        clear cl
        go_wp2_with fail
        go_roundg (N - (i + 1))
        case measure => omega
        case rel =>
          exact ⟨i + 1, by first | rfl | (congr 1), by omega, ⟨_, ((((((((own4.stored _ _).1).stored _ _).1).stored _ _).1).stored _ _).1.stored _ _).1⟩, ((((hbr.setCell hg0 _).setCell hg0 _).setCell hg0 _).setCell hg0 _).setCell hg0 _, Nat.le_refl _⟩
      · have hge : ¬ (i : Int) < N := by omega
        clear own4
        go_wp2_with fail
        refine (rtokens_any s wr).mono ?_
        rintro e w5 ⟨v3, us, rfl, lk, own5, hb5⟩
        have hzr := hbr.size
        have own6 : w5.ownsRow w1.heap.size 28 5 v1 (Lx.tokens s).1.length (toksCells (Lx.tokens s).1) := by
          refine row_same own1 fun k hk => ?_
          have hlk := (own1.lt k hk).2
          rw [hb5.block k (by omega), hbr.block k hlk, hb3.block k hlk]
        go_wp2_with fail
        refine (num_any _ _).mono ?_
        rintro e w' ⟨rfl, ew⟩
        have ew' := ew.symm
        subst ew'
        go_wp2_with fail
        refine (same_any own6 own5 lk).mono ?_
        rintro e w6 ⟨rfl, hb6⟩
        go_wp2_with fail
        go_ret
        have hz5 := hb5.size
        exact ⟨rfl, (((hb4.trans (hbr.mono (by omega))).trans (hb5.mono (by omega))).trans (hb6.mono (by omega)))⟩
end Go.Proofs.YtoidmljhlekbkaaDoor
