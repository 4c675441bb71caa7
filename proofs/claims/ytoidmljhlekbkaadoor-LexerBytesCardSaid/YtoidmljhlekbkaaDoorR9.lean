/-
  Are two lists of tokens one? The law's own loop, and LexerTokens.
-/
import Derived.Test.YtoidmljhlekbkaaDoorR8
import Derived.Test.YtoidmljhlekbkaaDoorLines
import Derived.Laws.OwnMore
namespace Go.Proofs.YtoidmljhlekbkaaDoor
open Go.RowKit
theorem toksCells_get (l : List Lx.Tok) (i : Nat) (h : i < l.length) : ∃ m, ∀ k, (toksCells l)[i * 5 + k]? = (toksCells (l[i] :: m))[k]? := by
  refine ⟨l.drop (i + 1), fun k => ?_⟩
  have := toksCells_at (l.take i) (l.drop i) i k (by simp; omega)
  rw [List.take_append_drop] at this
  rw [this, List.drop_eq_getElem_cons h]
theorem rtokens_any (s : ByteArray) (w : World) : Calls Tryd.prog 11 #[.string s] w (RAns s w) := by
  by_cases hs : 65536 < s.size
  · exact rtokens_long s w hs
  · exact rtokens_short s w (by omega)
theorem toks_max {w : World} {B : Nat} {v : Value} {l : List Lx.Tok} (h : w.ownsRow B 28 5 v l.length (toksCells l)) : l.length ≤ 9223372036854775807 := by
  rcases h.2 with ⟨_, h0⟩ | ⟨g, cap, cur, _, _, _, hnc, hcm, _⟩
  · omega
  · unfold maxLen at hcm
    omega
set_option maxRecDepth 100000 in
set_option maxHeartbeats 4000000 in
theorem same_any {w : World} {B1 B2 : Nat} {v1 v2 : Value} {ts us : List Lx.Tok} (h1 : w.ownsRow B1 28 5 v1 ts.length (toksCells ts)) (h2 : w.ownsRow B2 28 5 v2 us.length (toksCells us)) (hl : Like ts us) :
    Calls Tryd.prog 13 #[v1, v2] w fun e w' => e = .returned (.bool true) ∧ Below w.heap.size w w' := by
  have hlen := hl.length
  have hn := toks_max h1
  rcases Nat.eq_zero_or_pos ts.length with h0 | h0
  · obtain ⟨a1, c1, rfl⟩ := toks_len h1
    obtain ⟨a2, c2, rfl⟩ := toks_len h2
    rw [← hlen, h0]
    go_enter Tryd.func13, Tryd.ntmps13
    go_wp2_with fail
    go_loop [5] (fun v => v = .int .i64 0) (fun _ => 0)
    case atStart => rfl
    case round =>
      obtain rfl := hrel
      go_wp2_with fail
      go_ret
      exact ⟨rfl, Below.refl _ _⟩
  · obtain ⟨g1, c1, rfl, _, hg1, hc1⟩ := toks_form h1 h0
    obtain ⟨g2, c2, rfl, _, hg2, hc2⟩ := toks_form h2 (by omega)
    rw [← hlen]
    obtain ⟨N, eN⟩ : ∃ N, N = ts.length := ⟨_, rfl⟩
    rw [← eN] at hn
    rw [← eN]
    replace eN := Lib.hid eN
    replace hlen := Lib.hid hlen
    clear h0 h1 h2
    go_enter Tryd.func13, Tryd.ntmps13
    go_wp2_with fail
    go_loopg [5] N (fun k v wr => ∃ i : Nat, v = .int .i64 i ∧ i ≤ N ∧ Below w.heap.size w wr ∧ N - i ≤ k)
    case atStart => exact ⟨0, rfl, Nat.zero_le _, Below.refl _ _, by omega⟩
    case round =>
      obtain ⟨i, rfl, hi, hb, hk⟩ := hrel
      by_cases hlt : i < N
      · have hlt' : (i : Int) < N := by omega
        have i1 : i < ts.length := by have := eN.out; omega
        have i2 : i < us.length := by have := eN.out; have := hlen.out; omega
        obtain ⟨m1, q1⟩ := toksCells_get ts i i1
        obtain ⟨m2, q2⟩ := toksCells_get us i i2
        have tl := hl.at_ i i1 i2
        generalize ts[i] = t at *
        generalize us[i] = u at *
        clear i1 i2
        have k0 := (hb.cell (p := ⟨g1, i * 5, none⟩) hg1).trans (hc1 (i * 5) _ ((q1 0).trans rfl))
        have k1 := (hb.cell (p := ⟨g1, i * 5 + 1, none⟩) hg1).trans (hc1 (i * 5 + 1) _ ((q1 1).trans rfl))
        have k2 := (hb.cell (p := ⟨g1, i * 5 + 2, none⟩) hg1).trans (hc1 (i * 5 + 2) _ ((q1 2).trans rfl))
        have k3 := (hb.cell (p := ⟨g1, i * 5 + 3, none⟩) hg1).trans (hc1 (i * 5 + 3) _ ((q1 3).trans rfl))
        have k4 := (hb.cell (p := ⟨g1, i * 5 + 4, none⟩) hg1).trans (hc1 (i * 5 + 4) _ ((q1 4).trans rfl))
        have l0 := (hb.cell (p := ⟨g2, i * 5, none⟩) hg2).trans (hc2 (i * 5) _ ((q2 0).trans rfl))
        have l1 := (hb.cell (p := ⟨g2, i * 5 + 1, none⟩) hg2).trans (hc2 (i * 5 + 1) _ ((q2 1).trans rfl))
        have l2 := (hb.cell (p := ⟨g2, i * 5 + 2, none⟩) hg2).trans (hc2 (i * 5 + 2) _ ((q2 2).trans rfl))
        have l3 := (hb.cell (p := ⟨g2, i * 5 + 3, none⟩) hg2).trans (hc2 (i * 5 + 3) _ ((q2 3).trans rfl))
        have l4 := (hb.cell (p := ⟨g2, i * 5 + 4, none⟩) hg2).trans (hc2 (i * 5 + 4) _ ((q2 4).trans rfl))
        rw [← tl.kind] at l0
        rw [← tl.n] at l2
        rw [← tl.line] at l3
        rw [← tl.col] at l4
        have hsz := hb.size
        have hs1 : g1 < wr.heap.size := by omega
        have hs2 : g2 < wr.heap.size := by omega
        by_cases c2 : t.kind = 2
        · rw [c2] at k0 l0
          clear tl q1 q2
          go_wp2_with fail
          go_roundg (N - (i + 1))
          case measure => omega
          case rel => exact ⟨i + 1, by first | rfl | (congr 1), by omega, (hb.alloc (by omega) _).alloc (by simp; omega) _, Nat.le_refl _⟩
        · rw [← tl.text c2] at l1
          have e2 : (t.kind == 2) = false := by simp [c2]
          clear tl q1 q2
          go_wp2_with fail
          go_roundg (N - (i + 1))
          case measure => omega
          case rel => exact ⟨i + 1, by first | rfl | (congr 1), by omega, (hb.alloc (by omega) _).alloc (by simp; omega) _, Nat.le_refl _⟩
      · have hge : ¬ (i : Int) < N := by omega
        go_wp2_with fail
        go_ret
        exact ⟨rfl, hb⟩
end Go.Proofs.YtoidmljhlekbkaaDoor
