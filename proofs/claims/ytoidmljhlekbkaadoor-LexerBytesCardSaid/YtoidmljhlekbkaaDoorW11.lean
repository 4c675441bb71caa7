/-
  The walk of the lexer's Tokens: what the program answers is what the plain function says.
-/
import Derived.Test.YtoidmljhlekbkaaDoorW9
import Derived.Test.YtoidmljhlekbkaaDoorW10
import Derived.Test.YtoidmljhlekbkaaDoorPlain2
namespace Go.Proofs.YtoidmljhlekbkaaDoor
open Go.RowKit
theorem _root_.Go.RowKit.Below.drewN' {B : Nat} {a w : World} (h : Below B a w) (n : Nat) : Below B a (w.drewN n) := ⟨h.os, h.tape, h.output, h.size, h.block⟩
/-- The answer of the lexer: tokens in memory of its own, a place, an error. -/
def TokAns (s : ByteArray) (w : World) (e : Ending) (w' : World) : Prop :=
  ∃ v, e = .returned (.tuple #[v, .int .i64 (Lx.tokens s).2.1, .int .i64 (Lx.tokens s).2.2.1, .int .i64 (Lx.tokens s).2.2.2]) ∧
    w'.ownsRow w.heap.size 28 5 v (Lx.tokens s).1.length (toksCells (Lx.tokens s).1) ∧ Below w.heap.size w w'
/-- What the loop over the tokens leaves. -/
def RunRel (w0 : World) (p : Nat) (s : ByteArray) (k : Nat) (wr : World) : Prop :=
  ∃ y L O D n, Lex wr w0.heap.size wr.heap.size p s y L O D ∧ Fit y ∧ Below w0.heap.size w0 wr ∧ y.l = (Lx.start s).l ∧ y.cut = (Lx.start s).cut ∧ Lx.runGo n y = Lx.run (Lx.start s) ∧
    (y.bad = none → y.l.length - y.at_ + 1 ≤ n ∧ y.l.length - y.at_ + 1 ≤ k)
theorem tokens_long (s : ByteArray) (w : World) (hs : 65536 < s.size) : Calls Tryd.prog 10 #[.string s] w (TokAns s w) := by
  have E : Hid (Lx.tokens s = ([], 1, 1, 2)) := by show Lx.tokens s = _; unfold Lx.tokens; rw [if_pos hs]
  have hs' : (65536 : Int) < s.size := by omega
  go_enter Tryd.func10, Tryd.ntmps10
  go_wp2_with fail
  refine bodyPost_ret (v := .tuple #[.slice none 0 0, .int .i64 1, .int .i64 1, .int .i64 2]) (by simp [results, Tryd.results10, go_sem]) rfl ?_
  unfold TokAns
  rw [E.out]
  exact ⟨_, rfl, World.ownsRow_nil _ _ _ _, (Below.refl _ _).alloc (Nat.le_refl _) _⟩
theorem tokens_short (s : ByteArray) (w : World) (hs : s.size ≤ 65536) (hT : Lib.Utf8Tabs 0 1 w) (h2 : 2 ≤ w.heap.size) : Calls Tryd.prog 10 #[.string s] w (TokAns s w) := by
  have hs' : (s.size : Int) ≤ 65536 := by omega
  have blk := Whole.made w 50 (lexCells s (.slice none 0 0) false)
  have bw0 := (Below.refl w.heap.size w).alloc (Nat.le_refl _) (.cells (lexCells s (.slice none 0 0) false) 50)
  go_enter Tryd.func10, Tryd.ntmps10
  go_wp2_with fail
  refine (decode_any s hs (Nat.le_refl _) h2 (tabs_below hT bw0 h2) blk).mono ?_
  rintro e w1 ⟨rfl, ⟨L1, h1⟩, b1, r1⟩
  have f1 : Fit (Lx.start s) := start_fit s (by have := decodeGo_length s (s.size + 1) 0 (by omega); show (Lx.decodeGo s (s.size + 1) 0).1.length ≤ 65536; omega) r1
  have bw1 := bw0.trans b1
  go_wp2_with fail
  go_loopg [] ((Lx.start s).l.length + 2) (fun k wr => RunRel w w.heap.size s k wr)
  case atStart => exact ⟨Lx.start s, L1, .slice none 0 0, none, _, h1, f1, bw1, rfl, rfl, rfl, fun _ => ⟨by omega, by omega⟩⟩
  case round =>
    obtain ⟨y, L, O, D, n, hy, fy, by_, ly, cy, ry, ky⟩ := hrel
    obtain ⟨A, c, rfl, hcap, hg⟩ := hy.form
    have HG := Lib.hid hg
    clear hg
    have k1 := hy.cell 1
    have k2 := hy.cell 2
    have k3 := hy.cell 3
    have k4 := hy.cell 4
    have k5 := hy.cell 5
    have k6 := hy.cell 6
    have k7 := hy.cell 7
    simp at k1 k2 k3 k4 k5 k6 k7
    rcases hb : y.bad with _ | ⟨ba, bb, be⟩
    · have hD := hy.bad
      rw [hb] at hD
      simp [BadIs] at hD
      subst hD
      obtain ⟨kn, kk⟩ := ky hb
      by_cases hlt : y.at_ < y.l.length
      · have pr := one_prog fy hb hlt
        obtain ⟨m, rfl⟩ : ∃ m, n = m + 1 := ⟨n - 1, by omega⟩
        have A : Hid (Lx.runGo m y.one = Lx.run (Lx.start s)) := by rw [← run_step ⟨by rw [hb]; rfl, hlt⟩]; exact ry
        have hlt' : (y.at_ : Int) < y.l.length := by omega
        have hd1 : decide ((y.at_ : Int) < y.l.length) = true := by simpa using hlt'
        have HB := Lib.hid hb
        have HL := Lib.hid ly
        have HC := Lib.hid cy
        have PR := Lib.hid pr
        clear hb ly cy ry pr ky
        go_wp2
        go_quiet (fail)
        go_wp2_with fail
        refine (one_any (hy.drewN _) fy hlt).mono ?_
        rintro e w2 ⟨rfl, O', D', h2, b2⟩
        go_wp2_with fail
        go_roundg (y.l.length - y.at_)
        case measure => omega
        case rel =>
          have pr := PR.out
          refine ⟨y.one, _, O', D', m, h2, pr.fit, (by_.trans ((Below.refl _ _).drewN' _)).trans b2, pr.l.trans HL.out, pr.cut.trans HC.out, A.out, fun hn => ?_⟩
          have h3 := pr.on hn
          have h4 := pr.fit.at_
          rw [pr.l] at h4
          rw [pr.l]
          exact ⟨by omega, by omega⟩
      · have A : Hid (y = Lx.run (Lx.start s)) := by rw [run_stop (by intro h; exact hlt h.2)] at ry; exact ry
        have hge : ¬ ((y.at_ : Int) < y.l.length) := by omega
        have hd1 : decide ((y.at_ : Int) < y.l.length) = false := by simpa using hge
        rcases hc : y.cut with _ | _
        · rw [hc] at k7
          have E : Hid (Lx.tokens s = ((y.put 6 [] 0 y.line y.col).out, 0, 0, 0)) := by
            show Lx.tokens s = _
            unfold Lx.tokens
            rw [if_neg (by omega)]
            simp only [← A.out, hc, hb, Bool.false_eq_true, if_false]
          clear hb hc ly cy ry ky A hge
          go_wp2
          go_quiet (fail)
          go_wp2_with fail
          refine (put_any 6 0 y.line y.col [] (hy.drewN _) (by have := fy.out; have := fy.at_; have := fy.len; omega)).mono ?_
          rintro e w2 ⟨rfl, O', h2, b2⟩
          have g4 := h2.cell 5
          simp at g4
          go_wp2_with fail
          refine bodyPost_ret (v := .tuple #[O', .int .i64 0, .int .i64 0, .int .i64 0]) (by simp [results, Tryd.results10, go_sem]) rfl ?_
          unfold TokAns
          rw [E.out]
          exact ⟨O', rfl, h2.toks, (by_.trans ((Below.refl _ _).drewN' _)).trans b2⟩
        · rw [hc] at k7
          have E : Hid (Lx.tokens s = ([], y.line, y.col, 4)) := by
            show Lx.tokens s = _
            unfold Lx.tokens
            rw [if_neg (by omega)]
            simp only [← A.out, hc, if_true]
            have : (y.fail y.line y.col 4).bad = some (y.line, y.col, 4) := by unfold Lx.St.fail; rw [hb]
            rw [this]
          have hfb : Hid ((y.fail y.line y.col 4).bad = some (y.line, y.col, 4)) := by show (Lx.St.fail y _ _ _).bad = _; unfold Lx.St.fail; rw [hb]
          clear hb hc ly cy ry ky A hge
          go_wp2
          go_quiet (fail)
          go_wp2_with fail
          refine (fail_any y.line y.col 4 (hy.drewN _)).mono ?_
          rintro e w2 ⟨rfl, D', h2, b2⟩
          have hD := h2.bad
          rw [hfb.out] at hD
          obtain ⟨d, rfl, hd0, hd1', hd2⟩ := hD
          have g6 := h2.cell 6
          have d0 := hd2.cell 0
          have d1 := hd2.cell 1
          have d2 := hd2.cell 2
          simp at g6 d0 d1 d2
          (first | go_wp2_with fail | skip)
          go_quiet (fail)
          go_wp2_with fail
          refine bodyPost_ret (v := .tuple #[.slice none 0 0, .int .i64 y.line, .int .i64 y.col, .int .i64 4]) (by simp [results, Tryd.results10, go_sem]) rfl ?_
          unfold TokAns
          rw [E.out]
          exact ⟨_, rfl, World.ownsRow_nil _ _ _ _, ((by_.drewN' _).trans (b2.below (by have := hy.hB; have := hy.lt; simp; omega) (by simp))).drewN' _⟩
    · have A : Hid (y = Lx.run (Lx.start s)) := by rw [run_stop (by rw [hb]; intro h; cases h.1)] at ry; exact ry
      have hD := hy.bad
      rw [hb] at hD
      obtain ⟨d, rfl, hd0, hd1, hd2⟩ := hD
      have d0 := hd2.cell 0
      have d1 := hd2.cell 1
      have d2 := hd2.cell 2
      simp at d0 d1 d2
      have hfy : Hid (y.fail y.line y.col 4 = y) := by show Lx.St.fail y _ _ _ = _; unfold Lx.St.fail; rw [hb]
      have E : Hid (Lx.tokens s = ([], ba, bb, be)) := by
        show Lx.tokens s = _
        unfold Lx.tokens
        rw [if_neg (by omega)]
        simp only [← A.out, hfy.out, ite_self, hb]
      rcases hc : y.cut with _ | _
      · rw [hc] at k7
        clear hb hc ly cy ry ky A
        go_wp2
        go_quiet (fail)
        go_wp2_with fail
        (first | go_wp2_with fail | skip)
        go_quiet (fail)
        go_wp2_with fail
        refine bodyPost_ret (v := .tuple #[.slice none 0 0, .int .i64 ba, .int .i64 bb, .int .i64 be]) (by simp [results, Tryd.results10, go_sem]) rfl ?_
        unfold TokAns
        rw [E.out]
        exact ⟨_, rfl, World.ownsRow_nil _ _ _ _, (by_.drewN' _).drewN' _⟩
      · rw [hc] at k7
        have hfb : Hid ((y.fail y.line y.col 4).bad = some (ba, bb, be)) := by show (y.fail y.line y.col 4).bad = _; rw [hfy.out, hb]
        clear hb hc ly cy ry ky A
        go_wp2
        go_quiet (fail)
        go_wp2_with fail
        refine (fail_any y.line y.col 4 (hy.drewN _)).mono ?_
        rintro e w2 ⟨rfl, D', h2, b2⟩
        have hD := h2.bad
        rw [hfb.out] at hD
        obtain ⟨d', rfl, _, _, hd3⟩ := hD
        have g6 := h2.cell 6
        have g0 := hd3.cell 0
        have g1 := hd3.cell 1
        have g2 := hd3.cell 2
        simp at g6 g0 g1 g2
        (first | go_wp2_with fail | skip)
        go_quiet (fail)
        go_wp2_with fail
        refine bodyPost_ret (v := .tuple #[.slice none 0 0, .int .i64 ba, .int .i64 bb, .int .i64 be]) (by simp [results, Tryd.results10, go_sem]) rfl ?_
        unfold TokAns
        rw [E.out]
        exact ⟨_, rfl, World.ownsRow_nil _ _ _ _, ((by_.drewN' _).trans (b2.below (by have := hy.hB; have := hy.lt; simp; omega) (by simp))).drewN' _⟩
theorem tokens_any (s : ByteArray) (w : World) (hT : Lib.Utf8Tabs 0 1 w) (h2 : 2 ≤ w.heap.size) : Calls Tryd.prog 10 #[.string s] w (TokAns s w) := by
  by_cases hs : 65536 < s.size
  · exact tokens_long s w hs
  · exact tokens_short s w (by omega) hT h2
end Go.Proofs.YtoidmljhlekbkaaDoor
