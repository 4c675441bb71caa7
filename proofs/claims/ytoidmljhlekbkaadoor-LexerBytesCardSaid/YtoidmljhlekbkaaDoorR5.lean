/-
  The document's lexer: the walk of a number.
-/
import Derived.Test.YtoidmljhlekbkaaDoorR4
import Derived.Test.YtoidmljhlekbkaaDoorW6
import Derived.Test.YtoidmljhlekbkaaDoorPlain2
import Derived.Deep.QuietTactic
import Derived.StillTailTactics
import Derived.BigQuiet
import Derived.Deep.LoopGhost
import Derived.Deep.DeepCutAuto
namespace Go.Proofs.YtoidmljhlekbkaaDoor
open Go.RowKit
/-- A token was read: it is what the plain lexer's is (but for the text of a number), or it is a fault. -/
def TokAft (w : World) (p q : Nat) (s : ByteArray) (line col : Int) (x y : Lx.St) : Prop :=
  match y.bad with
  | none => Rf w p s y 0 ∧ ∃ t txt, y.out = x.out ++ [t] ∧ t.line = line ∧ t.col = col ∧ Whole w q 28 #[.int .i64 t.kind, .string txt, .int .i64 t.n, .int .i64 line, .int .i64 col] ∧ (t.kind ≠ 2 → txt = ⟨t.text.toArray⟩)
  | some (a, b, c) => (∃ at_, Whole w p 57 #[.string s, at_, .int .i64 a, .int .i64 b, .int .i64 c]) ∧ c ≠ 0 ∧ ∃ k t n, Whole w q 28 #[.int .i64 k, .string t, .int .i64 n, .int .i64 line, .int .i64 col]
theorem letter_rpk (y : Lx.St) : Lx.letter (rpk y) = Lx.letter (y.peek 0) := by
  unfold rpk
  split
  · rfl
  · have : y.peek 0 = -1 := by
      rw [peek_getD, List.getD_eq_getElem?_getD, List.getElem?_eq_none (by omega)]; rfl
    rw [this]
    split <;> decide
theorem hex_rpk (y : Lx.St) : Lx.hex (rpk y) = Lx.hex (y.peek 0) := by
  unfold rpk
  split
  · rfl
  · have : y.peek 0 = -1 := by
      rw [peek_getD, List.getD_eq_getElem?_getD, List.getElem?_eq_none (by omega)]; rfl
    rw [this]
    split <;> decide
theorem rpk_lt {y : Lx.St} (h : y.at_ < y.l.length) : rpk y = y.peek 0 := by unfold rpk; rw [if_pos h]
theorem digit_lt {y : Lx.St} (h : Lx.digit (y.peek 0) = true) : y.at_ < y.l.length := by
  refine getD_neg y.l (y.at_ + 0) ?_
  simp [Lx.digit] at h
  rw [← peek_getD]
  omega
theorem TokAft.fault {w : World} {p q : Nat} {s : ByteArray} {line col a b c : Int} {k n : Int} {t : ByteArray} {x y : Lx.St} {at_ : Value} (hy : y.bad = some (a, b, c)) (h1 : Whole w p 57 #[.string s, at_, .int .i64 a, .int .i64 b, .int .i64 c]) (hc : c ≠ 0) (h2 : Whole w q 28 #[.int .i64 k, .string t, .int .i64 n, .int .i64 line, .int .i64 col]) : TokAft w p q s line col x y := by
  unfold TokAft
  rw [hy]
  exact ⟨⟨_, h1⟩, hc, _, _, _, h2⟩
theorem fail_bad {y : Lx.St} (hy : y.bad = none) (a b c : Int) : (y.fail a b c).bad = some (a, b, c) := by unfold Lx.St.fail; rw [hy]
theorem TokAft.tok {w : World} {p q : Nat} {s txt : ByteArray} {line col k n : Int} {x y z : Lx.St} {t : List UInt8} (h : Rf w p s z 0) (e : y = z.put k t n line col) (f : Fit y) (hb : z.bad = none) (ho : z.out = x.out) (hq : Whole w q 28 #[.int .i64 k, .string txt, .int .i64 n, .int .i64 line, .int .i64 col]) (ht : k ≠ 2 → txt = ⟨t.toArray⟩) : TokAft w p q s line col x y := by
  subst e
  unfold TokAft
  rw [show (z.put k t n line col).bad = none from hb]
  exact ⟨⟨h.blk, h.src, f, h.size⟩, ⟨k, t, n, line, col⟩, txt, by show z.out ++ _ = _; rw [ho], rfl, rfl, hq, ht⟩
theorem rpk_bd {x : Lx.St} (f : Fit x) : -2 ≤ rpk x ∧ rpk x ≤ 1114111 := by
  have := f.peek_bd 0
  unfold rpk
  split
  · omega
  · split <;> omega
/-- What the loop of a number's digits leaves. -/
def RNumRel (w0 : World) (p q : Nat) (s : ByteArray) (x z : Lx.St) (base : Int) (k : Nat) (v : Value) (wr : World) : Prop :=
  ∃ (big : Bool) (tn : Int) (t0 : Value) (y : Lx.St), v = .bool big ∧ 0 ≤ tn ∧ tn ≤ 4294967295 ∧ Rf wr p s y 0 ∧ Whole wr q 28 #[.int .i64 2, t0, .int .i64 tn, .int .i64 x.line, .int .i64 x.col] ∧ Goes x y ∧ y.digits base (if big then 4294967296 else tn) = z.digits base 0 ∧ Only [p, q] w0 wr ∧ y.l.length - y.at_ ≤ k
section
variable {w : World} {p : Nat} {s : ByteArray} {x : Lx.St}
set_option maxRecDepth 100000 in
set_option maxHeartbeats 4000000 in
theorem rnumber_any {k0 t0 : Value} {q : Nat} (h : Rf w p s x 0) (hb : x.bad = none) (hd : Lx.digit (x.peek 0) = true) (hq : Whole w q 28 #[k0, t0, .int .i64 0, .int .i64 x.line, .int .i64 x.col]) :
    Calls Tryd.prog 26 #[.pointer (some ⟨p, 0, none⟩), .pointer (some ⟨q, 0, none⟩)] w fun e w' => e = .returned (.tuple #[]) ∧ TokAft w' p q s x.line x.col x x.number ∧ Only [p, q] w w' := by
  have hpq : p ≠ q := h.blk.kind hq (by decide)
  have u0 := hq.cell 0
  have u1 := hq.cell 1
  have u2 := hq.cell 2
  have u3 := hq.cell 3
  have u4 := hq.cell 4
  have v0 := hq.frozen 0
  have c0 := h.blk.cell 0
  have c1 := h.blk.cell 1
  simp at u0 u1 u2 u3 u4 c0 c1
  have hlt := digit_lt hd
  have erp := rpk_lt hlt
  have hsz := h.size
  have hP := h.src.lt _ hlt
  have hhd := Lib.hid (hex_head (s := s) (x := x) h.src)
  have HR : ∀ n, Rf ((w.setCell ⟨q, 0, none⟩ (.int .i64 2)).drewN n) p s x 0 := fun n => ⟨(h.blk.far (p := ⟨q, 0, none⟩) hpq _).drewN n, h.src, h.fit, h.size⟩
  have B0 := Lib.hid (byteAt_get s (pos s x.at_ + 1) 0)
  have B1 := Lib.hid (byteAt_get s (pos s x.at_ + 2) 0)
  have L1 := Lib.hid (byteAt_lt s (pos s x.at_ + 1) 0)
  have L2 := Lib.hid (byteAt_lt s (pos s x.at_ + 2) 0)
  obtain ⟨P, eP⟩ : ∃ P, P = pos s x.at_ := ⟨_, rfl⟩
  rw [← eP] at c1 hP hhd B0 B1 L1 L2
  replace eP := Lib.hid eP
  have hqp : q ∉ [p] := by simp; omega
  go_enter Tryd.func26, Tryd.ntmps26
  go_upto_region 3 with (fail)
  go_cut [58] (fun t wx => t = .bool (numHead x) ∧ ∃ n, wx = (w.setCell ⟨q, 0, none⟩ (.int .i64 2)).drewN n)
  case first =>
    have RC : Hid (∀ n, Calls Tryd.prog 21 #[.pointer (some ⟨p, 0, none⟩)] ((w.setCell ⟨q, 0, none⟩ (.int .i64 2)).drewN n) fun e' w' => e' = .returned (.int .i64 (x.peek 0)) ∧ ∃ m, w' = ((w.setCell ⟨q, 0, none⟩ (.int .i64 2)).drewN n).drewN m) := by
      intro n
      have := rpeek_any (HR n)
      rwa [erp] at this
    by_cases d0 : x.peek 0 = 48
    · have e0 : (x.peek 0 == 48) = true := by simp [d0]
      have HH := hhd.out d0
      have EN : numHead x = decide (P + 2 < s.size ∧ byteAt s (P + 1) 0 = 120 ∧ 0 ≤ Lx.hex (byteAt s (P + 2) 0)) := by
        unfold numHead
        simp only [d0, true_and]
        exact decide_eq_decide.2 HH.symm
      clear d0 HH
      have W1 : IntKind.i64.wrap ((P : Int) + 1) = (P : Int) + 1 := by rw [IntKind.wrap_i64]; omega
      have W2 : IntKind.i64.wrap ((P : Int) + 2) = (P : Int) + 2 := by rw [IntKind.wrap_i64]; omega
      by_cases d1 : P + 2 < s.size
      · have hi1 : P + 1 < s.size := by omega
        have j1 : (P : Int) + 1 < s.size := by omega
        have j2 : (P : Int) + 2 < s.size := by omega
        have j3 : decide ((P : Int) + 2 < s.size) = true := decide_eq_true j2
        have j01 : (0 : Int) ≤ (P : Int) + 1 := by omega
        have j02 : (0 : Int) ≤ (P : Int) + 2 := by omega
        have g1 : (s[P + 1]'hi1).toNat = byteAt s (P + 1) 0 := B0.out hi1
        have g2 : (s[P + 2]'d1).toNat = byteAt s (P + 2) 0 := B1.out d1
        have l1 := L1.out
        have l2 := L2.out
        obtain ⟨Y, eY⟩ : ∃ Y, Y = byteAt s (P + 1) 0 := ⟨_, rfl⟩
        obtain ⟨Z, eZ⟩ : ∃ Z, Z = byteAt s (P + 2) 0 := ⟨_, rfl⟩
        rw [← eY] at g1 l1 EN
        rw [← eZ] at g2 l2 EN
        clear eY eZ
        have W3 : IntKind.i64.wrap (Z : Int) = (Z : Int) := by rw [IntKind.wrap_i64]; omega
        by_cases d2 : Y = 120
        · have E : Hid (numHead x = decide (0 ≤ Lx.hex Z)) := by show numHead x = _; rw [EN]; simp [d1, d2]
          clear EN
          subst d2
          go_wp2_with fail
          go_quiet (first | (go_at_call 21; exact Calls.quiet_of (RC.out _)) | (go_at_call 40; exact Calls.quiet_of_same (rhex_any _ _ (by omega) (by omega))))
          go_wp2_with fail
          go_meet
          exact ⟨by rw [E.out], _, rfl⟩
        · have E : Hid (numHead x = false) := by show numHead x = _; rw [EN]; simp [d2]
          have e2 : ((Y : Int) == 120) = false := by simp; omega
          clear EN d2
          go_wp2_with fail
          go_quiet (first | (go_at_call 21; exact Calls.quiet_of (RC.out _)))
          go_wp2_with fail
          go_meet
          exact ⟨by rw [E.out], _, rfl⟩
      · have E : Hid (numHead x = false) := by show numHead x = _; rw [EN]; simp [d1]
        have e1 : decide ((P : Int) + 2 < s.size) = false := decide_eq_false (by omega)
        have e1' : ¬ (P : Int) + 2 < s.size := by omega
        clear EN
        go_wp2_with fail
        go_quiet (first | (go_at_call 21; exact Calls.quiet_of (RC.out _)))
        go_wp2_with fail
        go_meet
        exact ⟨by rw [E.out], _, rfl⟩
    · have e0 : (x.peek 0 == 48) = false := by simp [d0]
      have E : Hid (numHead x = false) := by show numHead x = _; unfold numHead; simp [d0]
      clear d0
      go_wp2_with fail
      go_quiet (first | (go_at_call 21; exact Calls.quiet_of (RC.out _)))
      go_wp2_with fail
      go_meet
      exact ⟨by rw [E.out], _, rfl⟩
  case rest =>
  obtain ⟨rfl, n0, rfl⟩ := hcut
  have q0 := HR n0
  have o0 : Only [p, q] w ((w.setCell ⟨q, 0, none⟩ (.int .i64 2)).drewN n0) := ((Only.refl _ _).setCell (.inl (by simp)) _).drewN _
  have g0 : Whole ((w.setCell ⟨q, 0, none⟩ (.int .i64 2)).drewN n0) q 28 #[.int .i64 2, t0, .int .i64 0, .int .i64 x.line, .int .i64 x.col] := (hq.put 0 _).drewN _
  clear B0 B1 L1 L2
  rcases hh : numHead x with _ | _
  · have HH := Lib.hid hh
    clear hh
    obtain ⟨z, hz, gz, bz, oz, ez⟩ : ∃ z, Rf ((w.setCell ⟨q, 0, none⟩ (.int .i64 2)).drewN n0) p s z 0 ∧ Goes x z ∧ Whole ((w.setCell ⟨q, 0, none⟩ (.int .i64 2)).drewN n0) q 28 #[.int .i64 2, t0, .int .i64 0, .int .i64 x.line, .int .i64 x.col] ∧ Only [p, q] w ((w.setCell ⟨q, 0, none⟩ (.int .i64 2)).drewN n0) ∧ Hid (z = x) := ⟨x, q0, Goes.refl x, g0, o0, rfl⟩
    go_wp2_with fail
    go_loopg [6] (z.l.length - z.at_) (fun k v wr => RNumRel w p q s x z 10 k v wr)
    case atStart => exact ⟨false, 0, t0, z, rfl, by omega, by omega, hz, bz, gz, rfl, oz, Nat.le_refl _⟩
    case round =>
      obtain ⟨big, tn, txt, y, rfl, hn0, hn1, hy, by_, gy, ey, oy, ky⟩ := hrel
      have fy := hy.fit
      have bp := fy.peek_bd 0
      have bh := Lx_hex_bd (y.peek 0)
      have br := rpk_bd fy
      have k0 := hy.blk.cell 0
      have k1 := hy.blk.cell 1
      have k2 := hy.blk.cell 2
      have k3 := hy.blk.cell 3
      have m1 := by_.cell 1
      have m2 := by_.cell 2
      have m3 := by_.cell 3
      have m4 := by_.cell 4
      have n1 := by_.frozen 1
      have n2 := by_.frozen 2
      have i1 := hy.src.lt
      have i2 := pos_le hy.src y.at_ fy.at_
      have i3 : P ≤ pos s y.at_ := by
        have := pos_mono hy.src y.at_ x.at_ gy.at_ fy.at_
        rwa [eP.out] 
      simp at k0 k1 k2 k3 m1 m2 m3 m4
      have hqp' : q ≠ p := Ne.symm hpq
      have RA : ∀ d, Rf ((wr.drewN d).setCell ⟨q, 1, none⟩ (.string (s.extract P (pos s y.at_)))) p s y 0 := fun d => ⟨(hy.blk.drewN d).far (p := ⟨q, 1, none⟩) hpq _, hy.src, hy.fit, hy.size⟩
      have QA : ∀ d, Whole ((wr.drewN d).setCell ⟨q, 1, none⟩ (.string (s.extract P (pos s y.at_)))) q 28 #[.int .i64 2, .string (s.extract P (pos s y.at_)), .int .i64 tn, .int .i64 x.line, .int .i64 x.col] := fun d => (by_.drewN d).put 1 _
      have OA : ∀ d, Only [p, q] w ((wr.drewN d).setCell ⟨q, 1, none⟩ (.string (s.extract P (pos s y.at_)))) := fun d => (oy.drewN d).setCell (.inl (by simp)) _
      have NP := (number_prog h.fit hb hlt hd).fit
      have i4 : (P : Int) ≤ pos s y.at_ := by omega
      have i5 : (pos s y.at_ : Int) ≤ s.size := by omega
      by_cases hs : Lx.hex (y.peek 0) < 0 ∨ 10 ≤ Lx.hex (y.peek 0)
      · have A : Hid (z.digits 10 0 = (if big then 4294967296 else tn, y)) := by rw [← ey, digits_stop hs]; exact rfl
        clear ey
        have hx := hex_rpk y
        have ls := letter_rpk y
        rcases hl : Lx.letter (y.peek 0) with _ | _ <;> rcases big with _ | _
        · have E : Hid (x.number = y.put 2 [] tn x.line x.col) := by
            refine num_dec HH.out A.out ez.out ?_
            simp [hl]
            omega
          clear A
          go_wp2_with fail
          refine (rpeek_any hy).mono ?_
          rintro e w' ⟨rfl, d1, rfl⟩
          go_wp2_with fail
          refine (rhex_any _ _ (by omega) (by omega)).mono ?_
          rintro e w' ⟨rfl, rfl⟩
          rw [hx]
          go_wp2_with fail
          all_goals
            go_region
            go_wp2_with fail
            refine (rpeek_any (RA _)).mono ?_
            rintro e w' ⟨rfl, d2, rfl⟩
            go_wp2_with fail
            refine (rletter_any _ _).mono ?_
            rintro e w' ⟨rfl, rfl⟩
            rw [ls, hl]
            go_wp2_with fail
            (first | go_end0 | refine bodyPost_ret (results_none rfl _ _ _) rfl ?_)
            exact ⟨rfl, TokAft.tok ((RA _).drewN _) E.out NP (gy.bad.trans hb) gy.out ((QA _).drewN _) (fun h => absurd rfl h), (OA _).drewN _⟩
        · have E : Hid (x.number = y.fail x.line x.col 6) := by
            refine num_dec HH.out A.out ez.out ?_
            simp [hl]
          clear A
          go_wp2_with fail
          refine (rpeek_any hy).mono ?_
          rintro e w' ⟨rfl, d1, rfl⟩
          go_wp2_with fail
          refine (rhex_any _ _ (by omega) (by omega)).mono ?_
          rintro e w' ⟨rfl, rfl⟩
          rw [hx]
          go_wp2_with fail
          all_goals
            go_region
            go_wp2_with fail
            refine (rpeek_any (RA _)).mono ?_
            rintro e w' ⟨rfl, d2, rfl⟩
            go_wp2_with fail
            refine (rletter_any _ _).mono ?_
            rintro e w' ⟨rfl, rfl⟩
            rw [ls, hl]
            go_wp2_with fail
            refine wp_region_still_tail 9 (by kernel_rfl) (by kernel_rfl) ?_
            simp only [List.take_succ_cons, List.take_zero, List.drop_succ_cons, List.drop_zero]
            change wpStill _ _ (((wr.drewN (d1 + 1)).setCell ⟨q, 1, none⟩ (.string (s.extract P (pos s y.at_)))).drewN (d2 + 1)) _ _ _
            repeat still_step
            refine wpStill_nil ?_
            change wpList _ _ _ _ _ (((wr.drewN (d1 + 1)).setCell ⟨q, 1, none⟩ (.string (s.extract P (pos s y.at_)))).drewN (d2 + 1))
            go_wp2_with fail
            refine (rfail_first y.line y.col x.line x.col ((RA _).drewN _).blk).mono ?_
            rintro e w1 ⟨rfl, h1, o1⟩
            go_wp2_with fail
            (first | go_end0 | refine bodyPost_ret (results_none rfl _ _ _) rfl ?_)
            exact ⟨rfl, TokAft.fault (by rw [E.out]; exact fail_bad (gy.bad.trans hb) _ _ _) h1 (by decide) (((QA _).drewN _).only o1 hqp), ((OA _).drewN _).trans (o1.more (by simp))⟩
        · have E : Hid (x.number = y.fail y.line y.col 3) := by
            refine num_dec HH.out A.out ez.out ?_
            simp [hl]
          clear A
          go_wp2_with fail
          refine (rpeek_any hy).mono ?_
          rintro e w' ⟨rfl, d1, rfl⟩
          go_wp2_with fail
          refine (rhex_any _ _ (by omega) (by omega)).mono ?_
          rintro e w' ⟨rfl, rfl⟩
          rw [hx]
          go_wp2_with fail
          all_goals
            go_region
            go_wp2_with fail
            refine (rpeek_any (RA _)).mono ?_
            rintro e w' ⟨rfl, d2, rfl⟩
            go_wp2_with fail
            refine (rletter_any _ _).mono ?_
            rintro e w' ⟨rfl, rfl⟩
            rw [ls, hl]
            go_wp2_with fail
            refine wp_region_still_tail 9 (by kernel_rfl) (by kernel_rfl) ?_
            simp only [List.take_succ_cons, List.take_zero, List.drop_succ_cons, List.drop_zero]
            change wpStill _ _ (((wr.drewN (d1 + 1)).setCell ⟨q, 1, none⟩ (.string (s.extract P (pos s y.at_)))).drewN (d2 + 1)) _ _ _
            repeat still_step
            refine wpStill_nil ?_
            change wpList _ _ _ _ _ (((wr.drewN (d1 + 1)).setCell ⟨q, 1, none⟩ (.string (s.extract P (pos s y.at_)))).drewN (d2 + 1))
            go_wp2_with fail
            refine (rfail_first y.line y.col y.line y.col ((RA _).drewN _).blk).mono ?_
            rintro e w1 ⟨rfl, h1, o1⟩
            go_wp2_with fail
            (first | go_end0 | refine bodyPost_ret (results_none rfl _ _ _) rfl ?_)
            exact ⟨rfl, TokAft.fault (by rw [E.out]; exact fail_bad (gy.bad.trans hb) _ _ _) h1 (by decide) (((QA _).drewN _).only o1 hqp), ((OA _).drewN _).trans (o1.more (by simp))⟩
        · have E : Hid (x.number = y.fail y.line y.col 3) := by
            refine num_dec HH.out A.out ez.out ?_
            simp [hl]
          clear A
          go_wp2_with fail
          refine (rpeek_any hy).mono ?_
          rintro e w' ⟨rfl, d1, rfl⟩
          go_wp2_with fail
          refine (rhex_any _ _ (by omega) (by omega)).mono ?_
          rintro e w' ⟨rfl, rfl⟩
          rw [hx]
          go_wp2_with fail
          all_goals
            go_region
            go_wp2_with fail
            refine (rpeek_any (RA _)).mono ?_
            rintro e w' ⟨rfl, d2, rfl⟩
            go_wp2_with fail
            refine (rletter_any _ _).mono ?_
            rintro e w' ⟨rfl, rfl⟩
            rw [ls, hl]
            go_wp2_with fail
            refine wp_region_still_tail 9 (by kernel_rfl) (by kernel_rfl) ?_
            simp only [List.take_succ_cons, List.take_zero, List.drop_succ_cons, List.drop_zero]
            change wpStill _ _ (((wr.drewN (d1 + 1)).setCell ⟨q, 1, none⟩ (.string (s.extract P (pos s y.at_)))).drewN (d2 + 1)) _ _ _
            repeat still_step
            refine wpStill_nil ?_
            change wpList _ _ _ _ _ (((wr.drewN (d1 + 1)).setCell ⟨q, 1, none⟩ (.string (s.extract P (pos s y.at_)))).drewN (d2 + 1))
            go_wp2_with fail
            refine (rfail_first y.line y.col y.line y.col ((RA _).drewN _).blk).mono ?_
            rintro e w1 ⟨rfl, h1, o1⟩
            have QB := ((QA _).drewN _).only o1 hqp
            have m3 := QB.cell 3
            have m4 := QB.cell 4
            simp at m3 m4
            go_wp2_with fail
            refine wp_region_still_tail 9 (by kernel_rfl) (by kernel_rfl) ?_
            simp only [List.take_succ_cons, List.take_zero, List.drop_succ_cons, List.drop_zero]
            change wpStill _ _ (w1.drewN 1) _ _ _
            repeat still_step
            refine wpStill_nil ?_
            change wpList _ _ _ _ _ (w1.drewN 1)
            go_wp2_with fail
            refine (rfail_more x.line x.col 3 (h1.drewN 1) (by decide)).mono ?_
            rintro e w2 ⟨rfl, rfl⟩
            go_wp2_with fail
            (first | go_end0 | refine bodyPost_ret (results_none rfl _ _ _) rfl ?_)
            exact ⟨rfl, TokAft.fault (by rw [E.out]; exact fail_bad (gy.bad.trans hb) _ _ _) (h1.drewN 1) (by decide) (QB.drewN 1), (((OA _).drewN _).trans (o1.more (by simp))).drewN 1⟩
      · have hlt : y.at_ < y.l.length := Fit.peek_lt (k := 0) (by
          rcases Int.lt_or_le (y.peek 0) 0 with h0 | h0
          · have := hex_neg _ h0; omega
          · exact h0)
        have A : Hid (∀ n, y.digits 10 n = y.step.digits 10 (min (n * 10 + Lx.hex (y.peek 0)) 4294967296)) := fun n => digits_step hs hlt
        have hs0 : 0 ≤ Lx.hex (y.peek 0) := by omega
        have hs1 : Lx.hex (y.peek 0) < 10 := by omega
        have hx := hex_rpk y
        have hlt' := hlt
        have hqp' : q ≠ p := Ne.symm hpq
        have RB : ∀ d a, Rf ((wr.drewN d).setCell ⟨q, 2, none⟩ a) p s y 0 := fun d a => ⟨(hy.blk.drewN d).far (p := ⟨q, 2, none⟩) hpq _, hy.src, hy.fit, hy.size⟩
        have QB : ∀ d a, Whole ((wr.drewN d).setCell ⟨q, 2, none⟩ a) q 28 #[.int .i64 2, txt, a, .int .i64 x.line, .int .i64 x.col] := fun d a => (by_.drewN d).put 2 _
        have OB : ∀ d a, Only [p, q] w ((wr.drewN d).setCell ⟨q, 2, none⟩ a) := fun d a => (oy.drewN d).setCell (.inl (by simp)) _
        have RB2 : ∀ d a b, Rf (((wr.drewN d).setCell ⟨q, 2, none⟩ a).setCell ⟨q, 2, none⟩ b) p s y 0 := fun d a b => ⟨(RB d a).blk.far (p := ⟨q, 2, none⟩) hpq _, hy.src, hy.fit, hy.size⟩
        have QB2 : ∀ d a b, Whole (((wr.drewN d).setCell ⟨q, 2, none⟩ a).setCell ⟨q, 2, none⟩ b) q 28 #[.int .i64 2, txt, b, .int .i64 x.line, .int .i64 x.col] := fun d a b => (QB d a).put 2 _
        have OB2 : ∀ d a b, Only [p, q] w (((wr.drewN d).setCell ⟨q, 2, none⟩ a).setCell ⟨q, 2, none⟩ b) := fun d a b => (OB d a).setCell (.inl (by simp)) _
        clear hs
        by_cases hw : 10 * tn + Lx.hex (y.peek 0) ≤ 4294967295
        · have hw' : ¬ (4294967295 : Int) < 10 * tn + Lx.hex (y.peek 0) := by omega
          go_wp2_with fail
          refine (rpeek_any hy).mono ?_
          rintro e w' ⟨rfl, d1, rfl⟩
          go_wp2_with fail
          refine (rhex_any _ _ (by omega) (by omega)).mono ?_
          rintro e w' ⟨rfl, rfl⟩
          rw [hx]
          go_wp2_with fail
          refine (rpass_any (RB _ _) hlt').mono ?_
          rintro e w1 ⟨rfl, h1, o1⟩
          go_wp2_with fail
          go_roundg (y.step.l.length - y.step.at_)
          case measure => rw [step_l, step_at]; omega
          case rel =>
            refine ⟨big, 10 * tn + Lx.hex (y.peek 0), txt, y.step, rfl, by omega, by omega, h1, (QB _ _).only o1 hqp, gy.trans (Goes.step y), ?_, ((OB _ _).trans (o1.more (by simp))), Nat.le_refl _⟩
            rw [← ey, A.out]
            congr 1
            cases big <;> simp <;> omega
        · have hw' : (4294967295 : Int) < 10 * tn + Lx.hex (y.peek 0) := by omega
          go_wp2_with fail
          refine (rpeek_any hy).mono ?_
          rintro e w' ⟨rfl, d1, rfl⟩
          go_wp2_with fail
          refine (rhex_any _ _ (by omega) (by omega)).mono ?_
          rintro e w' ⟨rfl, rfl⟩
          rw [hx]
          go_wp2_with fail
          refine (rpass_any (RB2 _ _ _) hlt').mono ?_
          rintro e w1 ⟨rfl, h1, o1⟩
          go_wp2_with fail
          go_roundg (y.step.l.length - y.step.at_)
          case measure => rw [step_l, step_at]; omega
          case rel =>
            refine ⟨true, 0, txt, y.step, rfl, by omega, by omega, h1, (QB2 _ _ _).only o1 hqp, gy.trans (Goes.step y), ?_, ((OB2 _ _ _).trans (o1.more (by simp))), Nat.le_refl _⟩
            rw [← ey, A.out]
            congr 1
            cases big <;> simp <;> omega
  · have HH := Lib.hid hh
    have l2 : x.step.at_ < x.step.l.length := by
      have : x.at_ + 1 < x.l.length := Fit.peek_lt (k := 1) (by simp [numHead] at hh; omega)
      rw [step_l, step_at]; exact this
    clear hh
    go_wp2_with fail
    refine (rpass_any q0 hlt).mono ?_
    rintro e w2 ⟨rfl, h2, o2⟩
    go_wp2_with fail
    refine (rpass_any h2 l2).mono ?_
    rintro e w3 ⟨rfl, h3, o3⟩
    obtain ⟨z, hz, gz, bz, oz, ez⟩ : ∃ z, Rf w3 p s z 0 ∧ Goes x z ∧ Whole w3 q 28 #[.int .i64 2, t0, .int .i64 0, .int .i64 x.line, .int .i64 x.col] ∧ Only [p, q] w w3 ∧ Hid (z = x.step.step) := ⟨x.step.step, h3, (Goes.step x).trans (Goes.step _), (g0.only o2 hqp).only o3 hqp, (o0.trans (o2.more (by simp))).trans (o3.more (by simp)), rfl⟩
    go_wp2_with fail
    go_loopg [6] (z.l.length - z.at_) (fun k v wr => RNumRel w p q s x z 16 k v wr)
    case atStart => exact ⟨false, 0, t0, z, rfl, by omega, by omega, hz, bz, gz, rfl, oz, Nat.le_refl _⟩
    case round =>
      obtain ⟨big, tn, txt, y, rfl, hn0, hn1, hy, by_, gy, ey, oy, ky⟩ := hrel
      have fy := hy.fit
      have bp := fy.peek_bd 0
      have bh := Lx_hex_bd (y.peek 0)
      have br := rpk_bd fy
      have k0 := hy.blk.cell 0
      have k1 := hy.blk.cell 1
      have k2 := hy.blk.cell 2
      have k3 := hy.blk.cell 3
      have m1 := by_.cell 1
      have m2 := by_.cell 2
      have m3 := by_.cell 3
      have m4 := by_.cell 4
      have n1 := by_.frozen 1
      have n2 := by_.frozen 2
      have i1 := hy.src.lt
      have i2 := pos_le hy.src y.at_ fy.at_
      have i3 : P ≤ pos s y.at_ := by
        have := pos_mono hy.src y.at_ x.at_ gy.at_ fy.at_
        rwa [eP.out] 
      simp at k0 k1 k2 k3 m1 m2 m3 m4
      have hqp' : q ≠ p := Ne.symm hpq
      have RA : ∀ d, Rf ((wr.drewN d).setCell ⟨q, 1, none⟩ (.string (s.extract P (pos s y.at_)))) p s y 0 := fun d => ⟨(hy.blk.drewN d).far (p := ⟨q, 1, none⟩) hpq _, hy.src, hy.fit, hy.size⟩
      have QA : ∀ d, Whole ((wr.drewN d).setCell ⟨q, 1, none⟩ (.string (s.extract P (pos s y.at_)))) q 28 #[.int .i64 2, .string (s.extract P (pos s y.at_)), .int .i64 tn, .int .i64 x.line, .int .i64 x.col] := fun d => (by_.drewN d).put 1 _
      have OA : ∀ d, Only [p, q] w ((wr.drewN d).setCell ⟨q, 1, none⟩ (.string (s.extract P (pos s y.at_)))) := fun d => (oy.drewN d).setCell (.inl (by simp)) _
      have NP := (number_prog h.fit hb hlt hd).fit
      have i4 : (P : Int) ≤ pos s y.at_ := by omega
      have i5 : (pos s y.at_ : Int) ≤ s.size := by omega
      by_cases hs : Lx.hex (y.peek 0) < 0 ∨ 16 ≤ Lx.hex (y.peek 0)
      · have A : Hid (z.digits 16 0 = (if big then 4294967296 else tn, y)) := by rw [← ey, digits_stop hs]; exact rfl
        clear ey
        have hx := hex_rpk y
        have ls := letter_rpk y
        rcases hl : Lx.letter (y.peek 0) with _ | _ <;> rcases big with _ | _
        · have E : Hid (x.number = y.put 2 [] tn x.line x.col) := by
            refine num_hex HH.out A.out ez.out ?_
            simp [hl]
            omega
          clear A
          go_wp2_with fail
          refine (rpeek_any hy).mono ?_
          rintro e w' ⟨rfl, d1, rfl⟩
          go_wp2_with fail
          refine (rhex_any _ _ (by omega) (by omega)).mono ?_
          rintro e w' ⟨rfl, rfl⟩
          rw [hx]
          go_wp2_with fail
          all_goals
            go_region
            go_wp2_with fail
            refine (rpeek_any (RA _)).mono ?_
            rintro e w' ⟨rfl, d2, rfl⟩
            go_wp2_with fail
            refine (rletter_any _ _).mono ?_
            rintro e w' ⟨rfl, rfl⟩
            rw [ls, hl]
            go_wp2_with fail
            (first | go_end0 | refine bodyPost_ret (results_none rfl _ _ _) rfl ?_)
            exact ⟨rfl, TokAft.tok ((RA _).drewN _) E.out NP (gy.bad.trans hb) gy.out ((QA _).drewN _) (fun h => absurd rfl h), (OA _).drewN _⟩
        · have E : Hid (x.number = y.fail x.line x.col 6) := by
            refine num_hex HH.out A.out ez.out ?_
            simp [hl]
          clear A
          go_wp2_with fail
          refine (rpeek_any hy).mono ?_
          rintro e w' ⟨rfl, d1, rfl⟩
          go_wp2_with fail
          refine (rhex_any _ _ (by omega) (by omega)).mono ?_
          rintro e w' ⟨rfl, rfl⟩
          rw [hx]
          go_wp2_with fail
          all_goals
            go_region
            go_wp2_with fail
            refine (rpeek_any (RA _)).mono ?_
            rintro e w' ⟨rfl, d2, rfl⟩
            go_wp2_with fail
            refine (rletter_any _ _).mono ?_
            rintro e w' ⟨rfl, rfl⟩
            rw [ls, hl]
            go_wp2_with fail
            refine wp_region_still_tail 9 (by kernel_rfl) (by kernel_rfl) ?_
            simp only [List.take_succ_cons, List.take_zero, List.drop_succ_cons, List.drop_zero]
            change wpStill _ _ (((wr.drewN (d1 + 1)).setCell ⟨q, 1, none⟩ (.string (s.extract P (pos s y.at_)))).drewN (d2 + 1)) _ _ _
            repeat still_step
            refine wpStill_nil ?_
            change wpList _ _ _ _ _ (((wr.drewN (d1 + 1)).setCell ⟨q, 1, none⟩ (.string (s.extract P (pos s y.at_)))).drewN (d2 + 1))
            go_wp2_with fail
            refine (rfail_first y.line y.col x.line x.col ((RA _).drewN _).blk).mono ?_
            rintro e w1 ⟨rfl, h1, o1⟩
            go_wp2_with fail
            (first | go_end0 | refine bodyPost_ret (results_none rfl _ _ _) rfl ?_)
            exact ⟨rfl, TokAft.fault (by rw [E.out]; exact fail_bad (gy.bad.trans hb) _ _ _) h1 (by decide) (((QA _).drewN _).only o1 hqp), ((OA _).drewN _).trans (o1.more (by simp))⟩
        · have E : Hid (x.number = y.fail y.line y.col 3) := by
            refine num_hex HH.out A.out ez.out ?_
            simp [hl]
          clear A
          go_wp2_with fail
          refine (rpeek_any hy).mono ?_
          rintro e w' ⟨rfl, d1, rfl⟩
          go_wp2_with fail
          refine (rhex_any _ _ (by omega) (by omega)).mono ?_
          rintro e w' ⟨rfl, rfl⟩
          rw [hx]
          go_wp2_with fail
          all_goals
            go_region
            go_wp2_with fail
            refine (rpeek_any (RA _)).mono ?_
            rintro e w' ⟨rfl, d2, rfl⟩
            go_wp2_with fail
            refine (rletter_any _ _).mono ?_
            rintro e w' ⟨rfl, rfl⟩
            rw [ls, hl]
            go_wp2_with fail
            refine wp_region_still_tail 9 (by kernel_rfl) (by kernel_rfl) ?_
            simp only [List.take_succ_cons, List.take_zero, List.drop_succ_cons, List.drop_zero]
            change wpStill _ _ (((wr.drewN (d1 + 1)).setCell ⟨q, 1, none⟩ (.string (s.extract P (pos s y.at_)))).drewN (d2 + 1)) _ _ _
            repeat still_step
            refine wpStill_nil ?_
            change wpList _ _ _ _ _ (((wr.drewN (d1 + 1)).setCell ⟨q, 1, none⟩ (.string (s.extract P (pos s y.at_)))).drewN (d2 + 1))
            go_wp2_with fail
            refine (rfail_first y.line y.col y.line y.col ((RA _).drewN _).blk).mono ?_
            rintro e w1 ⟨rfl, h1, o1⟩
            go_wp2_with fail
            (first | go_end0 | refine bodyPost_ret (results_none rfl _ _ _) rfl ?_)
            exact ⟨rfl, TokAft.fault (by rw [E.out]; exact fail_bad (gy.bad.trans hb) _ _ _) h1 (by decide) (((QA _).drewN _).only o1 hqp), ((OA _).drewN _).trans (o1.more (by simp))⟩
        · have E : Hid (x.number = y.fail y.line y.col 3) := by
            refine num_hex HH.out A.out ez.out ?_
            simp [hl]
          clear A
          go_wp2_with fail
          refine (rpeek_any hy).mono ?_
          rintro e w' ⟨rfl, d1, rfl⟩
          go_wp2_with fail
          refine (rhex_any _ _ (by omega) (by omega)).mono ?_
          rintro e w' ⟨rfl, rfl⟩
          rw [hx]
          go_wp2_with fail
          all_goals
            go_region
            go_wp2_with fail
            refine (rpeek_any (RA _)).mono ?_
            rintro e w' ⟨rfl, d2, rfl⟩
            go_wp2_with fail
            refine (rletter_any _ _).mono ?_
            rintro e w' ⟨rfl, rfl⟩
            rw [ls, hl]
            go_wp2_with fail
            refine wp_region_still_tail 9 (by kernel_rfl) (by kernel_rfl) ?_
            simp only [List.take_succ_cons, List.take_zero, List.drop_succ_cons, List.drop_zero]
            change wpStill _ _ (((wr.drewN (d1 + 1)).setCell ⟨q, 1, none⟩ (.string (s.extract P (pos s y.at_)))).drewN (d2 + 1)) _ _ _
            repeat still_step
            refine wpStill_nil ?_
            change wpList _ _ _ _ _ (((wr.drewN (d1 + 1)).setCell ⟨q, 1, none⟩ (.string (s.extract P (pos s y.at_)))).drewN (d2 + 1))
            go_wp2_with fail
            refine (rfail_first y.line y.col y.line y.col ((RA _).drewN _).blk).mono ?_
            rintro e w1 ⟨rfl, h1, o1⟩
            have QB := ((QA _).drewN _).only o1 hqp
            have m3 := QB.cell 3
            have m4 := QB.cell 4
            simp at m3 m4
            go_wp2_with fail
            refine wp_region_still_tail 9 (by kernel_rfl) (by kernel_rfl) ?_
            simp only [List.take_succ_cons, List.take_zero, List.drop_succ_cons, List.drop_zero]
            change wpStill _ _ (w1.drewN 1) _ _ _
            repeat still_step
            refine wpStill_nil ?_
            change wpList _ _ _ _ _ (w1.drewN 1)
            go_wp2_with fail
            refine (rfail_more x.line x.col 3 (h1.drewN 1) (by decide)).mono ?_
            rintro e w2 ⟨rfl, rfl⟩
            go_wp2_with fail
            (first | go_end0 | refine bodyPost_ret (results_none rfl _ _ _) rfl ?_)
            exact ⟨rfl, TokAft.fault (by rw [E.out]; exact fail_bad (gy.bad.trans hb) _ _ _) (h1.drewN 1) (by decide) (QB.drewN 1), (((OA _).drewN _).trans (o1.more (by simp))).drewN 1⟩
      · have hlt : y.at_ < y.l.length := Fit.peek_lt (k := 0) (by
          rcases Int.lt_or_le (y.peek 0) 0 with h0 | h0
          · have := hex_neg _ h0; omega
          · exact h0)
        have A : Hid (∀ n, y.digits 16 n = y.step.digits 16 (min (n * 16 + Lx.hex (y.peek 0)) 4294967296)) := fun n => digits_step hs hlt
        have hs0 : 0 ≤ Lx.hex (y.peek 0) := by omega
        have hs1 : Lx.hex (y.peek 0) < 16 := by omega
        have hx := hex_rpk y
        have hlt' := hlt
        have hqp' : q ≠ p := Ne.symm hpq
        have RB : ∀ d a, Rf ((wr.drewN d).setCell ⟨q, 2, none⟩ a) p s y 0 := fun d a => ⟨(hy.blk.drewN d).far (p := ⟨q, 2, none⟩) hpq _, hy.src, hy.fit, hy.size⟩
        have QB : ∀ d a, Whole ((wr.drewN d).setCell ⟨q, 2, none⟩ a) q 28 #[.int .i64 2, txt, a, .int .i64 x.line, .int .i64 x.col] := fun d a => (by_.drewN d).put 2 _
        have OB : ∀ d a, Only [p, q] w ((wr.drewN d).setCell ⟨q, 2, none⟩ a) := fun d a => (oy.drewN d).setCell (.inl (by simp)) _
        have RB2 : ∀ d a b, Rf (((wr.drewN d).setCell ⟨q, 2, none⟩ a).setCell ⟨q, 2, none⟩ b) p s y 0 := fun d a b => ⟨(RB d a).blk.far (p := ⟨q, 2, none⟩) hpq _, hy.src, hy.fit, hy.size⟩
        have QB2 : ∀ d a b, Whole (((wr.drewN d).setCell ⟨q, 2, none⟩ a).setCell ⟨q, 2, none⟩ b) q 28 #[.int .i64 2, txt, b, .int .i64 x.line, .int .i64 x.col] := fun d a b => (QB d a).put 2 _
        have OB2 : ∀ d a b, Only [p, q] w (((wr.drewN d).setCell ⟨q, 2, none⟩ a).setCell ⟨q, 2, none⟩ b) := fun d a b => (OB d a).setCell (.inl (by simp)) _
        clear hs
        by_cases hw : 16 * tn + Lx.hex (y.peek 0) ≤ 4294967295
        · have hw' : ¬ (4294967295 : Int) < 16 * tn + Lx.hex (y.peek 0) := by omega
          go_wp2_with fail
          refine (rpeek_any hy).mono ?_
          rintro e w' ⟨rfl, d1, rfl⟩
          go_wp2_with fail
          refine (rhex_any _ _ (by omega) (by omega)).mono ?_
          rintro e w' ⟨rfl, rfl⟩
          rw [hx]
          go_wp2_with fail
          refine (rpass_any (RB _ _) hlt').mono ?_
          rintro e w1 ⟨rfl, h1, o1⟩
          go_wp2_with fail
          go_roundg (y.step.l.length - y.step.at_)
          case measure => rw [step_l, step_at]; omega
          case rel =>
            refine ⟨big, 16 * tn + Lx.hex (y.peek 0), txt, y.step, rfl, by omega, by omega, h1, (QB _ _).only o1 hqp, gy.trans (Goes.step y), ?_, ((OB _ _).trans (o1.more (by simp))), Nat.le_refl _⟩
            rw [← ey, A.out]
            congr 1
            cases big <;> simp <;> omega
        · have hw' : (4294967295 : Int) < 16 * tn + Lx.hex (y.peek 0) := by omega
          go_wp2_with fail
          refine (rpeek_any hy).mono ?_
          rintro e w' ⟨rfl, d1, rfl⟩
          go_wp2_with fail
          refine (rhex_any _ _ (by omega) (by omega)).mono ?_
          rintro e w' ⟨rfl, rfl⟩
          rw [hx]
          go_wp2_with fail
          refine (rpass_any (RB2 _ _ _) hlt').mono ?_
          rintro e w1 ⟨rfl, h1, o1⟩
          go_wp2_with fail
          go_roundg (y.step.l.length - y.step.at_)
          case measure => rw [step_l, step_at]; omega
          case rel =>
            refine ⟨true, 0, txt, y.step, rfl, by omega, by omega, h1, (QB2 _ _ _).only o1 hqp, gy.trans (Goes.step y), ?_, ((OB2 _ _ _).trans (o1.more (by simp))), Nat.le_refl _⟩
            rw [← ey, A.out]
            congr 1
            cases big <;> simp <;> omega
end
end Go.Proofs.YtoidmljhlekbkaaDoor
