/-
  The document's lexer: the walk of a rune in quotes. Printed by wip/lexer/gen_rchar.py.
-/
import Derived.Test.YtoidmljhlekbkaaDoorR5
namespace Go.Proofs.YtoidmljhlekbkaaDoor
open Go.RowKit
theorem rpk_cut {y : Lx.St} (f : Fit y) (h : rpk y = -2) : y.peek 0 = -1 ∧ y.cut = true ∧ y.at_ = y.l.length := by
  have := f.peek_bd 0
  have := f.at_
  unfold rpk at h
  split at h
  · omega
  · split at h
    · rename_i h1 h2
      exact ⟨by rw [peek_getD, List.getD_eq_getElem?_getD, List.getElem?_eq_none (by omega)]; rfl, h2, by omega⟩
    · omega
theorem rpk_on {y : Lx.St} (h : rpk y ≠ -2) : y.peek 0 = rpk y ∧ ¬ (y.cut = true ∧ y.at_ = y.l.length) := by
  unfold rpk at *
  split at h
  · rename_i h1
    exact ⟨by rw [if_pos h1], by omega⟩
  · split at h
    · exact absurd rfl h
    · rename_i h1 h2
      exact ⟨by rw [if_neg h1, if_neg h2, peek_getD, List.getD_eq_getElem?_getD, List.getElem?_eq_none (by omega)]; rfl, fun h => h2 h.1⟩
theorem quote_cut {y : Lx.St} (h : y.cut = true ∧ y.at_ = y.l.length) (a b : Int) : y.quote a b = y.fail y.line y.col 4 := by unfold Lx.St.quote; rw [if_pos h]
theorem quote_on {y : Lx.St} (h : ¬ (y.cut = true ∧ y.at_ = y.l.length)) (a b : Int) : y.quote a b = y.fail a b 3 := by unfold Lx.St.quote; rw [if_neg h]
/-- What the quoted rune's end says. -/
def qEnd (x u : Lx.St) (v : Int) : Lx.St := if u.peek 0 = 39 then u.step.put 2 [] v x.line x.col else u.quote x.line x.col
theorem qEnd_cut {x u : Lx.St} {v : Int} (f : Fit u) (h : rpk u = -2) : qEnd x u v = u.fail u.line u.col 4 := by
  have := rpk_cut f h
  unfold qEnd
  rw [if_neg (by omega), quote_cut this.2]
theorem qEnd_not {x u : Lx.St} {v : Int} (h : rpk u ≠ -2) (h' : rpk u ≠ 39) : qEnd x u v = u.fail x.line x.col 3 := by
  have := rpk_on h
  unfold qEnd
  rw [if_neg (by omega), quote_on this.2]
theorem qEnd_on {x u : Lx.St} {v : Int} (h' : rpk u = 39) : qEnd x u v = u.step.put 2 [] v x.line x.col := by
  have := (rpk_on (y := u) (by omega)).1
  unfold qEnd
  rw [if_pos (by omega)]
theorem quoted_cut {x : Lx.St} (f : Fit x.step) (h : rpk x.step = -2) : x.quoted = x.step.fail x.step.line x.step.col 4 := by
  have := rpk_cut f h
  unfold Lx.St.quoted Lx.St.escaped
  simp [this.1]
  exact quote_cut this.2 _ _
theorem esc_no {y : Lx.St} {e : Int} (h : y.peek 0 = 10 ∨ y.peek 0 < 0) : y.escaped e = (-1, y) := by unfold Lx.St.escaped; simp only; rw [if_pos h]
theorem esc_rune {y : Lx.St} {e : Int} (h : ¬ (y.peek 0 = 10 ∨ y.peek 0 < 0)) (h' : y.peek 0 ≠ 92) : y.escaped e = (y.peek 0, y.step) := by unfold Lx.St.escaped; simp only; rw [if_neg h, if_pos h']
theorem esc_back {y : Lx.St} {e : Int} (h : y.peek 0 = 92) : y.escaped e = if y.step.peek 0 = 110 then (10, y.step.step) else if y.step.peek 0 = 92 ∨ y.step.peek 0 = e then (y.step.peek 0, y.step.step) else (-1, y.step) := by
  unfold Lx.St.escaped; simp only; rw [if_neg (by omega), if_neg (by omega)]
theorem escV_cases (r q : Int) : (r = 110 ∧ escV r q = 10) ∨ (r ≠ 110 ∧ (r = 92 ∨ r = q) ∧ escV r q = r) ∨ (r ≠ 110 ∧ ¬ (r = 92 ∨ r = q) ∧ escV r q = -1) := by
  unfold escV
  by_cases h1 : r = 110
  · simp [h1]
  · by_cases h2 : r = 92 ∨ r = q
    · exact .inr (.inl ⟨h1, h2, by rw [if_neg h1, if_pos h2]⟩)
    · exact .inr (.inr ⟨h1, h2, by rw [if_neg h1, if_neg h2]⟩)
/-- Behind a backslash: a rune, or none. -/
theorem esc_on {y : Lx.St} {e : Int} (_ : 0 ≤ e) (h : rpk y = 92) (h' : rpk y.step ≠ -2) (h0 : ¬ escV (rpk y.step) e < 0) : y.escaped e = (escV (rpk y.step) e, y.step.step) := by
  have a := (rpk_on (y := y) (by omega)).1
  have b := (rpk_on h').1
  rw [esc_back (by omega), b]
  rcases escV_cases (rpk y.step) e with ⟨c, d⟩ | ⟨c, c', d⟩ | ⟨c, c', d⟩
  · rw [if_pos c, d]
  · rw [if_neg c, if_pos c', d]
  · omega
theorem esc_off {y : Lx.St} {e : Int} (he : 0 ≤ e) (h : rpk y = 92) (h' : rpk y.step ≠ -2) (h0 : escV (rpk y.step) e < 0) : y.escaped e = (-1, y.step) := by
  have a := (rpk_on (y := y) (by omega)).1
  have b := (rpk_on h').1
  rw [esc_back (by omega), b]
  rcases escV_cases (rpk y.step) e with ⟨c, d⟩ | ⟨c, c', d⟩ | ⟨c, c', d⟩
  · omega
  · rw [if_neg c]
    rcases c' with c' | c' <;> omega
  · rw [if_neg c, if_neg c']
theorem esc_cut {y : Lx.St} {e : Int} (he : 0 ≤ e) (h : rpk y = 92) (f : Fit y.step) (h' : rpk y.step = -2) : y.escaped e = (-1, y.step) := by
  have a := (rpk_on (y := y) (by omega)).1
  have b := (rpk_cut f h').1
  rw [esc_back (by omega), b, if_neg (by omega), if_neg (by omega)]
theorem quoted_eq {x u : Lx.St} {v : Int} (h39 : x.step.peek 0 ≠ 39) (h : x.step.escaped 39 = (v, u)) : x.quoted = if v < 0 ∨ u.peek 0 ≠ 39 then u.quote x.line x.col else u.step.put 2 [] v x.line x.col := by
  unfold Lx.St.quoted
  simp only
  rw [if_neg h39, h]
theorem quoted_bad {x u : Lx.St} (h39 : x.step.peek 0 ≠ 39) (h : x.step.escaped 39 = (-1, u)) : x.quoted = u.quote x.line x.col := by
  rw [quoted_eq h39 h, if_pos (.inl (by decide))]
theorem quoted_good {x u : Lx.St} {v : Int} (h39 : x.step.peek 0 ≠ 39) (h : x.step.escaped 39 = (v, u)) (hv : ¬ v < 0) : x.quoted = qEnd x u v := by
  rw [quoted_eq h39 h]
  unfold qEnd
  by_cases h39 : u.peek 0 = 39
  · rw [if_pos h39, if_neg (by omega)]
  · rw [if_neg h39, if_pos (.inr h39)]
theorem quoted_no {x : Lx.St} (h : rpk x.step ≠ -2) (h' : rpk x.step < 0 ∨ rpk x.step = 10 ∨ rpk x.step = 39) : x.quoted = x.step.fail x.line x.col 3 := by
  have := rpk_on h
  rw [← this.1] at h'
  by_cases h39 : x.step.peek 0 = 39
  · unfold Lx.St.quoted
    simp only
    rw [if_pos h39, quote_on this.2]
  · rw [quoted_bad h39 (esc_no (by omega)), quote_on this.2]
theorem quoted_rune {x : Lx.St} (h : rpk x.step ≠ -2) (h0 : ¬ rpk x.step < 0) (h1 : rpk x.step ≠ 10) (h2 : rpk x.step ≠ 39) (h3 : rpk x.step ≠ 92) : x.quoted = qEnd x x.step.step (rpk x.step) := by
  have e := (rpk_on h).1
  have := quoted_good (x := x) (by omega) (esc_rune (by omega) (by omega)) (by omega)
  rwa [e] at this
theorem quoted_esc_cut {x : Lx.St} (h3 : rpk x.step = 92) (f : Fit x.step.step) (h : rpk x.step.step = -2) : x.quoted = x.step.step.fail x.step.step.line x.step.step.col 4 := by
  have e := (rpk_on (y := x.step) (by omega)).1
  rw [quoted_bad (by omega) (esc_cut (by decide) h3 f h), quote_cut (rpk_cut f h).2]
theorem quoted_esc_no {x : Lx.St} (h3 : rpk x.step = 92) (h : rpk x.step.step ≠ -2) (h' : escV (rpk x.step.step) 39 < 0) : x.quoted = x.step.step.fail x.line x.col 3 := by
  have e := (rpk_on (y := x.step) (by omega)).1
  rw [quoted_bad (by omega) (esc_off (by decide) h3 h h'), quote_on (rpk_on h).2]
theorem quoted_esc {x : Lx.St} (h3 : rpk x.step = 92) (h : rpk x.step.step ≠ -2) (h' : ¬ escV (rpk x.step.step) 39 < 0) : x.quoted = qEnd x x.step.step.step (escV (rpk x.step.step) 39) := by
  have e := (rpk_on (y := x.step) (by omega)).1
  exact quoted_good (by omega) (esc_on (by decide) h3 h h') h'
theorem rpk_lt0 {y : Lx.St} (h : rpk y ≠ -2) (h0 : ¬ rpk y < 0) : y.at_ < y.l.length := by
  have := rpk_on h
  refine getD_neg y.l (y.at_ + 0) ?_
  rw [← peek_getD]
  omega
theorem escV_bd {r : Int} (h : r ≤ 1114111) (q : Int) : escV r q ≤ 1114111 := by unfold escV; split <;> (try split) <;> omega
theorem escV_m1 (q : Int) (hq : q ≠ -1) : escV (-1) q = -1 := by unfold escV; rw [if_neg (by decide), if_neg (by omega)]
theorem escV_on {y : Lx.St} {q : Int} (f : Fit y) (hq : q ≠ -1) (h : rpk y ≠ -2) (h0 : ¬ escV (rpk y) q < 0) : y.at_ < y.l.length := by
  refine rpk_lt0 h fun h1 => h0 ?_
  have := rpk_bd f
  have e : rpk y = -1 := by omega
  rw [e, escV_m1 q hq]
  decide
/-- Between the rune and its end. -/
def QuotMid (w0 : World) (p q : Nat) (s : ByteArray) (x : Lx.St) (t0 : ByteArray) (n0 : Int) (a _b : Value) (wx : World) : Prop :=
  ∃ u v, a = .int .i64 v ∧ 0 ≤ v ∧ v ≤ 1114111 ∧ Rf wx p s u 0 ∧ Goes x u ∧ Whole wx q 28 #[.int .i64 2, .string t0, .int .i64 n0, .int .i64 x.line, .int .i64 x.col] ∧ Only [p, q] w0 wx ∧ Hid (x.quoted = qEnd x u v)
section
variable {w : World} {p : Nat} {s : ByteArray} {x : Lx.St}
set_option maxRecDepth 100000 in
set_option maxHeartbeats 4000000 in
theorem rchar_any {k0 : Value} {t0 : ByteArray} {n0 : Int} {q : Nat} (h : Rf w p s x 0) (hb : x.bad = none) (hlt : x.at_ < x.l.length) (hq : Whole w q 28 #[k0, .string t0, .int .i64 n0, .int .i64 x.line, .int .i64 x.col]) :
    Calls Tryd.prog 27 #[.pointer (some ⟨p, 0, none⟩), .pointer (some ⟨q, 0, none⟩)] w fun e w' => e = .returned (.tuple #[]) ∧ TokAft w' p q s x.line x.col x x.quoted ∧ Only [p, q] w w' := by
  have hpq : p ≠ q := h.blk.kind hq (by decide)
  have hqp : q ∉ [p] := by simp; omega
  have hqp' : q ≠ p := Ne.symm hpq
  have u0 := hq.cell 0
  have v0 := hq.frozen 0
  have c1 := h.blk.cell 1
  simp at u0 c1
  have NP := Lib.hid (quoted_prog h.fit hb hlt).fit
  have fx := h.fit
  have h0 : Rf (w.setCell ⟨q, 0, none⟩ (.int .i64 2)) p s x 0 := ⟨h.blk.far (p := ⟨q, 0, none⟩) hpq _, h.src, h.fit, h.size⟩
  have g0 : Whole (w.setCell ⟨q, 0, none⟩ (.int .i64 2)) q 28 #[.int .i64 2, .string t0, .int .i64 n0, .int .i64 x.line, .int .i64 x.col] := hq.put 0 _
  have o0 : Only [p, q] w (w.setCell ⟨q, 0, none⟩ (.int .i64 2)) := (Only.refl _ _).setCell (.inl (by simp)) _
  have hs1 := h.src
  have hz1 := h.size
  have i3 := pos_le hs1 x.at_ fx.at_
  clear h hq
  go_enter Tryd.func27, Tryd.ntmps27
  go_wp2_with fail
  refine (rpass_any h0 hlt).mono ?_
  rintro e w1 ⟨rfl, h1, oo1⟩
  have g1 : Whole w1 q 28 #[.int .i64 2, .string t0, .int .i64 n0, .int .i64 x.line, .int .i64 x.col] := g0.only oo1 hqp
  have o1 : Only [p, q] w w1 := o0.trans (oo1.more (by simp))
  clear oo1
  have f1 := h1.fit
  have br := rpk_bd f1
  by_cases c2 : rpk x.step = -2
  · have E : Hid (x.quoted = x.step.fail x.step.line x.step.col 4) := quoted_cut f1 c2
    have e1 : (rpk x.step == -2) = true := by simp [c2]
    have gy : Goes x x.step := Goes.step x
    go_wp2_with fail
    refine (rpeek_any h1).mono ?_
    rintro e w2 ⟨rfl, d2, ew2⟩
    have h2 : Rf w2 p s x.step 0 := by rw [ew2]; exact h1.drewN _
    have g2 : Whole w2 q 28 #[.int .i64 2, .string t0, .int .i64 n0, .int .i64 x.line, .int .i64 x.col] := by rw [ew2]; exact g1.drewN _
    have o2 : Only [p, q] w w2 := by rw [ew2]; exact o1.drewN _
    clear ew2
    have k2 := h2.blk.cell 2
    have k3 := h2.blk.cell 3
    simp at k2 k3
    go_wp2_with fail
    refine wp_region_still_tail 9 (by kernel_rfl) (by kernel_rfl) ?_
    simp only [List.take_succ_cons, List.take_zero, List.drop_succ_cons, List.drop_zero]
    change wpStill _ _ (w2.drewN 1) _ _ _
    repeat still_step
    refine wpStill_nil ?_
    change wpList _ _ _ _ _ (w2.drewN 1)
    go_wp2_with fail
    refine (rfail_first x.step.line x.step.col x.step.line x.step.col (h2.blk.drewN 1)).mono ?_
    rintro e w9 ⟨rfl, h9, o9⟩
    go_wp2_with fail
    (first | go_end0 | refine bodyPost_ret (results_none rfl _ _ _) rfl ?_)
    exact ⟨rfl, TokAft.fault (by rw [E.out]; exact fail_bad (gy.bad.trans hb) _ _ _) h9 (by decide) ((g2.drewN 1).only o9 hqp), (o2.drewN 1).trans (o9.more (by simp))⟩
  have e1 : (rpk x.step == -2) = false := by simp [c2]
  by_cases c3 : rpk x.step < 0 ∨ rpk x.step = 10 ∨ rpk x.step = 39
  · have E : Hid (x.quoted = x.step.fail x.line x.col 3) := quoted_no c2 c3
    have gy : Goes x x.step := Goes.step x
    rcases c3 with c3 | c3 | c3
    · go_wp2_with fail
      refine (rpeek_any h1).mono ?_
      rintro e w2 ⟨rfl, d2, ew2⟩
      have h2 : Rf w2 p s x.step 0 := by rw [ew2]; exact h1.drewN _
      have g2 : Whole w2 q 28 #[.int .i64 2, .string t0, .int .i64 n0, .int .i64 x.line, .int .i64 x.col] := by rw [ew2]; exact g1.drewN _
      have o2 : Only [p, q] w w2 := by rw [ew2]; exact o1.drewN _
      clear ew2
      have k2 := g2.cell 3
      have k3 := g2.cell 4
      simp at k2 k3
      go_wp2_with fail
      refine wp_region_still_tail 9 (by kernel_rfl) (by kernel_rfl) ?_
      simp only [List.take_succ_cons, List.take_zero, List.drop_succ_cons, List.drop_zero]
      change wpStill _ _ (w2.drewN 1) _ _ _
      repeat still_step
      refine wpStill_nil ?_
      change wpList _ _ _ _ _ (w2.drewN 1)
      go_wp2_with fail
      refine (rfail_first x.step.line x.step.col x.line x.col (h2.blk.drewN 1)).mono ?_
      rintro e w9 ⟨rfl, h9, o9⟩
      go_wp2_with fail
      (first | go_end0 | refine bodyPost_ret (results_none rfl _ _ _) rfl ?_)
      exact ⟨rfl, TokAft.fault (by rw [E.out]; exact fail_bad (gy.bad.trans hb) _ _ _) h9 (by decide) ((g2.drewN 1).only o9 hqp), (o2.drewN 1).trans (o9.more (by simp))⟩
    · have e2 : ¬ rpk x.step < 0 := by omega
      have e3 : (rpk x.step == 10) = true := by simp [c3]
      go_wp2_with fail
      refine (rpeek_any h1).mono ?_
      rintro e w2 ⟨rfl, d2, ew2⟩
      have h2 : Rf w2 p s x.step 0 := by rw [ew2]; exact h1.drewN _
      have g2 : Whole w2 q 28 #[.int .i64 2, .string t0, .int .i64 n0, .int .i64 x.line, .int .i64 x.col] := by rw [ew2]; exact g1.drewN _
      have o2 : Only [p, q] w w2 := by rw [ew2]; exact o1.drewN _
      clear ew2
      have k2 := g2.cell 3
      have k3 := g2.cell 4
      simp at k2 k3
      go_wp2_with fail
      refine wp_region_still_tail 9 (by kernel_rfl) (by kernel_rfl) ?_
      simp only [List.take_succ_cons, List.take_zero, List.drop_succ_cons, List.drop_zero]
      change wpStill _ _ (w2.drewN 1) _ _ _
      repeat still_step
      refine wpStill_nil ?_
      change wpList _ _ _ _ _ (w2.drewN 1)
      go_wp2_with fail
      refine (rfail_first x.step.line x.step.col x.line x.col (h2.blk.drewN 1)).mono ?_
      rintro e w9 ⟨rfl, h9, o9⟩
      go_wp2_with fail
      (first | go_end0 | refine bodyPost_ret (results_none rfl _ _ _) rfl ?_)
      exact ⟨rfl, TokAft.fault (by rw [E.out]; exact fail_bad (gy.bad.trans hb) _ _ _) h9 (by decide) ((g2.drewN 1).only o9 hqp), (o2.drewN 1).trans (o9.more (by simp))⟩
    · have e2 : ¬ rpk x.step < 0 := by omega
      have e3 : (rpk x.step == 10) = false := by simp; omega
      have e4 : (rpk x.step == 39) = true := by simp [c3]
      go_wp2_with fail
      refine (rpeek_any h1).mono ?_
      rintro e w2 ⟨rfl, d2, ew2⟩
      have h2 : Rf w2 p s x.step 0 := by rw [ew2]; exact h1.drewN _
      have g2 : Whole w2 q 28 #[.int .i64 2, .string t0, .int .i64 n0, .int .i64 x.line, .int .i64 x.col] := by rw [ew2]; exact g1.drewN _
      have o2 : Only [p, q] w w2 := by rw [ew2]; exact o1.drewN _
      clear ew2
      have k2 := g2.cell 3
      have k3 := g2.cell 4
      simp at k2 k3
      go_wp2_with fail
      refine wp_region_still_tail 9 (by kernel_rfl) (by kernel_rfl) ?_
      simp only [List.take_succ_cons, List.take_zero, List.drop_succ_cons, List.drop_zero]
      change wpStill _ _ (w2.drewN 1) _ _ _
      repeat still_step
      refine wpStill_nil ?_
      change wpList _ _ _ _ _ (w2.drewN 1)
      go_wp2_with fail
      refine (rfail_first x.step.line x.step.col x.line x.col (h2.blk.drewN 1)).mono ?_
      rintro e w9 ⟨rfl, h9, o9⟩
      go_wp2_with fail
      (first | go_end0 | refine bodyPost_ret (results_none rfl _ _ _) rfl ?_)
      exact ⟨rfl, TokAft.fault (by rw [E.out]; exact fail_bad (gy.bad.trans hb) _ _ _) h9 (by decide) ((g2.drewN 1).only o9 hqp), (o2.drewN 1).trans (o9.more (by simp))⟩
  have e2 : ¬ rpk x.step < 0 := fun h => c3 (.inl h)
  have c4 : rpk x.step ≠ 10 := fun h => c3 (.inr (.inl h))
  have c5 : rpk x.step ≠ 39 := fun h => c3 (.inr (.inr h))
  have e3 : (rpk x.step == 10) = false := by simp [c4]
  have e4 : (rpk x.step == 39) = false := by simp [c5]
  have l1 := rpk_lt0 c2 e2
  clear c3
  go_wp2_with fail
  refine (rpeek_any h1).mono ?_
  rintro e w2 ⟨rfl, d2, ew2⟩
  have h2 : Rf w2 p s x.step 0 := by rw [ew2]; exact h1.drewN _
  have g2 : Whole w2 q 28 #[.int .i64 2, .string t0, .int .i64 n0, .int .i64 x.line, .int .i64 x.col] := by rw [ew2]; exact g1.drewN _
  have o2 : Only [p, q] w w2 := by rw [ew2]; exact o1.drewN _
  clear ew2
  go_wp2_with fail
  refine (rpass_any h2 l1).mono ?_
  rintro e w3 ⟨rfl, h3, oo3⟩
  have g3 : Whole w3 q 28 #[.int .i64 2, .string t0, .int .i64 n0, .int .i64 x.line, .int .i64 x.col] := g2.only oo3 hqp
  have o3 : Only [p, q] w w3 := o2.trans (oo3.more (by simp))
  clear oo3
  go_upto_if 54 with (fail)
  go_cut [5, 6] (fun a b wx => QuotMid w p q s x t0 n0 a b wx)
  case first =>
    by_cases c6 : rpk x.step = 92
    · have e5 : (rpk x.step == 92) = true := by simp [c6]
      have f3 := h3.fit
      have br3 := rpk_bd f3
      by_cases c7 : rpk x.step.step = -2
      · have E : Hid (x.quoted = x.step.step.fail x.step.step.line x.step.step.col 4) := quoted_esc_cut c6 f3 c7
        have e6 : (rpk x.step.step == -2) = true := by simp [c7]
        have gy : Goes x x.step.step := (Goes.step x).trans (Goes.step _)
        go_wp2_with fail
        refine (rpeek_any h3).mono ?_
        rintro e w4 ⟨rfl, d4, ew4⟩
        have h4 : Rf w4 p s x.step.step 0 := by rw [ew4]; exact h3.drewN _
        have g4 : Whole w4 q 28 #[.int .i64 2, .string t0, .int .i64 n0, .int .i64 x.line, .int .i64 x.col] := by rw [ew4]; exact g3.drewN _
        have o4 : Only [p, q] w w4 := by rw [ew4]; exact o3.drewN _
        clear ew4
        have k2 := h4.blk.cell 2
        have k3 := h4.blk.cell 3
        simp at k2 k3
        go_wp2_with fail
        refine wp_region_still_tail 9 (by kernel_rfl) (by kernel_rfl) ?_
        simp only [List.take_succ_cons, List.take_zero, List.drop_succ_cons, List.drop_zero]
        change wpStill _ _ (w4.drewN 1) _ _ _
        repeat still_step
        refine wpStill_nil ?_
        change wpList _ _ _ _ _ (w4.drewN 1)
        go_wp2_with fail
        refine (rfail_first x.step.step.line x.step.step.col x.step.step.line x.step.step.col (h4.blk.drewN 1)).mono ?_
        rintro e w9 ⟨rfl, h9, o9⟩
        go_wp2_with fail
        (first | go_end0 | refine bodyPost_ret (results_none rfl _ _ _) rfl ?_)
        exact ⟨rfl, TokAft.fault (by rw [E.out]; exact fail_bad (gy.bad.trans hb) _ _ _) h9 (by decide) ((g4.drewN 1).only o9 hqp), (o4.drewN 1).trans (o9.more (by simp))⟩
      have e6 : (rpk x.step.step == -2) = false := by simp [c7]
      by_cases c8 : escV (rpk x.step.step) 39 < 0
      · have E : Hid (x.quoted = x.step.step.fail x.line x.col 3) := quoted_esc_no c6 c7 c8
        have gy : Goes x x.step.step := (Goes.step x).trans (Goes.step _)
        go_wp2_with fail
        refine (rpeek_any h3).mono ?_
        rintro e w4 ⟨rfl, d4, ew4⟩
        have h4 : Rf w4 p s x.step.step 0 := by rw [ew4]; exact h3.drewN _
        have g4 : Whole w4 q 28 #[.int .i64 2, .string t0, .int .i64 n0, .int .i64 x.line, .int .i64 x.col] := by rw [ew4]; exact g3.drewN _
        have o4 : Only [p, q] w w4 := by rw [ew4]; exact o3.drewN _
        clear ew4
        go_wp2_with fail
        refine (rescape_any _ _ _).mono ?_
        rintro e w' ⟨rfl, ew⟩
        have ew' := ew.symm
        subst ew'
        have k2 := g4.cell 3
        have k3 := g4.cell 4
        simp at k2 k3
        go_wp2_with fail
        refine wp_region_still_tail 9 (by kernel_rfl) (by kernel_rfl) ?_
        simp only [List.take_succ_cons, List.take_zero, List.drop_succ_cons, List.drop_zero]
        change wpStill _ _ (w4.drewN 1) _ _ _
        repeat still_step
        refine wpStill_nil ?_
        change wpList _ _ _ _ _ (w4.drewN 1)
        go_wp2_with fail
        refine (rfail_first x.step.step.line x.step.step.col x.line x.col (h4.blk.drewN 1)).mono ?_
        rintro e w9 ⟨rfl, h9, o9⟩
        go_wp2_with fail
        (first | go_end0 | refine bodyPost_ret (results_none rfl _ _ _) rfl ?_)
        exact ⟨rfl, TokAft.fault (by rw [E.out]; exact fail_bad (gy.bad.trans hb) _ _ _) h9 (by decide) ((g4.drewN 1).only o9 hqp), (o4.drewN 1).trans (o9.more (by simp))⟩
      have c9 := escV_bd br3.2 39
      have l3 := escV_on f3 (by decide) c7 c8
      have E : Hid (x.quoted = qEnd x x.step.step.step (escV (rpk x.step.step) 39)) := quoted_esc c6 c7 c8
      go_wp2_with fail
      refine (rpeek_any h3).mono ?_
      rintro e w4 ⟨rfl, d4, ew4⟩
      have h4 : Rf w4 p s x.step.step 0 := by rw [ew4]; exact h3.drewN _
      have g4 : Whole w4 q 28 #[.int .i64 2, .string t0, .int .i64 n0, .int .i64 x.line, .int .i64 x.col] := by rw [ew4]; exact g3.drewN _
      have o4 : Only [p, q] w w4 := by rw [ew4]; exact o3.drewN _
      clear ew4
      go_wp2_with fail
      refine (rescape_any _ _ _).mono ?_
      rintro e w' ⟨rfl, ew⟩
      have ew' := ew.symm
      subst ew'
      go_wp2_with fail
      refine (rpass_any h4 l3).mono ?_
      rintro e w5 ⟨rfl, h5, oo5⟩
      have g5 : Whole w5 q 28 #[.int .i64 2, .string t0, .int .i64 n0, .int .i64 x.line, .int .i64 x.col] := g4.only oo5 hqp
      have o5 : Only [p, q] w w5 := o4.trans (oo5.more (by simp))
      clear oo5
      go_wp2_with fail
      go_meet
      exact ⟨_, _, rfl, by omega, c9, h5, ((Goes.step x).trans (Goes.step _)).trans (Goes.step _), g5, o5, E⟩
    · have e5 : (rpk x.step == 92) = false := by simp [c6]
      have E : Hid (x.quoted = qEnd x x.step.step (rpk x.step)) := quoted_rune c2 (by omega) c4 c5 c6
      go_wp2_with fail
      go_meet
      exact ⟨_, _, rfl, by omega, br.2, h3, (Goes.step x).trans (Goes.step _), g3, o3, E⟩
  case rest =>
  clear h0 h1 h2 h3 g0 g1 g2 g3 o0 o1 o2 o3 u0 v0
  obtain ⟨u, v, rfl, v0, v1, h3, gy, g3, o3, EQ⟩ := hcut
  have f3 := h3.fit
  by_cases d2 : rpk u = -2
  · have E : Hid (x.quoted = u.fail u.line u.col 4) := EQ.out.trans (qEnd_cut f3 d2)
    have e5 : (rpk u == -2) = true := by simp [d2]
    go_wp2_with fail
    refine (rpeek_any h3).mono ?_
    rintro e w4 ⟨rfl, d4, ew4⟩
    have h4 : Rf w4 p s u 0 := by rw [ew4]; exact h3.drewN _
    have g4 : Whole w4 q 28 #[.int .i64 2, .string t0, .int .i64 n0, .int .i64 x.line, .int .i64 x.col] := by rw [ew4]; exact g3.drewN _
    have o4 : Only [p, q] w w4 := by rw [ew4]; exact o3.drewN _
    clear ew4
    have k2 := h4.blk.cell 2
    have k3 := h4.blk.cell 3
    simp at k2 k3
    go_wp2_with fail
    refine wp_region_still_tail 9 (by kernel_rfl) (by kernel_rfl) ?_
    simp only [List.take_succ_cons, List.take_zero, List.drop_succ_cons, List.drop_zero]
    change wpStill _ _ (w4.drewN 1) _ _ _
    repeat still_step
    refine wpStill_nil ?_
    change wpList _ _ _ _ _ (w4.drewN 1)
    go_wp2_with fail
    refine (rfail_first u.line u.col u.line u.col (h4.blk.drewN 1)).mono ?_
    rintro e w9 ⟨rfl, h9, o9⟩
    go_wp2_with fail
    (first | go_end0 | refine bodyPost_ret (results_none rfl _ _ _) rfl ?_)
    exact ⟨rfl, TokAft.fault (by rw [E.out]; exact fail_bad (gy.bad.trans hb) _ _ _) h9 (by decide) ((g4.drewN 1).only o9 hqp), (o4.drewN 1).trans (o9.more (by simp))⟩
  have e5 : (rpk u == -2) = false := by simp [d2]
  by_cases d3 : rpk u = 39
  · have E : Hid (x.quoted = u.step.put 2 [] v x.line x.col) := EQ.out.trans (qEnd_on d3)
    have e6 : (rpk u == 39) = true := by simp [d3]
    have l3 := rpk_lt0 d2 (by omega)
    go_wp2_with fail
    refine (rpeek_any h3).mono ?_
    rintro e w4 ⟨rfl, d4, ew4⟩
    have h4 : Rf w4 p s u 0 := by rw [ew4]; exact h3.drewN _
    have g4 : Whole w4 q 28 #[.int .i64 2, .string t0, .int .i64 n0, .int .i64 x.line, .int .i64 x.col] := by rw [ew4]; exact g3.drewN _
    have o4 : Only [p, q] w w4 := by rw [ew4]; exact o3.drewN _
    clear ew4
    go_wp2_with fail
    refine (rpass_any h4 l3).mono ?_
    rintro e w5 ⟨rfl, h5, oo5⟩
    have g5 : Whole w5 q 28 #[.int .i64 2, .string t0, .int .i64 n0, .int .i64 x.line, .int .i64 x.col] := g4.only oo5 hqp
    have o5 : Only [p, q] w w5 := o4.trans (oo5.more (by simp))
    clear oo5
    have b0 := h5.blk.cell 0
    have b1 := h5.blk.cell 1
    have b2 := g5.cell 2
    have b3 := g5.cell 1
    have b4 := g5.frozen 2
    have b5 := g5.frozen 1
    simp at b0 b1 b2 b3
    have f5 := h5.fit
    have i2 := pos_le h5.src u.step.at_ f5.at_
    have i4 : pos s x.at_ ≤ pos s u.step.at_ := pos_mono h5.src u.step.at_ x.at_ (Nat.le_trans gy.at_ (Goes.step u).at_) f5.at_
    have i6 : (pos s x.at_ : Int) ≤ pos s u.step.at_ := by omega
    have i5 : (pos s u.step.at_ : Int) ≤ s.size := by omega
    clear hs1
    go_wp2_with fail
    go_region
    go_wp2_with fail
    (first | go_end0 | refine bodyPost_ret (results_none rfl _ _ _) rfl ?_)
    refine ⟨rfl, TokAft.tok (z := u.step) (k := 2) (txt := s.extract (pos s x.at_) (pos s u.step.at_)) ?_ E.out NP.out (gy.bad.trans hb) gy.out ?_ (fun h => absurd rfl h), ?_⟩
    · exact ⟨(((h5.blk.far (p := ⟨q, 2, none⟩) hpq _).drewN _).far (p := ⟨q, 1, none⟩) hpq _), h5.src, h5.fit, h5.size⟩
    · exact ((g5.put 2 _).drewN _).put 1 _
    · exact ((o5.setCell (.inl (by simp)) _).drewN _).setCell (.inl (by simp)) _
  have E : Hid (x.quoted = u.fail x.line x.col 3) := EQ.out.trans (qEnd_not d2 d3)
  have e6 : (rpk u == 39) = false := by simp [d3]
  go_wp2_with fail
  refine (rpeek_any h3).mono ?_
  rintro e w4 ⟨rfl, d4, ew4⟩
  have h4 : Rf w4 p s u 0 := by rw [ew4]; exact h3.drewN _
  have g4 : Whole w4 q 28 #[.int .i64 2, .string t0, .int .i64 n0, .int .i64 x.line, .int .i64 x.col] := by rw [ew4]; exact g3.drewN _
  have o4 : Only [p, q] w w4 := by rw [ew4]; exact o3.drewN _
  clear ew4
  have k2 := g4.cell 3
  have k3 := g4.cell 4
  simp at k2 k3
  go_wp2_with fail
  refine wp_region_still_tail 9 (by kernel_rfl) (by kernel_rfl) ?_
  simp only [List.take_succ_cons, List.take_zero, List.drop_succ_cons, List.drop_zero]
  change wpStill _ _ (w4.drewN 1) _ _ _
  repeat still_step
  refine wpStill_nil ?_
  change wpList _ _ _ _ _ (w4.drewN 1)
  go_wp2_with fail
  refine (rfail_first u.line u.col x.line x.col (h4.blk.drewN 1)).mono ?_
  rintro e w9 ⟨rfl, h9, o9⟩
  go_wp2_with fail
  (first | go_end0 | refine bodyPost_ret (results_none rfl _ _ _) rfl ?_)
  exact ⟨rfl, TokAft.fault (by rw [E.out]; exact fail_bad (gy.bad.trans hb) _ _ _) h9 (by decide) ((g4.drewN 1).only o9 hqp), (o4.drewN 1).trans (o9.more (by simp))⟩
end
end Go.Proofs.YtoidmljhlekbkaaDoor
