/-
  The document's lexer: the walk of a string. Printed by wip/lexer/gen_rstr.py.
-/
import Derived.Test.YtoidmljhlekbkaaDoorR6
import Derived.Lib.AppendStr
import Derived.Lib.UnsafeStr
import Derived.Laws.IdiomStrings
namespace Go.Proofs.YtoidmljhlekbkaaDoor
open Go.RowKit
theorem Only.grew {bs : List Nat} {w0 w w' : World} {row : Option Nat} (h : Only bs w0 w) (hg : w.grownBy w' row) (hv : ∀ k, row = some k → w0.heap.size ≤ k) : Only bs w0 w' := by
  obtain ⟨a, b, c, d, e⟩ := hg
  refine ⟨a.trans h.os, b.trans h.tape, c.trans h.output, Nat.le_trans h.size d, fun k hk hn => (e k (Nat.lt_of_lt_of_le hk h.size) ?_).trans (h.block k hk hn)⟩
  intro hr
  have := hv k hr.symm
  omega
theorem Rf.grown {w w' : World} {p : Nat} {s : ByteArray} {x : Lx.St} {e : Int} {row : Option Nat} (h : Rf w p s x e) (hg : w.grownBy w' row) (hn : row ≠ some p) : Rf w' p s x e := ⟨h.blk.grown hg hn, h.src, h.fit, h.size⟩
theorem own_only {w w' : World} {base n : Nat} {v : Value} {xs : List Value} {bs : List Nat} (h : w.ownsRow base 5 1 v n xs) (o : Only bs w w') (hb : ∀ k ∈ bs, k < base) : w'.ownsRow base 5 1 v n xs :=
  row_same h fun k hk => o.block k (h.lt k hk).2 fun hm => by have := (h.lt k hk).1; have := hb k hm; omega
theorem own_string {w : World} {base : Nat} {v : Value} {b : List UInt8} (h : w.ownsRow base 5 1 v b.length (Lib.byteCells b)) : (convert 34 9 v).run Tryd.prog w = .ok (.string ⟨b.toArray⟩) w := by
  rcases h.2 with ⟨rfl, h0⟩ | ⟨g, cap, cur, rfl, hb, hg, hnc, hcm, hcs, htake⟩
  · have : b = [] := by simpa using h0
    subst this
    rw [run_convert_bytes_string (P := Tryd.prog) w 34 9 5 none 0 0 Tryd.underlying34 Tryd.underlying5 Tryd.underlying9]
    rfl
  · refine run_convert_bytes_back (P := Tryd.prog) w 34 9 5 ⟨g, 0, none⟩ cap b Tryd.underlying34 Tryd.underlying5 Tryd.underlying9 fun j hj => ?_
    exact h.cells (g := g) rfl j _ (by simp [Lib.byteCells, hj])
theorem strCells_mk (b : List UInt8) : Lib.strCells ⟨b.toArray⟩ = Lib.byteCells b := by simp [Lib.strCells, Lib.byteCells]
theorem rune_text {s : ByteArray} {l : List Int} {cut : Bool} (h : Src s l cut) (i : Nat) (hi : i < l.length) : s.extract (pos s i) (pos s (i + 1)) = ⟨(Utf8.encode (l.getD i (-1))).data.toList.toArray⟩ := by
  rw [cut_text h i (i + 1) (by omega) (by omega), show i + 1 - i = 1 by omega]
  rw [List.drop_eq_getElem_cons hi, List.take_succ_cons, List.take_zero]
  simp [Lx.runesBytes, List.getD, hi]
def textN (x : Lx.St) : Nat := x.step.l.length - x.step.at_ + 1
theorem rtext_bad {x y u : Lx.St} {b : List UInt8} {m : Nat} (ty : Lx.textGo (m + 1) b y = Lx.textGo (textN x) [] x.step) (h : y.peek 0 ≠ 34) (he : y.escaped 34 = (-1, u)) : x.text = u.quote x.line x.col := by
  unfold textN at ty
  unfold Lx.St.text
  simp only
  rw [← ty]
  unfold Lx.textGo
  simp only
  rw [if_neg h, he]
  simp
theorem rtext_good {x y : Lx.St} {b : List UInt8} {m : Nat} (ty : Lx.textGo (m + 1) b y = Lx.textGo (textN x) [] x.step) (h : y.peek 0 = 34) : x.text = y.step.put 3 b 0 x.line x.col := by
  unfold textN at ty
  unfold Lx.St.text
  simp only
  rw [← ty]
  unfold Lx.textGo
  simp only
  rw [if_pos h]
theorem rtext_go {y u : Lx.St} {v : Int} {b : List UInt8} {m : Nat} (h : y.peek 0 ≠ 34) (he : y.escaped 34 = (v, u)) (hv : ¬ v < 0) : Lx.textGo (m + 1) b y = Lx.textGo m (b ++ (Utf8.encode v).data.toList) u := by
  conv => lhs; unfold Lx.textGo
  simp only
  rw [if_neg h, he]
  simp only
  rw [if_neg hv]
theorem rtext_cut {x y : Lx.St} {b : List UInt8} {m : Nat} (ty : Lx.textGo (m + 1) b y = Lx.textGo (textN x) [] x.step) (f : Fit y) (h : rpk y = -2) : x.text = y.fail y.line y.col 4 := by
  have e := rpk_cut f h
  rw [rtext_bad ty (by omega) (esc_no (by omega)), quote_cut e.2]
theorem rtext_no {x y : Lx.St} {b : List UInt8} {m : Nat} (ty : Lx.textGo (m + 1) b y = Lx.textGo (textN x) [] x.step) (h : rpk y ≠ -2) (h' : rpk y < 0 ∨ rpk y = 10) : x.text = y.fail x.line x.col 3 := by
  have e := rpk_on h
  rw [rtext_bad ty (by omega) (esc_no (by omega)), quote_on e.2]
theorem rtext_esc_cut {x y : Lx.St} {b : List UInt8} {m : Nat} (ty : Lx.textGo (m + 1) b y = Lx.textGo (textN x) [] x.step) (h : rpk y = 92) (f : Fit y.step) (h' : rpk y.step = -2) : x.text = y.step.fail y.step.line y.step.col 4 := by
  have e := (rpk_on (y := y) (by omega)).1
  rw [rtext_bad ty (by omega) (esc_cut (by decide) h f h'), quote_cut (rpk_cut f h').2]
theorem rtext_esc_no {x y : Lx.St} {b : List UInt8} {m : Nat} (ty : Lx.textGo (m + 1) b y = Lx.textGo (textN x) [] x.step) (h : rpk y = 92) (h' : rpk y.step ≠ -2) (h0 : escV (rpk y.step) 34 < 0) : x.text = y.step.fail x.line x.col 3 := by
  have e := (rpk_on (y := y) (by omega)).1
  rw [rtext_bad ty (by omega) (esc_off (by decide) h h' h0), quote_on (rpk_on h').2]
theorem enc_low (c : Int) (h : c = 10 ∨ c = 92 ∨ c = 34) : (Utf8.encode c).data.toList = [UInt8.ofNat c.toNat] := by
  rcases h with rfl | rfl | rfl <;> decide +kernel
theorem ite_len {a : Prop} [Decidable a] {x y : ByteArray} (h : x.data.toList.length ≤ 4) (h' : y.data.toList.length ≤ 4) : (if a then x else y).data.toList.length ≤ 4 := by split <;> assumption
theorem enc_len (c : Int) : (Utf8.encode c).data.toList.length ≤ 4 := by
  unfold Utf8.encode
  repeat' (first | refine ite_len ?_ ?_ | exact Nat.le_of_ble_eq_true rfl)
section
variable {w : World} {p : Nat} {s : ByteArray} {x : Lx.St}
/-- What the loop of a string leaves. -/
def RStrRel (w0 : World) (p q : Nat) (s : ByteArray) (x : Lx.St) (t0 : ByteArray) (n0 : Int) (k : Nat) (v : Value) (wr : World) : Prop :=
  ∃ (vb : Value) (y : Lx.St) (b : List UInt8) (n : Nat), vb = v ∧ Rf wr p s y 0 ∧ Goes x y ∧ x.at_ < y.at_ ∧ wr.ownsRow w0.heap.size 5 1 vb b.length (Lib.byteCells b) ∧ b.length ≤ 4 * y.at_ ∧ Lx.textGo n b y = Lx.textGo (textN x) [] x.step ∧ y.l.length - y.at_ + 1 ≤ n ∧
    Only [p, q] w0 wr ∧ Whole wr q 28 #[.int .i64 3, .string t0, .int .i64 n0, .int .i64 x.line, .int .i64 x.col] ∧ y.l.length - y.at_ ≤ k
set_option maxRecDepth 100000 in
set_option maxHeartbeats 4000000 in
theorem rstr_any {k0 : Value} {t0 : ByteArray} {q : Nat} (h : Rf w p s x 0) (hb : x.bad = none) (hlt : x.at_ < x.l.length) (hq : Whole w q 28 #[k0, .string t0, .int .i64 0, .int .i64 x.line, .int .i64 x.col]) :
    Calls Tryd.prog 28 #[.pointer (some ⟨p, 0, none⟩), .pointer (some ⟨q, 0, none⟩)] w fun e w' => e = .returned (.tuple #[]) ∧ TokAft w' p q s x.line x.col x x.text ∧ Only [p, q] w w' := by
  have hpq : p ≠ q := h.blk.kind hq (by decide)
  have hqp : q ∉ [p] := by simp; omega
  have hqp' : q ≠ p := Ne.symm hpq
  have hpw := h.blk.lt
  have hqw := hq.lt
  have hbs : ∀ k ∈ [p], k < w.heap.size := by simpa using hpw
  have u0 := hq.cell 0
  have v0 := hq.frozen 0
  simp at u0
  have NP := Lib.hid (text_prog h.fit hb hlt).fit
  have h0 : Rf (w.setCell ⟨q, 0, none⟩ (.int .i64 3)) p s x 0 := ⟨h.blk.far (p := ⟨q, 0, none⟩) hpq _, h.src, h.fit, h.size⟩
  have g0 : Whole (w.setCell ⟨q, 0, none⟩ (.int .i64 3)) q 28 #[.int .i64 3, .string t0, .int .i64 0, .int .i64 x.line, .int .i64 x.col] := hq.put 0 _
  have o0 : Only [p, q] w (w.setCell ⟨q, 0, none⟩ (.int .i64 3)) := (Only.refl _ _).setCell (.inl (by simp)) _
  have f0 := h.fit
  obtain ⟨n0, en0⟩ : ∃ n0 : Int, n0 = 0 := ⟨_, rfl⟩
  rw [← en0] at g0
  replace en0 := Lib.hid en0
  obtain ⟨i0, hi, hz0, hz1, hz2⟩ : ∃ i, Tryd.prog.info? 5 = some i ∧ i.zero = some (.int .u8 0) ∧ i.size = 1 ∧ i.bytes = 1 := ⟨_, rfl, rfl, rfl, rfl⟩
  clear h hq
  go_enter Tryd.func28, Tryd.ntmps28
  go_wp2_with fail
  refine (rpass_any h0 hlt).mono ?_
  rintro e w1 ⟨rfl, h1, oo1⟩
  have g1 : Whole w1 q 28 #[.int .i64 3, .string t0, .int .i64 n0, .int .i64 x.line, .int .i64 x.col] := g0.only oo1 hqp
  have o1 : Only [p, q] w w1 := o0.trans (oo1.more (by simp))
  go_wp2_with fail
  go_loopg [4] (x.step.l.length - x.step.at_) (fun k v wr => RStrRel w p q s x t0 n0 k v wr)
  case atStart =>
    exact ⟨_, x.step, [], textN x, rfl, h1, Goes.step x, Nat.lt_succ_self _, World.ownsRow_nil _ _ _ _, by simp, rfl, Nat.le_refl _, o1, g1, Nat.le_refl _⟩
  case round =>
    clear h0 h1 g0 g1 o0 o1 u0 v0
    obtain ⟨vb, y, b, n, rfl, h1, gy, ay, own1, lb, ty, ny, o1, g1, ky⟩ := hrel
    obtain ⟨m, rfl⟩ : ∃ m, n = m + 1 := ⟨n - 1, by omega⟩
    have f1 := h1.fit
    have br := rpk_bd f1
    have hbig := f1.len
    have hat := f1.at_
    have sz1 := o1.size
    by_cases c2 : rpk y = -2
    · have E : Hid (x.text = y.fail y.line y.col 4) := rtext_cut ty f1 c2
      have e1 : (rpk y == -2) = true := by simp [c2]
      go_wp2_with fail
      refine (rpeek_any h1).mono ?_
      rintro e w2 ⟨rfl, d2, ew2⟩
      have h2 : Rf w2 p s y 0 := by rw [ew2]; exact h1.drewN _
      have g2 : Whole w2 q 28 #[.int .i64 3, .string t0, .int .i64 n0, .int .i64 x.line, .int .i64 x.col] := by rw [ew2]; exact g1.drewN _
      have o2 : Only [p, q] w w2 := by rw [ew2]; exact o1.drewN _
      have oo2 : Only [p] wr w2 := by rw [ew2]; exact (Only.refl _ _).drewN _
      clear ew2
      have k2 := h2.blk.cell 2
      have k3 := h2.blk.cell 3
      simp at k2 k3
      go_wp2_with fail
      refine wp_region_still_tail 9 (by kernel_rfl) (by kernel_rfl) ?_
      simp only [List.take_succ_cons, List.take_zero, List.drop_succ_cons, List.drop_zero]
      change wpStill _ _ (w2.drewN 1) _ _ _
      repeat still_step
      refine wpStill_nil ?_
      change wpList _ _ _ _ _ (w2.drewN 1)
      go_wp2_with fail
      refine (rfail_first y.line y.col y.line y.col (h2.blk.drewN 1)).mono ?_
      rintro e w9 ⟨rfl, h9, o9⟩
      go_wp2_with fail
      (first | go_end0 | refine bodyPost_ret (results_none rfl _ _ _) rfl ?_)
      exact ⟨rfl, TokAft.fault (by rw [E.out]; exact fail_bad (gy.bad.trans hb) _ _ _) h9 (by decide) ((g2.drewN 1).only o9 hqp), (o2.drewN 1).trans (o9.more (by simp))⟩
    have e1 : (rpk y == -2) = false := by simp [c2]
    by_cases c3 : rpk y < 0 ∨ rpk y = 10
    · have E : Hid (x.text = y.fail x.line x.col 3) := rtext_no ty c2 c3
      rcases c3 with c3 | c3
      · go_wp2_with fail
        refine (rpeek_any h1).mono ?_
        rintro e w2 ⟨rfl, d2, ew2⟩
        have h2 : Rf w2 p s y 0 := by rw [ew2]; exact h1.drewN _
        have g2 : Whole w2 q 28 #[.int .i64 3, .string t0, .int .i64 n0, .int .i64 x.line, .int .i64 x.col] := by rw [ew2]; exact g1.drewN _
        have o2 : Only [p, q] w w2 := by rw [ew2]; exact o1.drewN _
        have oo2 : Only [p] wr w2 := by rw [ew2]; exact (Only.refl _ _).drewN _
        clear ew2
        have k2 := g2.cell 3
        have k3 := g2.cell 4
        simp at k2 k3
        go_wp2_with fail
        refine wp_region_still_tail 9 (by kernel_rfl) (by kernel_rfl) ?_
        simp only [List.take_succ_cons, List.take_zero, List.drop_succ_cons, List.drop_zero]
        change wpStill _ _ (w2.drewN 1) _ _ _
        repeat still_step
        refine wpStill_nil ?_
        change wpList _ _ _ _ _ (w2.drewN 1)
        go_wp2_with fail
        refine (rfail_first y.line y.col x.line x.col (h2.blk.drewN 1)).mono ?_
        rintro e w9 ⟨rfl, h9, o9⟩
        go_wp2_with fail
        (first | go_end0 | refine bodyPost_ret (results_none rfl _ _ _) rfl ?_)
        exact ⟨rfl, TokAft.fault (by rw [E.out]; exact fail_bad (gy.bad.trans hb) _ _ _) h9 (by decide) ((g2.drewN 1).only o9 hqp), (o2.drewN 1).trans (o9.more (by simp))⟩
      · have e2 : ¬ rpk y < 0 := by omega
        have e3 : (rpk y == 10) = true := by simp [c3]
        go_wp2_with fail
        refine (rpeek_any h1).mono ?_
        rintro e w2 ⟨rfl, d2, ew2⟩
        have h2 : Rf w2 p s y 0 := by rw [ew2]; exact h1.drewN _
        have g2 : Whole w2 q 28 #[.int .i64 3, .string t0, .int .i64 n0, .int .i64 x.line, .int .i64 x.col] := by rw [ew2]; exact g1.drewN _
        have o2 : Only [p, q] w w2 := by rw [ew2]; exact o1.drewN _
        have oo2 : Only [p] wr w2 := by rw [ew2]; exact (Only.refl _ _).drewN _
        clear ew2
        have k2 := g2.cell 3
        have k3 := g2.cell 4
        simp at k2 k3
        go_wp2_with fail
        refine wp_region_still_tail 9 (by kernel_rfl) (by kernel_rfl) ?_
        simp only [List.take_succ_cons, List.take_zero, List.drop_succ_cons, List.drop_zero]
        change wpStill _ _ (w2.drewN 1) _ _ _
        repeat still_step
        refine wpStill_nil ?_
        change wpList _ _ _ _ _ (w2.drewN 1)
        go_wp2_with fail
        refine (rfail_first y.line y.col x.line x.col (h2.blk.drewN 1)).mono ?_
        rintro e w9 ⟨rfl, h9, o9⟩
        go_wp2_with fail
        (first | go_end0 | refine bodyPost_ret (results_none rfl _ _ _) rfl ?_)
        exact ⟨rfl, TokAft.fault (by rw [E.out]; exact fail_bad (gy.bad.trans hb) _ _ _) h9 (by decide) ((g2.drewN 1).only o9 hqp), (o2.drewN 1).trans (o9.more (by simp))⟩
    have e2 : ¬ rpk y < 0 := fun h => c3 (.inl h)
    have c4 : rpk y ≠ 10 := fun h => c3 (.inr h)
    have e3 : (rpk y == 10) = false := by simp [c4]
    have l1 := rpk_lt0 c2 e2
    have er := (rpk_on c2).1
    have j1 := pos_lt_succ h1.src y.at_ l1
    have j2 := pos_le h1.src (y.at_ + 1) l1
    have jt := Lib.hid (rune_text h1.src y.at_ l1)
    have hsz := h1.size
    clear c3
    by_cases c5 : rpk y = 34
    · have E : Hid (x.text = y.step.put 3 b 0 x.line x.col) := rtext_good ty (by omega)
      have e4 : (rpk y == 34) = true := by simp [c5]
      clear ty
      go_wp2_with fail
      refine (rpeek_any h1).mono ?_
      rintro e w2 ⟨rfl, d2, ew2⟩
      have h2 : Rf w2 p s y 0 := by rw [ew2]; exact h1.drewN _
      have g2 : Whole w2 q 28 #[.int .i64 3, .string t0, .int .i64 n0, .int .i64 x.line, .int .i64 x.col] := by rw [ew2]; exact g1.drewN _
      have o2 : Only [p, q] w w2 := by rw [ew2]; exact o1.drewN _
      have oo2 : Only [p] wr w2 := by rw [ew2]; exact (Only.refl _ _).drewN _
      clear ew2
      have own2 := own_only own1 oo2 hbs
      have k1 := h2.blk.cell 1
      simp at k1
      go_wp2_with fail
      refine (rpass_any h2 l1).mono ?_
      rintro e w3 ⟨rfl, h3, oo3⟩
      have g3 : Whole w3 q 28 #[.int .i64 3, .string t0, .int .i64 n0, .int .i64 x.line, .int .i64 x.col] := g2.only oo3 hqp
      have o3 : Only [p, q] w w3 := o2.trans (oo3.more (by simp))
      have own3 := own_only own2 oo3 hbs
      have cv := own_string own3
      have b5 := g3.frozen 1
      have b3 := g3.cell 1
      simp at b3
      go_wp2_with fail
      (first | go_end0 | refine bodyPost_ret (results_none rfl _ _ _) rfl ?_)
      refine ⟨rfl, TokAft.tok (z := y.step) (k := 3) (txt := ⟨b.toArray⟩) ?_ E.out NP.out ((gy.trans (Goes.step y)).bad.trans hb) (gy.trans (Goes.step y)).out ?_ (fun _ => rfl), ?_⟩
      · exact ⟨h3.blk.far (p := ⟨q, 1, none⟩) hpq _, h3.src, h3.fit, h3.size⟩
      · have := g3.put 1 (.string ⟨b.toArray⟩)
        rw [en0.out] at this
        exact this
      · exact o3.setCell (.inl (by simp)) _
    have e4 : (rpk y == 34) = false := by simp [c5]
    by_cases c6 : rpk y = 92
    · have e5 : (rpk y == 92) = true := by simp [c6]
      have f2 := f1.step l1
      have br2 := rpk_bd f2
      have gy2 := gy.trans (Goes.step y)
      by_cases c7 : rpk y.step = -2
      · have E : Hid (x.text = y.step.fail y.step.line y.step.col 4) := rtext_esc_cut ty c6 f2 c7
        have e6 : (rpk y.step == -2) = true := by simp [c7]
        have gy := gy2
        go_wp2_with fail
        refine (rpeek_any h1).mono ?_
        rintro e w2 ⟨rfl, d2, ew2⟩
        have h2 : Rf w2 p s y 0 := by rw [ew2]; exact h1.drewN _
        have g2 : Whole w2 q 28 #[.int .i64 3, .string t0, .int .i64 n0, .int .i64 x.line, .int .i64 x.col] := by rw [ew2]; exact g1.drewN _
        have o2 : Only [p, q] w w2 := by rw [ew2]; exact o1.drewN _
        have oo2 : Only [p] wr w2 := by rw [ew2]; exact (Only.refl _ _).drewN _
        clear ew2
        have k1 := h2.blk.cell 1
        simp at k1
        go_wp2_with fail
        refine (rpass_any h2 l1).mono ?_
        rintro e w3 ⟨rfl, h3, oo3⟩
        have g3 : Whole w3 q 28 #[.int .i64 3, .string t0, .int .i64 n0, .int .i64 x.line, .int .i64 x.col] := g2.only oo3 hqp
        have o3 : Only [p, q] w w3 := o2.trans (oo3.more (by simp))
        go_wp2_with fail
        refine (rpeek_any h3).mono ?_
        rintro e w4 ⟨rfl, d4, ew4⟩
        have h4 : Rf w4 p s y.step 0 := by rw [ew4]; exact h3.drewN _
        have g4 : Whole w4 q 28 #[.int .i64 3, .string t0, .int .i64 n0, .int .i64 x.line, .int .i64 x.col] := by rw [ew4]; exact g3.drewN _
        have o4 : Only [p, q] w w4 := by rw [ew4]; exact o3.drewN _
        have oo4 : Only [p] w3 w4 := by rw [ew4]; exact (Only.refl _ _).drewN _
        clear ew4
        have k2 := h4.blk.cell 2
        have k3 := h4.blk.cell 3
        simp at k2 k3
        go_wp2_with fail
        refine wp_region_still_tail 9 (by kernel_rfl) (by kernel_rfl) ?_
        simp only [List.take_succ_cons, List.take_zero, List.drop_succ_cons, List.drop_zero]
        change wpStill _ _ (w4.drewN 1) _ _ _
        repeat still_step
        refine wpStill_nil ?_
        change wpList _ _ _ _ _ (w4.drewN 1)
        go_wp2_with fail
        refine (rfail_first y.step.line y.step.col y.step.line y.step.col (h4.blk.drewN 1)).mono ?_
        rintro e w9 ⟨rfl, h9, o9⟩
        go_wp2_with fail
        (first | go_end0 | refine bodyPost_ret (results_none rfl _ _ _) rfl ?_)
        exact ⟨rfl, TokAft.fault (by rw [E.out]; exact fail_bad (gy.bad.trans hb) _ _ _) h9 (by decide) ((g4.drewN 1).only o9 hqp), (o4.drewN 1).trans (o9.more (by simp))⟩
      have e6 : (rpk y.step == -2) = false := by simp [c7]
      by_cases c8 : escV (rpk y.step) 34 < 0
      · have E : Hid (x.text = y.step.fail x.line x.col 3) := rtext_esc_no ty c6 c7 c8
        have gy := gy2
        go_wp2_with fail
        refine (rpeek_any h1).mono ?_
        rintro e w2 ⟨rfl, d2, ew2⟩
        have h2 : Rf w2 p s y 0 := by rw [ew2]; exact h1.drewN _
        have g2 : Whole w2 q 28 #[.int .i64 3, .string t0, .int .i64 n0, .int .i64 x.line, .int .i64 x.col] := by rw [ew2]; exact g1.drewN _
        have o2 : Only [p, q] w w2 := by rw [ew2]; exact o1.drewN _
        have oo2 : Only [p] wr w2 := by rw [ew2]; exact (Only.refl _ _).drewN _
        clear ew2
        have k1 := h2.blk.cell 1
        simp at k1
        go_wp2_with fail
        refine (rpass_any h2 l1).mono ?_
        rintro e w3 ⟨rfl, h3, oo3⟩
        have g3 : Whole w3 q 28 #[.int .i64 3, .string t0, .int .i64 n0, .int .i64 x.line, .int .i64 x.col] := g2.only oo3 hqp
        have o3 : Only [p, q] w w3 := o2.trans (oo3.more (by simp))
        go_wp2_with fail
        refine (rpeek_any h3).mono ?_
        rintro e w4 ⟨rfl, d4, ew4⟩
        have h4 : Rf w4 p s y.step 0 := by rw [ew4]; exact h3.drewN _
        have g4 : Whole w4 q 28 #[.int .i64 3, .string t0, .int .i64 n0, .int .i64 x.line, .int .i64 x.col] := by rw [ew4]; exact g3.drewN _
        have o4 : Only [p, q] w w4 := by rw [ew4]; exact o3.drewN _
        have oo4 : Only [p] w3 w4 := by rw [ew4]; exact (Only.refl _ _).drewN _
        clear ew4
        go_wp2_with fail
        refine (rescape_any _ _ _).mono ?_
        rintro e w' ⟨rfl, ew⟩
        have ew' := ew.symm
        subst ew'
        have k2 := g4.cell 3
        have k3 := g4.cell 4
        simp at k2 k3
        go_wp2_with fail
        refine wp_region_still_tail 9 (by kernel_rfl) (by kernel_rfl) ?_
        simp only [List.take_succ_cons, List.take_zero, List.drop_succ_cons, List.drop_zero]
        change wpStill _ _ (w4.drewN 1) _ _ _
        repeat still_step
        refine wpStill_nil ?_
        change wpList _ _ _ _ _ (w4.drewN 1)
        go_wp2_with fail
        refine (rfail_first y.step.line y.step.col x.line x.col (h4.blk.drewN 1)).mono ?_
        rintro e w9 ⟨rfl, h9, o9⟩
        go_wp2_with fail
        (first | go_end0 | refine bodyPost_ret (results_none rfl _ _ _) rfl ?_)
        exact ⟨rfl, TokAft.fault (by rw [E.out]; exact fail_bad (gy.bad.trans hb) _ _ _) h9 (by decide) ((g4.drewN 1).only o9 hqp), (o4.drewN 1).trans (o9.more (by simp))⟩
      have l3 := escV_on f2 (by decide) c7 c8
      have T : Hid (Lx.textGo m (b ++ (Utf8.encode (escV (rpk y.step) 34)).data.toList) y.step.step = Lx.textGo (textN x) [] x.step) := (rtext_go (by omega) (esc_on (by decide) c6 c7 c8) c8).symm.trans ty
      clear ty
      have hC : escV (rpk y.step) 34 = 10 ∨ escV (rpk y.step) 34 = 92 ∨ escV (rpk y.step) 34 = 34 := by
        rcases escV_cases (rpk y.step) 34 with ⟨a, b⟩ | ⟨a, b, c⟩ | ⟨a, b, c⟩ <;> omega
      have RE : Hid (∀ w, Calls Tryd.prog 41 #[.int .i64 (rpk y.step), .int .i64 34] w fun e w' => e = .returned (.int .i64 (escV (rpk y.step) 34)) ∧ w' = w) := rescape_any _ _
      obtain ⟨C, eC⟩ : ∃ C, C = escV (rpk y.step) 34 := ⟨_, rfl⟩
      rw [← eC] at T hC RE c8
      clear eC
      have hT := enc_low C hC
      have W : IntKind.u8.wrap C = C := by rcases hC with rfl | rfl | rfl <;> decide
      have W0 : ((UInt8.ofNat C.toNat).toNat : Int) = C := by rcases hC with rfl | rfl | rfl <;> decide
      have c9 : ¬ C < 0 := c8
      clear hC c8
      go_wp2_with fail
      refine (rpeek_any h1).mono ?_
      rintro e w2 ⟨rfl, d2, ew2⟩
      have h2 : Rf w2 p s y 0 := by rw [ew2]; exact h1.drewN _
      have g2 : Whole w2 q 28 #[.int .i64 3, .string t0, .int .i64 n0, .int .i64 x.line, .int .i64 x.col] := by rw [ew2]; exact g1.drewN _
      have o2 : Only [p, q] w w2 := by rw [ew2]; exact o1.drewN _
      have oo2 : Only [p] wr w2 := by rw [ew2]; exact (Only.refl _ _).drewN _
      clear ew2
      have own2 := own_only own1 oo2 hbs
      have k1 := h2.blk.cell 1
      simp at k1
      go_wp2_with fail
      refine (rpass_any h2 l1).mono ?_
      rintro e w3 ⟨rfl, h3, oo3⟩
      have g3 : Whole w3 q 28 #[.int .i64 3, .string t0, .int .i64 n0, .int .i64 x.line, .int .i64 x.col] := g2.only oo3 hqp
      have o3 : Only [p, q] w w3 := o2.trans (oo3.more (by simp))
      have own3 := own_only own2 oo3 hbs
      go_wp2_with fail
      refine (rpeek_any h3).mono ?_
      rintro e w4 ⟨rfl, d4, ew4⟩
      have h4 : Rf w4 p s y.step 0 := by rw [ew4]; exact h3.drewN _
      have g4 : Whole w4 q 28 #[.int .i64 3, .string t0, .int .i64 n0, .int .i64 x.line, .int .i64 x.col] := by rw [ew4]; exact g3.drewN _
      have o4 : Only [p, q] w w4 := by rw [ew4]; exact o3.drewN _
      have oo4 : Only [p] w3 w4 := by rw [ew4]; exact (Only.refl _ _).drewN _
      clear ew4
      have own4 := own_only own3 oo4 hbs
      go_wp2_with fail
      refine (RE.out _).mono ?_
      rintro e w' ⟨rfl, ew⟩
      have ew' := ew.symm
      subst ew'
      have z4 := o4.size
      go_wp2_with (at_builtin; refine wpList_append_own _ rfl _ _ _ rfl w.heap.size 5 i0 _ 1 1 Tryd.underlying34 hi hz0 hz1 hz2 rfl (by decide) _ b.length (Lib.byteCells b) rfl (own4.alloc _) ⟨w4.heap.size, 0, none⟩ 1 1 [.int .u8 C] rfl rfl ?c1 ?c2 ?c3 ?c4 ?c5 ?_)
      case c1 => intro j u hj; match j, hj with | 0, hj => simp at hj; subst hj; simp [Addr.add]
      case c2 => intro u hu; simp at hu; subst hu; rfl
      case c3 => unfold maxLen; omega
      case c4 => omega
      case c5 => simp; omega
      intro v' w5 own5 hgrow _
      have hne : ∀ k, vb.ownBlock = some k → w.heap.size ≤ k := fun k hk => (own4.lt k hk).1
      have h5 : Rf w5 p s y.step 0 := Rf.grown ⟨h4.blk.alloc _, h4.src, h4.fit, h4.size⟩ hgrow (fun hk => by have := hne _ hk; omega)
      have g5 : Whole w5 q 28 #[.int .i64 3, .string t0, .int .i64 n0, .int .i64 x.line, .int .i64 x.col] := (g4.alloc _).grown hgrow (fun hk => by have := hne _ hk; omega)
      have o5 : Only [p, q] w w5 := (o4.alloc _).grew hgrow hne
      have e5c : Lib.byteCells b ++ [.int .u8 C] = Lib.byteCells (b ++ [UInt8.ofNat C.toNat]) := by rw [Lib.byteCells_append]; show _ = Lib.byteCells b ++ [.int .u8 ((UInt8.ofNat C.toNat).toNat : Int)]; rw [W0]
      rw [e5c] at own5
      go_wp2_with fail
      refine (rpass_any h5 l3).mono ?_
      rintro e w6 ⟨rfl, h6, oo6⟩
      have g6 : Whole w6 q 28 #[.int .i64 3, .string t0, .int .i64 n0, .int .i64 x.line, .int .i64 x.col] := g5.only oo6 hqp
      have o6 : Only [p, q] w w6 := o5.trans (oo6.more (by simp))
      have own6 := own_only own5 oo6 hbs
      go_wp2_with fail
      go_roundg (y.step.step.l.length - y.step.step.at_)
      case measure => rw [step_l, step_at, step_l, step_at]; omega
      case rel =>
        refine ⟨_, y.step.step, b ++ [UInt8.ofNat C.toNat], m, rfl, h6, gy2.trans (Goes.step _), by rw [step_at, step_at]; omega, by simpa using own6, by rw [step_at, step_at]; simp; omega, by rw [← hT]; exact T.out, by rw [step_l, step_at, step_l, step_at]; omega, o6, g6, Nat.le_refl _⟩
    · have e5 : (rpk y == 92) = false := by simp [c6]
      have T : Hid (Lx.textGo m (b ++ (Utf8.encode (rpk y)).data.toList) y.step = Lx.textGo (textN x) [] x.step) := by
        have := rtext_go (m := m) (b := b) (y := y) (by omega) (esc_rune (e := 34) (by omega) (by omega)) (by omega)
        rw [er] at this
        exact this.symm.trans ty
      clear ty
      have el := enc_len (rpk y)
      have ji : y.l.getD y.at_ (-1) = rpk y := er
      rw [ji] at jt
      go_wp2_with fail
      refine (rpeek_any h1).mono ?_
      rintro e w2 ⟨rfl, d2, ew2⟩
      have h2 : Rf w2 p s y 0 := by rw [ew2]; exact h1.drewN _
      have g2 : Whole w2 q 28 #[.int .i64 3, .string t0, .int .i64 n0, .int .i64 x.line, .int .i64 x.col] := by rw [ew2]; exact g1.drewN _
      have o2 : Only [p, q] w w2 := by rw [ew2]; exact o1.drewN _
      have oo2 : Only [p] wr w2 := by rw [ew2]; exact (Only.refl _ _).drewN _
      clear ew2
      have own2 := own_only own1 oo2 hbs
      have k1 := h2.blk.cell 1
      simp at k1
      go_wp2_with fail
      refine (rpass_any h2 l1).mono ?_
      rintro e w3 ⟨rfl, h3, oo3⟩
      have g3 : Whole w3 q 28 #[.int .i64 3, .string t0, .int .i64 n0, .int .i64 x.line, .int .i64 x.col] := g2.only oo3 hqp
      have o3 : Only [p, q] w w3 := o2.trans (oo3.more (by simp))
      have own3 := own_only own2 oo3 hbs
      have k0 := h3.blk.cell 0
      have k1 := h3.blk.cell 1
      simp at k0 k1
      have k2 : (pos s (y.at_ + 1) : Int) ≤ s.size := by omega
      have k3 : (pos s y.at_ : Int) ≤ pos s (y.at_ + 1) := by omega
      rw [step_at] at k1
      have z3 := o3.size
      obtain ⟨TX, eTX⟩ : ∃ TX, TX = s.extract (pos s y.at_) (pos s (y.at_ + 1)) := ⟨_, rfl⟩
      have tz : TX.size ≤ 4 := by rw [eTX, jt.out]; show (List.toArray _).size ≤ 4; rw [List.size_toArray]; exact el
      go_wp2_with fail
      refine wp_region_still_tail 11 (by kernel_rfl) (by kernel_rfl) ?_
      simp only [List.take_succ_cons, List.take_zero, List.drop_succ_cons, List.drop_zero]
      change wpStill _ _ (w3.drewN 1) _ _ _
      repeat still_step
      refine wpStill_nil ?_
      change wpList _ _ _ _ _ (w3.drewN 1)
      go_wp2_with (at_builtin; refine Lib.wpList_append_own_string _ rfl _ _ _ _ rfl w.heap.size 5 i0 Tryd.underlying34 Tryd.underlying9 hi hz0 hz1 hz2 _ b.length (Lib.byteCells b) rfl (own_only own3 ((Only.refl [p] _).drewN _) hbs) TX ?c2 ?c3 ?c4 ?c5 ?_)
      case c2 => rw [eTX]; rfl
      case c3 => unfold maxLen; omega
      case c4 => omega
      case c5 => simp; omega
      intro v' w5 own5 hgrow _
      have hne : ∀ k, vb.ownBlock = some k → w.heap.size ≤ k := fun k hk => (own3.lt k hk).1
      have h5 : Rf w5 p s y.step 0 := Rf.grown (h3.drewN 1) hgrow (fun hk => by have := hne _ hk; omega)
      have g5 : Whole w5 q 28 #[.int .i64 3, .string t0, .int .i64 n0, .int .i64 x.line, .int .i64 x.col] := (g3.drewN 1).grown hgrow (fun hk => by have := hne _ hk; omega)
      have o5 : Only [p, q] w w5 := (o3.drewN 1).grew hgrow hne
      have e5c : Lib.byteCells b ++ Lib.strCells (s.extract (pos s y.at_) (pos s (y.at_ + 1))) = Lib.byteCells (b ++ (Utf8.encode (rpk y)).data.toList) := by rw [Lib.byteCells_append, jt.out, strCells_mk]
      have e5l : b.length + (pos s (y.at_ + 1) - pos s y.at_) = (b ++ (Utf8.encode (rpk y)).data.toList).length := by
        have e1 : (s.extract (pos s y.at_) (pos s (y.at_ + 1))).size = pos s (y.at_ + 1) - pos s y.at_ := by rw [ByteArray.size_extract]; omega
        have e2 : (s.extract (pos s y.at_) (pos s (y.at_ + 1))).size = (Utf8.encode (rpk y)).data.toList.length := by rw [jt.out]; show (List.toArray _).size = _; rw [List.size_toArray]
        rw [List.length_append]
        omega
      rw [e5c, e5l] at own5
      go_wp2_with fail
      go_roundg (y.step.l.length - y.step.at_)
      case measure => rw [step_l, step_at]; omega
      case rel =>
        refine ⟨_, y.step, b ++ (Utf8.encode (rpk y)).data.toList, m, rfl, h5, gy.trans (Goes.step _), by rw [step_at]; omega, own5, by rw [step_at, List.length_append]; omega, T.out, by rw [step_l, step_at]; omega, o5, g5, Nat.le_refl _⟩
end
end Go.Proofs.YtoidmljhlekbkaaDoor
