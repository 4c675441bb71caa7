/-
  The document's lexer: the walk of Tokens. Printed by wip/lexer/gen_rtok.py.
-/
import Derived.Test.YtoidmljhlekbkaaDoorR7
import Derived.Test.YtoidmljhlekbkaaDoorR8P
import Derived.Test.YtoidmljhlekbkaaDoorAlive
import Derived.Deep.CutBlock
namespace Go.Proofs.YtoidmljhlekbkaaDoor
open Go.RowKit
/-- The answer of the document's lexer: tokens in memory of its own, alike but for the texts of numbers; a place, an error. -/
def RAns (s : ByteArray) (w : World) (e : Ending) (w' : World) : Prop :=
  ∃ v us, e = .returned (.tuple #[v, .int .i64 (Lx.tokens s).2.1, .int .i64 (Lx.tokens s).2.2.1, .int .i64 (Lx.tokens s).2.2.2]) ∧ Like (Lx.tokens s).1 us ∧
    w'.ownsRow w.heap.size 28 5 v us.length (toksCells us) ∧ Below w.heap.size w w'
/-- What the loop over the tokens leaves. -/
def RTRel (w0 : World) (s : ByteArray) (k : Nat) (v7 v8 : Value) (wr : World) : Prop :=
  ∃ (vb : Value) (us : List Lx.Tok) (ln : Int), vb = v7 ∧ v8 = .int .i64 ln ∧ wr.ownsRow w0.heap.size 28 5 vb us.length (toksCells us) ∧ Below w0.heap.size w0 wr ∧
  ((∃ y n, Rf wr w0.heap.size s y 0 ∧ y.bad = none ∧ Like y.out us ∧ Lx.runGo n y = Lx.run (Lx.start s) ∧ y.l.length - y.at_ + 1 ≤ n ∧ ln = y.line - 1 ∧ y.l.length - y.at_ + 1 ≤ k)
  ∨ (∃ a b c at_, Whole wr w0.heap.size 57 #[.string s, at_, .int .i64 a, .int .i64 b, .int .i64 c] ∧ c ≠ 0 ∧ Lx.tokens s = ([], a, b, c)))
theorem own_apart {w w' : World} {base n size : Nat} {e : TypeId} {v : Value} {xs : List Value} {bs : List Nat} (h : w.ownsRow base e size v n xs) (o : Only bs w w') (hb : ∀ k ∈ bs, v.ownBlock ≠ some k) : w'.ownsRow base e size v n xs :=
  row_same h fun k hk => o.block k (h.lt k hk).2 fun hm => hb k hm hk
theorem digit_rpk (y : Lx.St) : Lx.digit (rpk y) = Lx.digit (y.peek 0) := by
  unfold rpk
  split
  · rfl
  · have : y.peek 0 = -1 := by
      rw [peek_getD, List.getD_eq_getElem?_getD, List.getElem?_eq_none (by omega)]; rfl
    rw [this]
    split <;> decide
theorem start_fit' (s : ByteArray) (hs : s.size ≤ 65536) : Fit (Lx.start s) := by
  refine start_fit s (by have := decodeGo_length s (s.size + 1) 0 (by omega); show (Lx.decodeGo s (s.size + 1) 0).1.length ≤ 65536; omega) fun r hr => ?_
  obtain ⟨i, hi, rfl⟩ := List.getElem_of_mem hr
  have h := (src_start s).rune i hi
  have hd := decode_le' s (pos s i)
  have e : (Lx.start s).l.getD i (-1) = (Lx.start s).l[i] := by simp [List.getD, hi]
  rw [e] at h
  omega
set_option maxRecDepth 100000 in
set_option maxHeartbeats 4000000 in
theorem rtokens_long (s : ByteArray) (w : World) (hs : 65536 < s.size) : Calls Tryd.prog 11 #[.string s] w (RAns s w) := by
  have E : Hid (Lx.tokens s = ([], 1, 1, 2)) := by show Lx.tokens s = _; unfold Lx.tokens; rw [if_pos hs]
  have hs' : (65536 : Int) < s.size := by omega
  go_enter Tryd.func11, Tryd.ntmps11
  go_wp2_with fail
  refine bodyPost_ret (v := .tuple #[.slice none 0 0, .int .i64 1, .int .i64 1, .int .i64 2]) (by simp [results, Tryd.results11, go_sem]) rfl ?_
  unfold RAns
  rw [E.out]
  exact ⟨_, [], rfl, trivial, World.ownsRow_nil _ _ _ _, Below.refl _ _⟩
/-- Between the note and the token. -/
def NoteMid (w0 : World) (s : ByteArray) (us : List Lx.Tok) (ln : Int) (wr : World) (k : Nat) (r9 : Value) (wx : World) : Prop :=
  ∃ z m, r9 = .int .i64 (rpk z) ∧ Rf wx w0.heap.size s z 0 ∧ z.bad = none ∧ Like z.out us ∧ Lx.runGo m z = Lx.run (Lx.start s) ∧ z.l.length - z.at_ + 1 ≤ m ∧ ln = z.line - 1 ∧ z.l.length - z.at_ + 1 ≤ k ∧ Only [w0.heap.size] wr wx ∧ rpk z ≠ 59 ∧ white (rpk z) = false
/-- What a note's loop leaves. -/
def RNoteRel (w0 : World) (s : ByteArray) (y : Lx.St) (w2 : World) (k : Nat) (v : Value) (wr : World) : Prop :=
  ∃ z, v = .int .i64 (rpk z) ∧ Rf wr w0.heap.size s z 0 ∧ Goes y z ∧ z.skip Lx.noteCh = y.skip Lx.noteCh ∧ z.line = y.line ∧ Only [w0.heap.size] w2 wr ∧ z.l.length - z.at_ ≤ k
/-- A token's block. -/
def TokNew (w0 : World) (s : ByteArray) (z : Lx.St) (wx : World) (v10 : Value) (wq : World) : Prop :=
  ∃ q, v10 = .pointer (some ⟨q, 0, none⟩) ∧ Rf wq w0.heap.size s z 0 ∧ Whole wq q 28 #[.int .i64 0, .string ⟨#[]⟩, .int .i64 0, .int .i64 z.line, .int .i64 z.col] ∧ Only [w0.heap.size] wx wq ∧ wx.heap.size ≤ q
theorem TokAft.none_ {w : World} {p q : Nat} {s : ByteArray} {line col : Int} {x y : Lx.St} (h : TokAft w p q s line col x y) (hb : y.bad = none) :
    Rf w p s y 0 ∧ ∃ t txt, y.out = x.out ++ [t] ∧ t.line = line ∧ t.col = col ∧ Whole w q 28 #[.int .i64 t.kind, .string txt, .int .i64 t.n, .int .i64 line, .int .i64 col] ∧ (t.kind ≠ 2 → txt = ⟨t.text.toArray⟩) := by
  unfold TokAft at h
  rw [hb] at h
  exact h
theorem TokAft.some_ {w : World} {p q : Nat} {s : ByteArray} {line col a b c : Int} {x y : Lx.St} (h : TokAft w p q s line col x y) (hb : y.bad = some (a, b, c)) :
    (∃ at_, Whole w p 57 #[.string s, at_, .int .i64 a, .int .i64 b, .int .i64 c]) ∧ c ≠ 0 ∧ ∃ k t n, Whole w q 28 #[.int .i64 k, .string t, .int .i64 n, .int .i64 line, .int .i64 col] := by
  unfold TokAft at h
  rw [hb] at h
  exact h
theorem toks_snoc (us : List Lx.Tok) (k n a b : Int) (t : ByteArray) : toksCells us ++ [.int .i64 k, .string t, .int .i64 n, .int .i64 a, .int .i64 b] = toksCells (us ++ [⟨k, t.data.toList, n, a, b⟩]) := by
  simp [toksCells, tokCells]
/-- What a name's loop leaves. -/
def RNameRel (w0 : World) (s : ByteArray) (z : Lx.St) (wq : World) (k : Nat) (v : Value) (wr : World) : Prop :=
  ∃ u, v = .int .i64 ((u.at_ : Int) - z.at_) ∧ Rf wr w0.heap.size s u 0 ∧ Goes z u ∧ u.skip Lx.nameCh = z.skip Lx.nameCh ∧ Only [w0.heap.size] wq wr ∧ u.l.length - u.at_ ≤ k
/-- Behind the switch. -/
def TokMid (w0 : World) (s : ByteArray) (z : Lx.St) (q : Nat) (wq : World) (v8 : Value) (wy : World) : Prop :=
  ∃ z' ln, v8 = .int .i64 ln ∧ TokAft wy w0.heap.size q s z.line z.col z z' ∧ Only [w0.heap.size, q] wq wy ∧ (z'.bad = none → z' = z.one ∧ z.at_ < z.l.length ∧ ln = z'.line - 1) ∧ (∀ a b c, z'.bad = some (a, b, c) → Lx.tokens s = ([], a, b, c))
set_option maxRecDepth 100000 in
set_option maxHeartbeats 8000000 in
theorem rtokens_short (s : ByteArray) (w : World) (hs : s.size ≤ 65536) : Calls Tryd.prog 11 #[.string s] w (RAns s w) := by
  have hs' : (s.size : Int) ≤ 65536 := by omega
  have hns : ¬ 65536 < s.size := by omega
  have f00 := start_fit' s hs
  go_enter Tryd.func11, Tryd.ntmps11
  go_wp2_with fail
  go_loopg [7, 8] ((Lx.start s).l.length + 2) (fun k v7 v8 wr => RTRel w s k v7 v8 wr)
  case atStart =>
    exact ⟨_, [], 0, rfl, rfl, World.ownsRow_nil _ _ _ _, (Below.refl _ _).alloc (Nat.le_refl _) _, .inl ⟨Lx.start s, _, ⟨Whole.made w 57 _, src_start s, f00, hs⟩, rfl, trivial, rfl, by omega, rfl, by omega⟩⟩
  case round =>
    obtain ⟨vb, us, ln, rfl, rfl, own, bw, hst⟩ := hrel
    have own0 := Lib.hid own
    rcases hst with ⟨y, n, hy, hb, lk, hr, hn, rfl, hk⟩ | ⟨a, b, c, at_, hblk, hc, ht⟩
    rotate_left
    · as_aux_lemma =>
      have c2 := hblk.cell 2
      have c3 := hblk.cell 3
      have c4 := hblk.cell 4
      simp at c2 c3 c4
      have e4 : (c == 0) = false := by simp [hc]
      go_wp2_with fail
      go_quiet (fail)
      go_wp2_with fail
      refine bodyPost_ret (v := .tuple #[.slice none 0 0, .int .i64 a, .int .i64 b, .int .i64 c]) (by simp [results, Tryd.results11, go_sem]) rfl ?_
      unfold RAns
      rw [ht]
      exact ⟨_, [], rfl, trivial, World.ownsRow_nil _ _ _ _, bw.drewN' _⟩
    have f0 := hy.fit
    have br := rpk_bd f0
    have c4 := hy.blk.cell 4
    simp at c4
    obtain ⟨m, rfl⟩ : ∃ m, n = m + 1 := ⟨n - 1, by omega⟩
    have pw : w.heap.size < wr.heap.size := hy.blk.lt
    go_wp2_with fail
    refine (rpeek_any hy).mono ?_
    rintro e w2 ⟨rfl, d2, ew2⟩
    have h2 : Rf w2 w.heap.size s y 0 := by rw [ew2]; exact hy.drewN _
    have o2 : Only [w.heap.size] wr w2 := by rw [ew2]; exact (Only.refl _ _).drewN _
    clear ew2
    go_upto_region 8 with (fail)
    go_cut [35] (fun t wx => t = .bool (white (rpk y)) ∧ wx = w2)
    case first =>
      as_aux_lemma =>
      by_cases a1 : rpk y = 32
      · have e1 : (rpk y == 32) = true := by simp [a1]
        go_wp2_with fail
        go_meet
        exact ⟨by simp [white, a1], rfl⟩
      by_cases a2 : rpk y = 9
      · have e1 : (rpk y == 32) = false := by simp [a1]
        have e2 : (rpk y == 9) = true := by simp [a2]
        go_wp2_with fail
        go_meet
        exact ⟨by simp [white, a2], rfl⟩
      have e1 : (rpk y == 32) = false := by simp [a1]
      have e2 : (rpk y == 9) = false := by simp [a2]
      have e3 : (rpk y == 13) = white (rpk y) := by by_cases a3 : rpk y = 13 <;> simp [white, a1, a2, a3]
      go_wp2_with fail
      go_meet
      exact ⟨by first | rfl | rw [e3], rfl⟩
    case rest =>
    obtain ⟨rfl, ewc⟩ := hcut
    have ewc' := ewc.symm
    subst ewc'
    have hne := row_whole_ne own hy.blk (by decide)
    clear hy c4
    rcases hw : white (rpk y) with _ | _
    rotate_left
    · as_aux_lemma =>
      have c2 : rpk y ≠ -2 := by intro h; rw [h] at hw; exact absurd hw (by decide)
      have c3 : ¬ rpk y < 0 := by intro h; simp [white] at hw; omega
      have l1 := rpk_lt0 c2 c3
      have e0 := (rpk_on c2).1
      have E : Hid (y.one = y.step) := rone_white (by rw [e0]; exact hw)
      have eL : y.step.line = y.line := step_line (by rw [e0]; simp [white] at hw; omega)
      have R2 := Lib.hid (run_on hr hb l1)
      go_wp2_with fail
      refine (rpass_any h2 l1).mono ?_
      rintro e w3 ⟨rfl, h3, o3⟩
      go_wp2_with fail
      go_roundg (y.step.l.length - y.step.at_ + 1)
      case measure => rw [step_l, step_at]; omega
      case rel =>
        refine ⟨_, us, _, rfl, rfl, own_apart own (o2.trans o3) (by simpa using hne), bw.trans ((o2.trans o3).below (by omega) (by simp)), .inl ⟨y.step, m, h3, hb, lk, E.out ▸ R2.out, by rw [step_l, step_at]; omega, by rw [eL], Nat.le_refl _⟩⟩
    have pr := Lib.hid fun l1 => one_prog f0 hb l1
    go_upto_if 39 with (fail)
    go_cut [9, 38, 39] (fun r9 _ _ wx => NoteMid w s us (y.line - 1) wr gk r9 wx)
    case first =>
      as_aux_lemma =>
      by_cases c59 : rpk y = 59
      · have e1 : (rpk y == 59) = true := by simp [c59]
        have e0 := (rpk_on (y := y) (by omega)).1
        have l1 := rpk_lt0 (y := y) (by omega) (by omega)
        have R2 := Lib.hid (run_on hr hb l1)
        have EN : Hid (y.one = y.skip Lx.noteCh) := rone_note (by omega)
        have PR := Lib.hid (pr.out l1)
        have hat := f0.at_
        replace c59 := Lib.hid c59
        go_wp2_with fail
        go_loopg [9] (y.l.length - y.at_) (fun k v wr => RNoteRel w s y w2 k v wr)
        case atStart => exact ⟨y, rfl, h2, Goes.refl y, rfl, rfl, Only.refl _ _, Nat.le_refl _⟩
        case round =>
          obtain ⟨z, rfl, hz, gz, ez, lz, oz, kz⟩ := hrel
          have fz := hz.fit
          have bz := rpk_bd fz
          by_cases cs : rpk z = 10 ∨ rpk z < 0
          · have A : Hid (y.one = z) := by
              show y.one = z
              rw [EN.out, ← ez]
              refine skip_stop ?_
              by_cases c2 : rpk z = -2
              · rw [(rpk_cut fz c2).1]; decide
              · rw [(rpk_on c2).1]; simp [Lx.noteCh]; omega
            have hbz : z.bad = none := gz.bad.trans hb
            clear ez
            by_cases c2 : rpk z = -2
            · have e2 : (rpk z == 10) = false := by simp [c2]
              have e3 : (rpk z == -2) = true := by simp [c2]
              have e4 : ¬ (0 : Int) ≤ rpk z := by omega
              replace c2 := Lib.hid c2
              clear cs
              go_wp2_with fail
              go_meet
              replace c2 := c2.out
              have h9 := (PR.out).on (by rw [A.out]; exact hbz)
              rw [A.out] at h9
              exact ⟨z, m, rfl, hz, hbz, by rw [gz.out]; exact lk, A.out ▸ R2.out, by rw [gz.l]; omega, by rw [lz], by rw [gz.l]; omega, o2.trans oz, by omega, by rw [c2]; decide⟩
            · have e3 : (rpk z == -2) = false := by simp [c2]
              by_cases c10 : rpk z = 10
              · have e2 : (rpk z == 10) = true := by simp [c10]
                have e5 : (rpk z != 10) = false := by simp [c10]
                clear cs c2
                go_wp2_with fail
                go_roundg (z.l.length - z.at_ + 1)
                case measure => have := (PR.out).on (by rw [A.out]; exact hbz); rw [A.out] at this; rw [gz.l]; omega
                case rel => exact ⟨_, us, _, rfl, rfl, own_apart own (o2.trans oz) (by simpa using hne), bw.trans ((o2.trans oz).below (by omega) (by simp)), .inl ⟨z, m, hz, hbz, by rw [gz.out]; exact lk, A.out ▸ R2.out, by have := (PR.out).on (by rw [A.out]; exact hbz); rw [A.out] at this; rw [gz.l]; omega, by rw [lz], Nat.le_refl _⟩⟩
              · have e2 : (rpk z == 10) = false := by simp [c10]
                have e4 : ¬ (0 : Int) ≤ rpk z := by omega
                have e5 : (rpk z != 10) = true := by simp [c10]
                clear cs c2
                go_wp2_with fail
                go_roundg (z.l.length - z.at_ + 1)
                case measure => have := (PR.out).on (by rw [A.out]; exact hbz); rw [A.out] at this; rw [gz.l]; omega
                case rel => exact ⟨_, us, _, rfl, rfl, own_apart own (o2.trans oz) (by simpa using hne), bw.trans ((o2.trans oz).below (by omega) (by simp)), .inl ⟨z, m, hz, hbz, by rw [gz.out]; exact lk, A.out ▸ R2.out, by have := (PR.out).on (by rw [A.out]; exact hbz); rw [A.out] at this; rw [gz.l]; omega, by rw [lz], Nat.le_refl _⟩⟩
          · have e2 : (rpk z == 10) = false := by simp; omega
            have e4 : (0 : Int) ≤ rpk z := by omega
            have e5 : ¬ rpk z = 10 := by omega
            have lz1 := rpk_lt0 (y := z) (by omega) (by omega)
            have ezr := (rpk_on (y := z) (by omega)).1
            have hsk : Hid (z.step.skip Lx.noteCh = y.skip Lx.noteCh) := by
              show _ = _
              rw [← ez]
              exact (skip_step (by rw [ezr]; simp [Lx.noteCh]; omega) lz1).symm
            clear cs
            go_wp2_with fail
            refine (rpass_any hz lz1).mono ?_
            rintro e w3 ⟨rfl, h3, o3⟩
            go_wp2_with fail
            refine (rpeek_any h3).mono ?_
            rintro e w4 ⟨rfl, d4, ew4⟩
            have h4 : Rf w4 w.heap.size s z.step 0 := by rw [ew4]; exact h3.drewN _
            have o4 : Only [w.heap.size] w3 w4 := by rw [ew4]; exact (Only.refl _ _).drewN _
            clear ew4
            go_wp2_with fail
            go_roundg (z.step.l.length - z.step.at_)
            case measure => rw [step_l, step_at]; omega
            case rel => exact ⟨z.step, rfl, h4, gz.trans (Goes.step z), hsk.out, (step_line (by omega)).trans lz, (oz.trans o3).trans o4, Nat.le_refl _⟩
      · have e1 : (rpk y == 59) = false := by simp [c59]
        go_wp2_with fail
        go_meet
        exact ⟨y, m + 1, rfl, h2, hb, lk, hr, hn, rfl, hk, o2, c59, hw⟩
    case rest =>
    clear h2 o2
    obtain ⟨z, mz, rfl, h2, hbz, lkz, hrz, hnz, eln, hkz, o2, c59, hwz⟩ := hcut
    rw [eln]
    clear hb lk hr hn hk hw pr eln br f0
    have f0 := h2.fit
    have br := rpk_bd f0
    obtain ⟨m2, rfl⟩ : ∃ m, mz = m + 1 := ⟨mz - 1, by omega⟩
    have k2 := h2.blk.cell 2
    have k3 := h2.blk.cell 3
    simp at k2 k3
    have pw2 : w.heap.size < wc.heap.size := h2.blk.lt
    go_upto_region 15 with (fail)
    go_cut [10] (fun v10 wq => TokNew w s z wc v10 wq)
    case first =>
      as_aux_lemma =>
      go_region
      all_goals
        go_wp2_with fail
        go_meet
        exact ⟨_, rfl, ⟨(h2.blk.alloc _).drewN _, h2.src, h2.fit, h2.size⟩, (Whole.made _ _ _).drewN _, ((Only.refl _ _).alloc _).drewN _, Nat.le_refl _⟩
    case rest =>
    obtain ⟨q, rfl, h3, g3, o3, hqs⟩ := hcut
    have hne2 := row_whole_ne (own_apart own o2 (by simpa using hne)) h2.blk (by decide)
    have own2 := own_apart own o2 (by simpa using hne)
    have own3 := own_apart own2 o3 (by simpa using hne)
    have hneq : vb.ownBlock ≠ some q := fun hk => by have := (own2.lt q hk).2; omega
    have hpq : w.heap.size ≠ q := by omega
    have hqp : q ∉ [w.heap.size] := by simp; omega
    have hqp' : q ≠ w.heap.size := by omega
    have ul : us.length ≤ 65536 := by have := lkz.length; have := f0.out; have := f0.at_; have := f0.len; omega
    have br := rpk_bd f0
    have z1 := o2.size
    have z2 := o3.size
    have z3 := g3.lt
    have z4 := bw.size
    clear k2 k3
    obtain ⟨i0, hi, hz0, hz1, hz2⟩ := info_parts info28
    go_upto_block 4 with (fail)
    go_cut [8, 11, 12, 71, 84, 92, 108, 144, 149, 154, 159] (fun v8 _ _ _ _ _ _ _ _ _ _ wy => TokMid w s z q wc v8 wy)
    case first =>
      by_cases c2 : rpk z = -2
      · as_aux_lemma =>
        have e1 : (rpk z == -2) = true := by simp [c2]
        have CU := Lib.hid (rpk_cut f0 c2)
        have k2 := h3.blk.cell 2
        have k3 := h3.blk.cell 3
        simp at k2 k3
        clear c2
        go_wp2_with fail
        refine wp_region_still_tail 9 (by kernel_rfl) (by kernel_rfl) ?_
        simp only [List.take_succ_cons, List.take_zero, List.drop_succ_cons, List.drop_zero]
        change wpStill _ _ (wc.drewN 1) _ _ _
        repeat still_step
        refine wpStill_nil ?_
        change wpList _ _ _ _ _ (wc.drewN 1)
        go_wp2_with fail
        refine (rfail_first z.line z.col z.line z.col (h3.blk.drewN 1)).mono ?_
        rintro e w9 ⟨rfl, h9, o9⟩
        go_wp2_with fail
        go_meet
        exact ⟨z.fail z.line z.col 4, z.line - 1, rfl, TokAft.fault (fail_bad hbz _ _ _) h9 (by decide) ((g3.drewN 1).only o9 hqp), ((Only.refl _ _).drewN 1).trans (o9.more (by simp)), fun h => absurd h (fail_some _ _ _ _), fun a b c h => by rw [fail_bad hbz] at h; cases h; exact tokens_cut hns hrz hbz CU.out.2.1 CU.out.2.2⟩
      have e1 : (rpk z == -2) = false := by simp [c2]
      have er := (rpk_on c2).1
      have ec := (rpk_on c2).2
      by_cases c1 : rpk z = -1
      · have e2 : (rpk z == -1) = true := by simp [c1]
        have l0 : ¬ z.at_ < z.l.length := by
          intro h
          have e := rpk_lt h
          have h' := f0.runes (z.l[z.at_]'h) (List.getElem_mem h)
          have e' : z.peek 0 = z.l[z.at_]'h := by rw [peek_getD]; simp [List.getD, h]
          omega
        have hat : z.at_ = z.l.length := by have := f0.at_; omega
        have hcut : z.cut = false := by
          rcases hc : z.cut with _ | _
          · rfl
          · exact absurd ⟨hc, hat⟩ ec
        have TE := Lib.hid (tokens_end hns hrz hbz hcut hat)
        have b0 := g3.cell 0
        have b1 := g3.cell 1
        have b2 := g3.cell 2
        have b3 := g3.cell 3
        have b4 := g3.cell 4
        have v0 := g3.frozen 0
        simp at b0 b1 b2 b3 b4
        have own4 : (wc.setCell ⟨q, 0, none⟩ (.int .i64 6)).ownsRow w.heap.size 28 5 vb us.length (toksCells us) := own_apart own3 ((Only.refl [q] _).setCell (.inl (by simp)) _) (by simpa using hneq)
        have HN : ((wc.setCell ⟨q, 0, none⟩ (.int .i64 6)).alloc (.cells #[.int .i64 6, .string ⟨#[]⟩, .int .i64 0, .int .i64 z.line, .int .i64 z.col] 28)).heap[wc.heap.size]? = some (.cells #[.int .i64 6, .string ⟨#[]⟩, .int .i64 0, .int .i64 z.line, .int .i64 z.col] 28 (0, 0)) := by
          have := heap_alloc_new (wc.setCell ⟨q, 0, none⟩ (.int .i64 6)) (.cells #[.int .i64 6, .string ⟨#[]⟩, .int .i64 0, .int .i64 z.line, .int .i64 z.col] 28)
          have e : (wc.setCell ⟨q, 0, none⟩ (.int .i64 6)).heap.size = wc.heap.size := by simp
          rwa [e] at this
        clear c1 c2
        go_wp2_with (at_builtin; go_loud (refine wpList_append_own _ rfl _ _ _ rfl w.heap.size 28 i0 _ 5 48 Tryd.underlying23 hi hz0 hz1 hz2 rfl (by decide) vb us.length (toksCells us) rfl (own4.alloc _) ⟨wc.heap.size, 0, none⟩ 1 1 [.int .i64 6, .string ⟨#[]⟩, .int .i64 0, .int .i64 z.line, .int .i64 z.col] rfl rfl (World.news_of_block (cs := #[.int .i64 6, .string ⟨#[]⟩, .int .i64 0, .int .i64 z.line, .int .i64 z.col]) (t := 28) (fr := (0, 0)) HN) (by simp [Value.oneCell']) ?c3 ?c4 ?c5 ?_))
        case c3 => unfold maxLen; omega
        case c4 => omega
        case c5 => first | omega | (simp; omega)
        intro v' w5 own5 hgrow _
        go_wp2_with fail
        refine bodyPost_ret (v := .tuple #[v', .int .i64 0, .int .i64 0, .int .i64 0]) (by simp [results, Tryd.results11, go_sem]) rfl ?_
        unfold RAns
        rw [TE.out]
        rw [toks_snoc] at own5
        refine ⟨_, us ++ [⟨6, [], 0, z.line, z.col⟩], rfl, Like.snoc ⟨rfl, rfl, rfl, rfl, fun _ => rfl⟩ lkz, by simpa using own5, ?_⟩
        exact ((((bw.trans (o2.below (by omega) (by simp))).trans (o3.below (by omega) (by simp))).setCell (by show _ ≤ q; omega) _).alloc (by simp; omega) _).grown hgrow (by simp; omega) (fun k hk => (own4.lt k hk).1)
      have e2 : (rpk z == -1) = false := by simp [c1]
      have rp : 0 ≤ rpk z := by omega
      have lz := rpk_lt0 c2 (by omega)
      by_cases c10 : rpk z = 10
      · have e3 : (rpk z == 10) = true := by simp [c10]
        by_cases c8 : 8000 < z.line
        · as_aux_lemma =>
          have E : Hid (z.one = z.fail z.line z.col 2) := rone_end_bad (by omega) c8
          have h8 : (8000 : Int) < z.line - 1 + 1 := by omega
          have L8 : z.line - 1 + 1 = z.line := by omega
          have W8 : IntKind.i64.wrap z.line = z.line := by have := f0.line0; have := f0.line1; have := f0.at_; have := f0.len; rw [IntKind.wrap_i64]; omega
          have b3 := g3.cell 3
          have b4 := g3.cell 4
          simp at b3 b4
          clear c1 c2 c10
          go_wp2_with fail
          refine (rfail_first z.line z.col z.line z.col h3.blk).mono ?_
          rintro e w9 ⟨rfl, h9, o9⟩
          go_wp2_with fail
          go_meet
          exact ⟨z.one, z.line, rfl, TokAft.fault (by rw [E.out]; exact fail_bad hbz _ _ _) h9 (by decide) (g3.only o9 hqp), o9.more (by simp), fun h => absurd h (by rw [E.out]; exact fail_some _ _ _ _), fun a b c h => tokens_fault hns (run_on hrz hbz lz) h⟩
        · as_aux_lemma =>
          have E : Hid (z.one = z.step.put 5 [] 0 z.line z.col) := rone_end (by omega) c8
          have h8 : ¬ (8000 : Int) < z.line - 1 + 1 := by omega
          have L8 : z.line - 1 + 1 = z.line := by omega
          have W8 : IntKind.i64.wrap z.line = z.line := by have := f0.line0; have := f0.line1; have := f0.at_; have := f0.len; rw [IntKind.wrap_i64]; omega
          have b0 := g3.cell 0
          have v0 := g3.frozen 0
          simp at b0
          have h4 : Rf (wc.setCell ⟨q, 0, none⟩ (.int .i64 5)) w.heap.size s z 0 := ⟨h3.blk.far (p := ⟨q, 0, none⟩) hpq _, h3.src, h3.fit, h3.size⟩
          have EL : Hid (z.step.line = z.line + 1) := step_line_end (by omega)
          have PF := Lib.hid (one_prog f0 hbz lz).fit
          clear c1 c2 c10
          go_wp2_with fail
          refine (rpass_any h4 lz).mono ?_
          rintro e w9 ⟨rfl, h9, o9⟩
          go_wp2_with fail
          go_meet
          refine ⟨z.one, z.line, rfl, TokAft.tok (txt := ⟨#[]⟩) h9 E.out PF.out hbz rfl ((g3.put 0 _).only o9 hqp) (fun _ => rfl), ((Only.refl _ _).setCell (.inl (by simp)) _).trans (o9.more (by simp)), fun _ => ⟨rfl, lz, by rw [E.out]; show _ = z.step.line - 1; rw [EL.out]; omega⟩, fun a b c h => ?_⟩
          rw [E.out] at h
          exact absurd h (by show z.step.bad ≠ _; rw [show z.step.bad = none from hbz]; simp)
      have e3 : (rpk z == 10) = false := by simp [c10]
      have TF : Hid (∀ a b c, z.one.bad = some (a, b, c) → Lx.tokens s = ([], a, b, c)) := fun a b c h => tokens_fault hns (run_on hrz hbz lz) h
      have OL : Hid (z.one.bad = none → z.one.line = z.line) := fun h => by rw [rone_line h, if_neg (by omega)]
      clear c1 c2 c10 ec
      rcases hL : Lx.letter (rpk z) with _ | _
      · rcases hD : Lx.digit (rpk z) with _ | _
        · by_cases c39 : rpk z = 39
          · as_aux_lemma =>
            have E : Hid (z.one = z.quoted) := rone_quoted (by omega)
            have e4 : (rpk z == 39) = true := by simp [c39]
            clear c39
            go_wp2_with fail
            refine (rletter_any _ _).mono ?_
            rintro e w' ⟨rfl, ew⟩
            have ew' := ew.symm
            subst ew'
            rw [hL]
            go_wp2_with fail
            refine (rdigit_any _ _).mono ?_
            rintro e w' ⟨rfl, ew⟩
            have ew' := ew.symm
            subst ew'
            rw [hD]
            go_wp2_with fail
            refine (rchar_any h3 hbz lz g3).mono ?_
            rintro e w9 ⟨rfl, ta, o9⟩
            go_wp2_with fail
            go_meet
            exact ⟨z.one, z.line - 1, rfl, by rw [E.out]; exact ta, o9, fun h => ⟨rfl, lz, by rw [OL.out h]⟩, TF.out⟩
          have e4 : (rpk z == 39) = false := by simp [c39]
          by_cases c34 : rpk z = 34
          · as_aux_lemma =>
            have E : Hid (z.one = z.text) := rone_text (by omega)
            have e5 : (rpk z == 34) = true := by simp [c34]
            clear c34 c39
            go_wp2_with fail
            refine (rletter_any _ _).mono ?_
            rintro e w' ⟨rfl, ew⟩
            have ew' := ew.symm
            subst ew'
            rw [hL]
            go_wp2_with fail
            refine (rdigit_any _ _).mono ?_
            rintro e w' ⟨rfl, ew⟩
            have ew' := ew.symm
            subst ew'
            rw [hD]
            go_wp2_with fail
            refine (rstr_any h3 hbz lz g3).mono ?_
            rintro e w9 ⟨rfl, ta, o9⟩
            go_wp2_with fail
            go_meet
            exact ⟨z.one, z.line - 1, rfl, by rw [E.out]; exact ta, o9, fun h => ⟨rfl, lz, by rw [OL.out h]⟩, TF.out⟩
          have e5 : (rpk z == 34) = false := by simp [c34]
          clear c34 c39
          go_wp2_with fail
          refine (rletter_any _ _).mono ?_
          rintro e w' ⟨rfl, ew⟩
          have ew' := ew.symm
          subst ew'
          rw [hL]
          go_wp2_with fail
          refine (rdigit_any _ _).mono ?_
          rintro e w' ⟨rfl, ew⟩
          have ew' := ew.symm
          subst ew'
          rw [hD]
          go_upto_region 44 with (fail)
          go_cut [159] (fun t wx => t = .bool (Lx.sign (rpk z)) ∧ wx = wc)
          case first =>
            as_aux_lemma =>
            by_cases s0 : rpk z = 44
            · have y0 : (rpk z == 44) = true := by simp [s0]
              have ES : Lx.sign (rpk z) = true := by simp [Lx.sign, s0]
              clear s0
              go_wp2_with fail
              go_meet
              exact ⟨by rw [ES], rfl⟩
            have y0 : (rpk z == 44) = false := by simp [s0]
            by_cases s1 : rpk z = 58
            · have y1 : (rpk z == 58) = true := by simp [s1]
              have ES : Lx.sign (rpk z) = true := by simp [Lx.sign, s1]
              clear s1
              go_wp2_with fail
              go_meet
              exact ⟨by rw [ES], rfl⟩
            have y1 : (rpk z == 58) = false := by simp [s1]
            by_cases s2 : rpk z = 45
            · have y2 : (rpk z == 45) = true := by simp [s2]
              have ES : Lx.sign (rpk z) = true := by simp [Lx.sign, s2]
              clear s2
              go_wp2_with fail
              go_meet
              exact ⟨by rw [ES], rfl⟩
            have y2 : (rpk z == 45) = false := by simp [s2]
            by_cases s3 : rpk z = 43
            · have y3 : (rpk z == 43) = true := by simp [s3]
              have ES : Lx.sign (rpk z) = true := by simp [Lx.sign, s3]
              clear s3
              go_wp2_with fail
              go_meet
              exact ⟨by rw [ES], rfl⟩
            have y3 : (rpk z == 43) = false := by simp [s3]
            by_cases s4 : rpk z = 40
            · have y4 : (rpk z == 40) = true := by simp [s4]
              have ES : Lx.sign (rpk z) = true := by simp [Lx.sign, s4]
              clear s4
              go_wp2_with fail
              go_meet
              exact ⟨by rw [ES], rfl⟩
            have y4 : (rpk z == 40) = false := by simp [s4]
            by_cases s5 : rpk z = 41
            · have y5 : (rpk z == 41) = true := by simp [s5]
              have ES : Lx.sign (rpk z) = true := by simp [Lx.sign, s5]
              clear s5
              go_wp2_with fail
              go_meet
              exact ⟨by rw [ES], rfl⟩
            have y5 : (rpk z == 41) = false := by simp [s5]
            by_cases s6 : rpk z = 61
            · have y6 : (rpk z == 61) = true := by simp [s6]
              have ES : Lx.sign (rpk z) = true := by simp [Lx.sign, s6]
              clear s6
              go_wp2_with fail
              go_meet
              exact ⟨by rw [ES], rfl⟩
            have y6 : (rpk z == 61) = false := by simp [s6]
            have ES : Lx.sign (rpk z) = false := by simp [Lx.sign, s0, s1, s2, s3, s4, s5, s6]
            clear s0 s1 s2 s3 s4 s5 s6
            go_wp2_with fail
            go_meet
            exact ⟨by rw [ES], rfl⟩
          case rest =>
          obtain ⟨rfl, ewc⟩ := hcut
          have ewc' := ewc.symm
          subst ewc'
          rcases hS : Lx.sign (rpk z) with _ | _
          · as_aux_lemma =>
            have E : Hid (z.one = z.fail z.line z.col 3) := by
              simp only [beq_eq_false_iff_ne] at e3 e4 e5
              exact rone_bad (by rw [er]; exact hwz) (by omega) (by omega) (by rw [er]; exact hL) (by rw [er]; exact hD) (by omega) (by omega) (by rw [er]; exact hS)
            have k2 := h3.blk.cell 2
            have k3 := h3.blk.cell 3
            simp at k2 k3
            go_wp2_with fail
            refine wp_region_still_tail 9 (by kernel_rfl) (by kernel_rfl) ?_
            simp only [List.take_succ_cons, List.take_zero, List.drop_succ_cons, List.drop_zero]
            change wpStill _ _ (wc.drewN 1) _ _ _
            repeat still_step
            refine wpStill_nil ?_
            change wpList _ _ _ _ _ (wc.drewN 1)
            go_wp2_with fail
            refine (rfail_first z.line z.col z.line z.col (h3.blk.drewN 1)).mono ?_
            rintro e w9 ⟨rfl, h9, o9⟩
            go_wp2_with fail
            go_meet
            exact ⟨z.one, z.line - 1, rfl, TokAft.fault (by rw [E.out]; exact fail_bad hbz _ _ _) h9 (by decide) ((g3.drewN 1).only o9 hqp), ((Only.refl _ _).drewN 1).trans (o9.more (by simp)), fun h => absurd h (by rw [E.out]; exact fail_some _ _ _ _), TF.out⟩
          · as_aux_lemma =>
            have E : Hid (z.one = z.step.put 4 (Utf8.encode (z.peek 0)).data.toList 0 z.line z.col) := rone_sign (by rw [er]; exact hS)
            have PF := Lib.hid (one_prog f0 hbz lz).fit
            have hlow : z.l.getD z.at_ (-1) < 128 := by
              have e : z.l.getD z.at_ (-1) = rpk z := er
              rw [e]
              simp [Lx.sign] at hS
              omega
            obtain ⟨i1, _, i2⟩ := rune_byte h3.src z.at_ lz hlow
            have RT := Lib.hid (rune_text h3.src z.at_ lz)
            rw [i2] at RT
            have b0 := h3.blk.cell 0
            have b1 := h3.blk.cell 1
            have x0 := g3.cell 0
            have x1 := g3.cell 1
            have v0 := g3.frozen 0
            have v1 := g3.frozen 1
            simp at b0 b1 x0 x1
            have j1 : (0 : Int) ≤ (pos s z.at_ : Int) + 1 := by omega
            have j2 : (pos s z.at_ : Int) + 1 ≤ s.size := by omega
            have j3 : (pos s z.at_ : Int) ≤ (pos s z.at_ : Int) + 1 := by omega
            have jw : IntKind.i64.wrap ((pos s z.at_ : Int) + 1) = (pos s z.at_ : Int) + 1 := by rw [IntKind.wrap_i64]; omega
            have RW : Rf ((wc.setCell ⟨q, 0, none⟩ (.int .i64 4)).setCell ⟨q, 1, none⟩ (.string (s.extract (pos s z.at_) (pos s z.at_ + 1)))).drew w.heap.size s z 0 := ⟨((h3.blk.far (p := ⟨q, 0, none⟩) hpq _).far (p := ⟨q, 1, none⟩) hpq _).drew, h3.src, h3.fit, h3.size⟩
            have GW : Whole ((wc.setCell ⟨q, 0, none⟩ (.int .i64 4)).setCell ⟨q, 1, none⟩ (.string (s.extract (pos s z.at_) (pos s z.at_ + 1)))).drew q 28 #[.int .i64 4, .string (s.extract (pos s z.at_) (pos s z.at_ + 1)), .int .i64 0, .int .i64 z.line, .int .i64 z.col] := ((g3.put 0 _).put 1 _).drew
            have OW : Only [w.heap.size, q] wc ((wc.setCell ⟨q, 0, none⟩ (.int .i64 4)).setCell ⟨q, 1, none⟩ (.string (s.extract (pos s z.at_) (pos s z.at_ + 1)))).drew := (((Only.refl _ _).setCell (.inl (by simp)) _).setCell (.inl (by simp)) _).drew
            clear hlow i2
            go_wp2_with fail
            go_region
            go_wp2_with fail
            refine (rpass_any RW lz).mono ?_
            rintro e w9 ⟨rfl, h9, o9⟩
            go_wp2_with fail
            go_meet
            exact ⟨z.one, z.line - 1, rfl, TokAft.tok h9 E.out PF.out hbz rfl (GW.only o9 hqp) (fun _ => RT.out), OW.trans (o9.more (by simp)), fun h => ⟨rfl, lz, by rw [OL.out h]⟩, TF.out⟩
        · as_aux_lemma =>
          have E : Hid (z.one = z.number) := rone_number (by rw [er]; exact hD)
          have hD' : Lx.digit (z.peek 0) = true := by rw [er]; exact hD
          go_wp2_with fail
          refine (rletter_any _ _).mono ?_
          rintro e w' ⟨rfl, ew⟩
          have ew' := ew.symm
          subst ew'
          rw [hL]
          go_wp2_with fail
          refine (rdigit_any _ _).mono ?_
          rintro e w' ⟨rfl, ew⟩
          have ew' := ew.symm
          subst ew'
          rw [hD]
          go_wp2_with fail
          refine (rnumber_any h3 hbz hD' g3).mono ?_
          rintro e w9 ⟨rfl, ta, o9⟩
          go_wp2_with fail
          go_meet
          exact ⟨z.one, z.line - 1, rfl, by rw [E.out]; exact ta, o9, fun h => ⟨rfl, lz, by rw [OL.out h]⟩, TF.out⟩
      · as_aux_lemma =>
        go_wp2_with fail
        refine (rletter_any _ _).mono ?_
        rintro e w' ⟨rfl, ew⟩
        have ew' := ew.symm
        subst ew'
        rw [hL]
        have E1 : Hid (z.one = z.name) := rone_name (by rw [er]; exact hL)
        have PF := Lib.hid (one_prog f0 hbz lz).fit
        have b1 := h3.blk.cell 1
        simp at b1
        go_wp2_with fail
        go_loopg [12] (z.l.length - z.at_) (fun k v wr => RNameRel w s z wc k v wr)
        case atStart => exact ⟨z, by simp, h3, Goes.refl z, rfl, Only.refl _ _, Nat.le_refl _⟩
        case round =>
          obtain ⟨u, rfl, hu, gu, eu, ou, ku⟩ := hrel
          have fu := hu.fit
          have lr := letter_rpk u
          have dr := digit_rpk u
          have ua := gu.at_
          have ub := fu.at_
          have uc := fu.len
          by_cases hn : Lx.nameCh (u.peek 0) = true
          · have lu : u.at_ < u.l.length := by
              refine getD_neg u.l (u.at_ + 0) ?_
              rw [← peek_getD]
              simp [Lx.nameCh, Lx.letter, Lx.digit] at hn
              omega
            have W : IntKind.i64.wrap ((u.at_ : Int) - z.at_ + 1) = (u.at_ : Int) - z.at_ + 1 := by rw [IntKind.wrap_i64]; omega
            have SK : Hid (u.step.skip Lx.nameCh = z.skip Lx.nameCh) := by
              show _ = _
              rw [← eu]
              exact (skip_step hn lu).symm
            rcases hl : Lx.letter (u.peek 0) with _ | _
            · have hd : Lx.digit (u.peek 0) = true := by simpa [Lx.nameCh, hl] using hn
              clear hn
              go_wp2_with fail
              refine (rpeek_any hu).mono ?_
              rintro e wu1 ⟨rfl, du1, ewu1⟩
              have hu1 : Rf wu1 w.heap.size s u 0 := by rw [ewu1]; exact hu.drewN _
              have ou1 : Only [w.heap.size] wr wu1 := by rw [ewu1]; exact (Only.refl _ _).drewN _
              clear ewu1
              go_wp2_with fail
              refine (rletter_any _ _).mono ?_
              rintro e w' ⟨rfl, ew⟩
              have ew' := ew.symm
              subst ew'
              rw [lr, hl]
              go_wp2_with fail
              refine (rpeek_any hu1).mono ?_
              rintro e wu2 ⟨rfl, du2, ewu2⟩
              have hu2 : Rf wu2 w.heap.size s u 0 := by rw [ewu2]; exact hu1.drewN _
              have ou2 : Only [w.heap.size] wu1 wu2 := by rw [ewu2]; exact (Only.refl _ _).drewN _
              clear ewu2
              go_wp2_with fail
              refine (rdigit_any _ _).mono ?_
              rintro e w' ⟨rfl, ew⟩
              have ew' := ew.symm
              subst ew'
              rw [dr, hd]
              go_wp2_with fail
              refine (rpass_any hu2 lu).mono ?_
              rintro e w3 ⟨rfl, h9, o9⟩
              go_wp2_with fail
              go_roundg (u.step.l.length - u.step.at_)
              case measure => rw [step_l, step_at]; omega
              case rel => exact ⟨u.step, congrArg (Value.int .i64) (by rw [step_at]; omega), h9, gu.trans (Goes.step u), SK.out, ((ou.trans ou1).trans ou2).trans o9, Nat.le_refl _⟩
            · clear hn
              go_wp2_with fail
              refine (rpeek_any hu).mono ?_
              rintro e wu1 ⟨rfl, du1, ewu1⟩
              have hu1 : Rf wu1 w.heap.size s u 0 := by rw [ewu1]; exact hu.drewN _
              have ou1 : Only [w.heap.size] wr wu1 := by rw [ewu1]; exact (Only.refl _ _).drewN _
              clear ewu1
              go_wp2_with fail
              refine (rletter_any _ _).mono ?_
              rintro e w' ⟨rfl, ew⟩
              have ew' := ew.symm
              subst ew'
              rw [lr, hl]
              go_wp2_with fail
              refine (rpass_any hu1 lu).mono ?_
              rintro e w3 ⟨rfl, h9, o9⟩
              go_wp2_with fail
              go_roundg (u.step.l.length - u.step.at_)
              case measure => rw [step_l, step_at]; omega
              case rel => exact ⟨u.step, congrArg (Value.int .i64) (by rw [step_at]; omega), h9, gu.trans (Goes.step u), SK.out, (ou.trans ou1).trans o9, Nat.le_refl _⟩
          · have hl : Lx.letter (u.peek 0) = false := by
              rcases h : Lx.letter (u.peek 0) with _ | _
              · rfl
              · exact absurd (by simp [Lx.nameCh, h]) hn
            have hd : Lx.digit (u.peek 0) = false := by
              rcases h : Lx.digit (u.peek 0) with _ | _
              · rfl
              · exact absurd (by simp [Lx.nameCh, h]) hn
            have A : z.skip Lx.nameCh = u := by rw [← eu]; exact skip_stop (by simpa using hn)
            have hub : u.bad = none := gu.bad.trans hbz
            have i1 : pos s z.at_ ≤ pos s u.at_ := pos_mono hu.src u.at_ z.at_ gu.at_ fu.at_
            have i2 := pos_le hu.src u.at_ fu.at_
            have j1 : (pos s z.at_ : Int) ≤ pos s u.at_ := by omega
            have j2 : (pos s u.at_ : Int) ≤ s.size := by omega
            have CT := Lib.hid (cut_text hu.src z.at_ u.at_ gu.at_ fu.at_)
            have EL : u.l = z.l := gu.l
            have WALK : Hid (∀ w', Only [w.heap.size] wc w' → Whole w' q 28 #[.int .i64 0, .string ⟨#[]⟩, .int .i64 0, .int .i64 z.line, .int .i64 z.col]) := fun w' o => g3.only o hqp
            by_cases h40 : 40 < u.at_ - z.at_
            · have E : Hid (z.one = u.fail z.line z.col 2) := E1.out.trans (name_bad' A h40)
              have h40' : (40 : Int) < (u.at_ : Int) - z.at_ := by omega
              clear A hn h40 EL
              go_wp2_with fail
              refine (rpeek_any hu).mono ?_
              rintro e wu1 ⟨rfl, du1, ewu1⟩
              have hu1 : Rf wu1 w.heap.size s u 0 := by rw [ewu1]; exact hu.drewN _
              have ou1 : Only [w.heap.size] wr wu1 := by rw [ewu1]; exact (Only.refl _ _).drewN _
              clear ewu1
              go_wp2_with fail
              refine (rletter_any _ _).mono ?_
              rintro e w' ⟨rfl, ew⟩
              have ew' := ew.symm
              subst ew'
              rw [lr, hl]
              go_wp2_with fail
              refine (rpeek_any hu1).mono ?_
              rintro e wu2 ⟨rfl, du2, ewu2⟩
              have hu2 : Rf wu2 w.heap.size s u 0 := by rw [ewu2]; exact hu1.drewN _
              have ou2 : Only [w.heap.size] wu1 wu2 := by rw [ewu2]; exact (Only.refl _ _).drewN _
              clear ewu2
              go_wp2_with fail
              refine (rdigit_any _ _).mono ?_
              rintro e w' ⟨rfl, ew⟩
              have ew' := ew.symm
              subst ew'
              rw [dr, hd]
              have OU := (ou.trans ou1).trans ou2
              have GU := WALK.out wu2 OU
              have RW : Rf ((wu2.setCell ⟨q, 0, none⟩ (.int .i64 1)).setCell ⟨q, 1, none⟩ (.string (s.extract (pos s z.at_) (pos s u.at_)))) w.heap.size s u 0 := ⟨(hu2.blk.far (p := ⟨q, 0, none⟩) hpq _).far (p := ⟨q, 1, none⟩) hpq _, hu2.src, hu2.fit, hu2.size⟩
              have GW : Whole ((wu2.setCell ⟨q, 0, none⟩ (.int .i64 1)).setCell ⟨q, 1, none⟩ (.string (s.extract (pos s z.at_) (pos s u.at_)))) q 28 #[.int .i64 1, .string (s.extract (pos s z.at_) (pos s u.at_)), .int .i64 0, .int .i64 z.line, .int .i64 z.col] := (GU.put 0 _).put 1 _
              have OW : Only [w.heap.size, q] wc ((wu2.setCell ⟨q, 0, none⟩ (.int .i64 1)).setCell ⟨q, 1, none⟩ (.string (s.extract (pos s z.at_) (pos s u.at_)))) := ((OU.more (by simp)).setCell (.inl (by simp)) _).setCell (.inl (by simp)) _
              have x0 := GU.cell 0
              have x1 := GU.cell 1
              have x3 := GU.cell 3
              have x4 := GU.cell 4
              have v0 := GU.frozen 0
              have v1 := GU.frozen 1
              have y0 := hu2.blk.cell 0
              have y1 := hu2.blk.cell 1
              simp at x0 x1 x3 x4 y0 y1
              go_wp2_with fail
              refine (rfail_first u.line u.col z.line z.col RW.blk).mono ?_
              rintro e w9 ⟨rfl, h9, o9⟩
              go_wp2_with fail
              go_meet
              exact ⟨z.one, z.line - 1, rfl, TokAft.fault (by rw [E.out]; exact fail_bad hub _ _ _) h9 (by decide) (GW.only o9 hqp), OW.trans (o9.more (by simp)), fun h => absurd h (by rw [E.out]; exact fail_some _ _ _ _), TF.out⟩
            · have E : Hid (z.one = u.put 1 (Lx.runesBytes ((z.l.drop z.at_).take (u.at_ - z.at_))) 0 z.line z.col) := E1.out.trans (name_good' A h40)
              have h40' : ¬ (40 : Int) < (u.at_ : Int) - z.at_ := by omega
              rw [EL] at CT
              clear A hn h40 EL
              go_wp2_with fail
              refine (rpeek_any hu).mono ?_
              rintro e wu1 ⟨rfl, du1, ewu1⟩
              have hu1 : Rf wu1 w.heap.size s u 0 := by rw [ewu1]; exact hu.drewN _
              have ou1 : Only [w.heap.size] wr wu1 := by rw [ewu1]; exact (Only.refl _ _).drewN _
              clear ewu1
              go_wp2_with fail
              refine (rletter_any _ _).mono ?_
              rintro e w' ⟨rfl, ew⟩
              have ew' := ew.symm
              subst ew'
              rw [lr, hl]
              go_wp2_with fail
              refine (rpeek_any hu1).mono ?_
              rintro e wu2 ⟨rfl, du2, ewu2⟩
              have hu2 : Rf wu2 w.heap.size s u 0 := by rw [ewu2]; exact hu1.drewN _
              have ou2 : Only [w.heap.size] wu1 wu2 := by rw [ewu2]; exact (Only.refl _ _).drewN _
              clear ewu2
              go_wp2_with fail
              refine (rdigit_any _ _).mono ?_
              rintro e w' ⟨rfl, ew⟩
              have ew' := ew.symm
              subst ew'
              rw [dr, hd]
              have OU := (ou.trans ou1).trans ou2
              have GU := WALK.out wu2 OU
              have RW : Rf ((wu2.setCell ⟨q, 0, none⟩ (.int .i64 1)).setCell ⟨q, 1, none⟩ (.string (s.extract (pos s z.at_) (pos s u.at_)))) w.heap.size s u 0 := ⟨(hu2.blk.far (p := ⟨q, 0, none⟩) hpq _).far (p := ⟨q, 1, none⟩) hpq _, hu2.src, hu2.fit, hu2.size⟩
              have GW : Whole ((wu2.setCell ⟨q, 0, none⟩ (.int .i64 1)).setCell ⟨q, 1, none⟩ (.string (s.extract (pos s z.at_) (pos s u.at_)))) q 28 #[.int .i64 1, .string (s.extract (pos s z.at_) (pos s u.at_)), .int .i64 0, .int .i64 z.line, .int .i64 z.col] := (GU.put 0 _).put 1 _
              have OW : Only [w.heap.size, q] wc ((wu2.setCell ⟨q, 0, none⟩ (.int .i64 1)).setCell ⟨q, 1, none⟩ (.string (s.extract (pos s z.at_) (pos s u.at_)))) := ((OU.more (by simp)).setCell (.inl (by simp)) _).setCell (.inl (by simp)) _
              have x0 := GU.cell 0
              have x1 := GU.cell 1
              have x3 := GU.cell 3
              have x4 := GU.cell 4
              have v0 := GU.frozen 0
              have v1 := GU.frozen 1
              have y0 := hu2.blk.cell 0
              have y1 := hu2.blk.cell 1
              simp at x0 x1 x3 x4 y0 y1
              go_wp2_with fail
              go_meet
              exact ⟨z.one, z.line - 1, rfl, TokAft.tok RW E.out PF.out hub gu.out GW (fun _ => CT.out), OW, fun h => ⟨rfl, lz, by rw [OL.out h]⟩, TF.out⟩
    case rest =>
    clear h3 g3
    obtain ⟨z', ln, rfl, ta, o4, tn, ts⟩ := hcut
    have own4 := own_apart own3 o4 (by simp; exact ⟨hne, hneq⟩)
    have z5 := o4.size
    rcases hzb : z'.bad with _ | ⟨a, b, c⟩
    · obtain ⟨h5, t, txt, et, el, ec, g5, tt⟩ := ta.none_ hzb
      obtain ⟨rfl, lz, rfl⟩ := tn hzb
      have pz := Lib.hid (one_prog f0 hbz lz)
      have R2 := Lib.hid (run_on hrz hbz lz)
      have x0 := g5.cell 0
      have x1 := g5.cell 1
      have x2 := g5.cell 2
      have x3 := g5.cell 3
      have x4 := g5.cell 4
      simp at x0 x1 x2 x3 x4
      go_wp2_with (at_builtin; refine wpList_append_own _ rfl _ _ _ rfl w.heap.size 28 i0 _ 5 48 Tryd.underlying23 hi hz0 hz1 hz2 rfl (by decide) vb us.length (toksCells us) rfl (own4.alloc _) ⟨wc.heap.size, 0, none⟩ 1 1 [.int .i64 t.kind, .string txt, .int .i64 t.n, .int .i64 z.line, .int .i64 z.col] rfl rfl (World.news_of_block (cs := #[.int .i64 t.kind, .string txt, .int .i64 t.n, .int .i64 z.line, .int .i64 z.col]) (t := 28) (fr := (0, 0)) (heap_alloc_new _ _)) (by simp [Value.oneCell']) ?c3 ?c4 ?c5 ?_)
      case c3 => unfold maxLen; omega
      case c4 => omega
      case c5 => first | omega | (simp; omega)
      intro v' w5 own5 hgrow _
      go_wp2_with fail
      go_roundg (z.one.l.length - z.one.at_ + 1)
      case measure => have := pz.out.on hzb; have := congrArg List.length pz.out.l; have := pz.out.fit.at_; omega
      case rel =>
        rw [toks_snoc] at own5
        exact ⟨_, us ++ [⟨t.kind, txt.data.toList, t.n, z.line, z.col⟩], _, rfl, rfl, by simpa using own5, (((bw.trans (o2.below (by omega) (by simp))).trans (o3.below (by omega) (by simp))).trans (o4.below (by omega) (by simp; omega))).trans (((Below.refl _ _).alloc (by omega) _).grown hgrow (by simp; omega) (fun k hk => (own4.lt k hk).1)), .inl ⟨z.one, m2, ⟨(h5.blk.alloc _).grown hgrow (fun hk => by have := (own4.lt _ hk); exact hne hk), h5.src, h5.fit, h5.size⟩, hzb, by rw [et]; exact Like.snoc (t := t) (u := ⟨t.kind, txt.data.toList, t.n, z.line, z.col⟩) ⟨rfl, rfl, el, ec, fun h => by rw [tt h]⟩ lkz, R2.out, by have := pz.out.on hzb; have := congrArg List.length pz.out.l; have := pz.out.fit.at_; omega, rfl, Nat.le_refl _⟩⟩
    · obtain ⟨⟨at_, hb5⟩, hc, k, txt, n, g5⟩ := ta.some_ hzb
      have TS := Lib.hid (ts a b c hzb)
      have x0 := g5.cell 0
      have x1 := g5.cell 1
      have x2 := g5.cell 2
      have x3 := g5.cell 3
      have x4 := g5.cell 4
      simp at x0 x1 x2 x3 x4
      go_wp2_with (at_builtin; refine wpList_append_own _ rfl _ _ _ rfl w.heap.size 28 i0 _ 5 48 Tryd.underlying23 hi hz0 hz1 hz2 rfl (by decide) vb us.length (toksCells us) rfl (own4.alloc _) ⟨wc.heap.size, 0, none⟩ 1 1 [.int .i64 k, .string txt, .int .i64 n, .int .i64 z.line, .int .i64 z.col] rfl rfl (World.news_of_block (cs := #[.int .i64 k, .string txt, .int .i64 n, .int .i64 z.line, .int .i64 z.col]) (t := 28) (fr := (0, 0)) (heap_alloc_new _ _)) (by simp [Value.oneCell']) ?c3 ?c4 ?c5 ?_)
      case c3 => unfold maxLen; omega
      case c4 => omega
      case c5 => first | omega | (simp; omega)
      intro v' w5 own5 hgrow _
      go_wp2_with fail
      go_roundg 0
      case measure => omega
      case rel =>
        rw [toks_snoc] at own5
        exact ⟨_, us ++ [⟨k, txt.data.toList, n, z.line, z.col⟩], _, rfl, rfl, by simpa using own5, (((bw.trans (o2.below (by omega) (by simp))).trans (o3.below (by omega) (by simp))).trans (o4.below (by omega) (by simp; omega))).trans (((Below.refl _ _).alloc (by omega) _).grown hgrow (by simp; omega) (fun k hk => (own4.lt k hk).1)), .inr ⟨a, b, c, at_, (hb5.alloc _).grown hgrow hne, hc, TS.out⟩⟩

end Go.Proofs.YtoidmljhlekbkaaDoor
