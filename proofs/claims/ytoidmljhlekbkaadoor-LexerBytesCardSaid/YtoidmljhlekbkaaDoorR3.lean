/-
  A source's bytes between two of its runes are the runes' own; the memory of the document's lexer.
-/
import Derived.Test.YtoidmljhlekbkaaDoorR2
import Derived.Test.YtoidmljhlekbkaaDoorEnc
namespace Go.Proofs.YtoidmljhlekbkaaDoor
open Go.RowKit
theorem decode_drop (s : ByteArray) (i : Nat) : Utf8.decode s i = Lib.decodeL (s.data.toList.drop i) := by
  rw [decode_list, Lib.decodeL_N, List.length_drop]
  congr 2 <;> simp [List.getD]
theorem rune_bytes {s : ByteArray} {l : List Int} {cut : Bool} (h : Src s l cut) (i : Nat) (hi : i < l.length) :
    (s.data.toList.drop (pos s i)).take (pos s (i + 1) - pos s i) = (Utf8.encode (l.getD i (-1))).data.toList := by
  have hlt := h.lt i hi
  have hr := h.rune i hi
  have hg := h.good i hi
  have hle := decode_le' s (pos s i)
  rw [← hr, ← encode_list _ (by omega) (by omega), pos, Nat.add_sub_cancel_left, decode_drop]
  rw [decode_drop] at hg
  refine (Lib.encode_decode _ ?_ fun e => hg (Prod.ext e.1 e.2)).symm
  intro e
  have := congrArg List.length e
  simp at this
  have : s.data.size = s.size := rfl
  omega
theorem cut_bytes {s : ByteArray} {l : List Int} {cut : Bool} (h : Src s l cut) (i : Nat) (j : Nat) : i ≤ j → j ≤ l.length →
    (s.data.toList.drop (pos s i)).take (pos s j - pos s i) = Lx.runesBytes ((l.drop i).take (j - i)) := by
  induction j with
  | zero => intro hi _; obtain rfl : i = 0 := by omega
            simp [Lx.runesBytes]
  | succ j ih =>
    intro hi hj
    by_cases e : i = j + 1
    · subst e; simp [Lx.runesBytes]
    · have ih' := ih (by omega) (by omega)
      have hb := rune_bytes h j (by omega)
      have m1 := pos_mono h j i (by omega) (by omega)
      have m2 := pos_lt_succ h j (by omega)
      have e1 : (l.drop i).take (j + 1 - i) = (l.drop i).take (j - i) ++ [l.getD j (-1)] := by
        rw [show j + 1 - i = (j - i) + 1 by omega, List.take_succ_eq_append_getElem (by simp; omega)]
        congr 2
        rw [List.getElem_drop, List.getD_eq_getElem?_getD]
        simp only [show i + (j - i) = j by omega]
        rw [List.getElem?_eq_getElem (by omega)]
        rfl
      have e2 : Lx.runesBytes ((l.drop i).take (j - i) ++ [l.getD j (-1)]) = Lx.runesBytes ((l.drop i).take (j - i)) ++ (Utf8.encode (l.getD j (-1))).data.toList := by simp [Lx.runesBytes]
      rw [e1, e2, ← ih', ← hb, show pos s (j + 1) - pos s i = (pos s j - pos s i) + (pos s (j + 1) - pos s j) by omega, List.take_add, List.drop_drop, show pos s i + (pos s j - pos s i) = pos s j by omega]
theorem cut_text {s : ByteArray} {l : List Int} {cut : Bool} (h : Src s l cut) (i j : Nat) (hij : i ≤ j) (hj : j ≤ l.length) : s.extract (pos s i) (pos s j) = ⟨(Lx.runesBytes ((l.drop i).take (j - i))).toArray⟩ := by
  apply ByteArray.ext
  apply Array.toList_inj.1
  rw [Lib.extract_data, cut_bytes h i j hij hj]
/-! ### The memory of the document's lexer. -/
/-- The rune here; -1 the end, -2 none. -/
def rpk (x : Lx.St) : Int := if x.at_ < x.l.length then x.peek 0 else if x.cut then -2 else -1
structure Rf (w : World) (p : Nat) (s : ByteArray) (x : Lx.St) (e : Int) : Prop where
  blk : Whole w p 57 #[.string s, .int .i64 (pos s x.at_), .int .i64 x.line, .int .i64 x.col, .int .i64 e]
  src : Src s x.l x.cut
  fit : Fit x
  size : s.size ≤ 65536
theorem Rf.only {w w' : World} {p : Nat} {s : ByteArray} {x : Lx.St} {e : Int} {bs : List Nat} (h : Rf w p s x e) (o : Only bs w w') (hn : p ∉ bs) : Rf w' p s x e := ⟨h.blk.only o hn, h.src, h.fit, h.size⟩
theorem Rf.drewN {w : World} {p : Nat} {s : ByteArray} {x : Lx.St} {e : Int} (h : Rf w p s x e) (n : Nat) : Rf (w.drewN n) p s x e := ⟨h.blk.drewN n, h.src, h.fit, h.size⟩
section
variable {w : World} {p : Nat} {s : ByteArray} {x : Lx.St} {e : Int} {a0 a1 a2 : Value}
theorem rpeek_any (h : Rf w p s x e) : Calls Tryd.prog 21 #[.pointer (some ⟨p, 0, none⟩)] w fun e' w' => e' = .returned (.int .i64 (rpk x)) ∧ ∃ n, w' = w.drewN n := by
  have c0 := h.blk.cell 0
  have c1 := h.blk.cell 1
  simp at c0 c1
  have hsz := h.size
  have hat := h.fit.at_
  have hle := pos_le h.src x.at_ hat
  by_cases hlt : x.at_ < x.l.length
  · have hp := h.src.lt _ hlt
    have E : Hid (rpk x = ((Utf8.decode s (pos s x.at_)).1 : Int)) := by
      show rpk x = _
      unfold rpk
      rw [if_pos hlt, h.src.rune _ hlt]
      rfl
    have R : Hid (runeOf s (pos s x.at_) = Utf8.decode s (pos s x.at_)) := by
      show runeOf _ _ = _
      rw [runeOf_decode _ _ hp, if_neg (h.src.good _ hlt)]
    have hw := decode_width s _ hp
    have hw' := decode_fits s _ hp
    obtain ⟨P, hP⟩ : ∃ P, P = pos s x.at_ := ⟨_, rfl⟩
    rw [← hP] at c1 hp E R hw hw'
    clear hP hle
    obtain ⟨⟨C, N⟩, hD⟩ : ∃ d, d = Utf8.decode s P := ⟨_, rfl⟩
    rw [← hD] at E R hw hw'
    clear hD
    have RC : Hid (∀ w, Calls Tryd.prog 39 #[.string s, .int .i64 P] w fun e w' => e = .returned (.tuple #[.int .i64 C, .int .i64 N]) ∧ w' = w) := by
      intro w
      refine (rune_any' s P w hp hsz).mono ?_
      rintro e w' ⟨rfl, rfl⟩
      rw [R.out]
      exact ⟨rfl, rfl⟩
    have hN : ((N : Int) == 0) = false := by simp at hw ⊢; omega
    go_enter Tryd.func21, Tryd.ntmps21
    go_wp2_with fail
    go_quiet (fail)
    go_wp2_with fail
    go_quiet (first | (go_at_call 39; exact (RC.out _).mono fun _ _ h => ⟨h.1, _, h.2⟩))
    go_wp2_with fail
    go_ret
    rw [E.out]
    exact ⟨rfl, _, rfl⟩
  · have hend : x.at_ = x.l.length := by omega
    have E : rpk x = if x.cut then -2 else -1 := by unfold rpk; rw [if_neg hlt]
    cases hcut : x.cut
    · have hp := h.src.end0 hcut
      rw [← hend] at hp
      rw [hcut, if_neg (by simp)] at E
      have E' := Lib.hid E
      rw [hp] at c1
      clear E hle hat hlt hend hp
      go_enter Tryd.func21, Tryd.ntmps21
      go_wp2_with fail
      go_quiet (fail)
      go_wp2_with fail
      go_ret
      rw [E'.out]
      exact ⟨rfl, _, rfl⟩
    · obtain ⟨hp, hd⟩ := h.src.end1 hcut
      rw [← hend] at hp hd
      rw [hcut, if_pos rfl] at E
      have E' := Lib.hid E
      have R : Hid (runeOf s (pos s x.at_) = (0, 0)) := by
        show runeOf _ _ = _
        rw [runeOf_decode _ _ hp, if_pos hd]
      obtain ⟨P, hP⟩ : ∃ P, P = pos s x.at_ := ⟨_, rfl⟩
      rw [← hP] at c1 hp R
      clear hP hle E hat hlt hend hd
      have RC : Hid (∀ w, Calls Tryd.prog 39 #[.string s, .int .i64 P] w fun e w' => e = .returned (.tuple #[.int .i64 0, .int .i64 0]) ∧ w' = w) := by
        intro w
        refine (rune_any' s P w hp hsz).mono ?_
        rintro e w' ⟨rfl, rfl⟩
        rw [R.out]
        exact ⟨rfl, rfl⟩
      go_enter Tryd.func21, Tryd.ntmps21
      go_wp2_with fail
      go_quiet (fail)
      go_wp2_with fail
      go_quiet (first | (go_at_call 39; exact (RC.out _).mono fun _ _ h => ⟨h.1, _, h.2⟩))
      go_wp2_with fail
      go_ret
      rw [E'.out]
      exact ⟨rfl, _, rfl⟩
theorem Rf.fin {w' : World} {y : Lx.St} {e' : Int} (h : Rf w p s x e) (b : Whole w' p 57 #[.string s, .int .i64 (pos s y.at_), .int .i64 y.line, .int .i64 y.col, .int .i64 e']) (hl : y.l = x.l) (hc : y.cut = x.cut) (f : Fit y) : Rf w' p s y e' :=
  ⟨b, by rw [hl, hc]; exact h.src, f, h.size⟩
theorem rpass_any (h : Rf w p s x e) (hlt : x.at_ < x.l.length) : Calls Tryd.prog 22 #[.pointer (some ⟨p, 0, none⟩)] w fun e' w' => e' = .returned (.tuple #[]) ∧ Rf w' p s x.step e ∧ Only [p] w w' := by
  have c0 := h.blk.cell 0
  have c1 := h.blk.cell 1
  have c2 := h.blk.cell 2
  have c3 := h.blk.cell 3
  have f1 := h.blk.frozen 1
  have f2 := h.blk.frozen 2
  have f3 := h.blk.frozen 3
  simp at c0 c1 c2 c3
  have hsz := h.size
  have fit := h.fit
  have b1 := fit.line0
  have b2 := fit.line1
  have b3 := fit.col0
  have b4 := fit.col1
  have b5 := fit.len
  have b6 := fit.at_
  have hp := h.src.lt _ hlt
  have hr := h.src.rune _ hlt
  have R : Hid (runeOf s (pos s x.at_) = Utf8.decode s (pos s x.at_)) := by
    show runeOf _ _ = _
    rw [runeOf_decode _ _ hp, if_neg (h.src.good _ hlt)]
  have hw := decode_width s _ hp
  have hw' := decode_fits s _ hp
  have B := Lib.hid h.blk
  have EP : Hid (pos s (x.at_ + 1) = pos s x.at_ + (Utf8.decode s (pos s x.at_)).2) := rfl
  have hr' : ((Utf8.decode s (pos s x.at_)).1 : Int) = x.peek 0 := hr
  clear hr
  obtain ⟨P, hP⟩ : ∃ P, P = pos s x.at_ := ⟨_, rfl⟩
  rw [← hP] at c1 hp R hw hw' EP hr'
  obtain ⟨⟨C, N⟩, hD⟩ : ∃ d, d = Utf8.decode s P := ⟨_, rfl⟩
  rw [← hD] at R hw hw' EP hr'
  clear hD hP
  have RC : Hid (∀ w, Calls Tryd.prog 39 #[.string s, .int .i64 P] w fun e w' => e = .returned (.tuple #[.int .i64 C, .int .i64 N]) ∧ w' = w) := by
    intro w
    refine (rune_any' s P w hp hsz).mono ?_
    rintro e w' ⟨rfl, rfl⟩
    rw [R.out]
    exact ⟨rfl, rfl⟩
  have FS := Lib.hid (fit.step hlt)
  have H := Lib.hid h
  clear h fit
  by_cases h10 : x.peek 0 = 10
  · have e1 : (C : Int) = 10 := by rw [← h10]; exact hr'
    have ES : Hid (x.step.line = x.line + 1 ∧ x.step.col = 1) := by
      unfold Lx.St.step
      simp [h10, Hid]
    clear hr' h10
    go_enter Tryd.func22, Tryd.ntmps22
    go_wp2_with fail
    go_quiet (first | (go_at_call 39; exact (RC.out _).mono fun _ _ h => ⟨h.1, _, h.2⟩))
    go_wp2_with fail
    go_end0
    refine ⟨rfl, H.out.fin ?_ rfl rfl FS.out, by repeat (first | exact Only.refl _ _ | refine Only.drewN ?_ _ | refine Only.setCell ?_ (Or.inl (by simp)) _)⟩
    show Whole _ p 57 #[.string s, .int .i64 (pos s (x.at_ + 1)), .int .i64 x.step.line, .int .i64 x.step.col, .int .i64 e]
    rw [EP.out, ES.out.1, ES.out.2, Int.natCast_add]
    exact ((((B.out.drewN _).put 1 _).put 3 _).put 2 _).put 3 _
  · have e1 : ((C : Int) == 10) = false := by simp; intro e; exact h10 (by rw [← hr']; exact e)
    have ES : Hid (x.step.line = x.line ∧ x.step.col = x.col + 1) := by
      unfold Lx.St.step
      simp [h10, Hid]
    clear hr' h10
    go_enter Tryd.func22, Tryd.ntmps22
    go_wp2_with fail
    go_quiet (first | (go_at_call 39; exact (RC.out _).mono fun _ _ h => ⟨h.1, _, h.2⟩))
    go_wp2_with fail
    go_end0
    refine ⟨rfl, H.out.fin ?_ rfl rfl FS.out, by repeat (first | exact Only.refl _ _ | refine Only.drewN ?_ _ | refine Only.setCell ?_ (Or.inl (by simp)) _)⟩
    show Whole _ p 57 #[.string s, .int .i64 (pos s (x.at_ + 1)), .int .i64 x.step.line, .int .i64 x.step.col, .int .i64 e]
    rw [EP.out, ES.out.1, ES.out.2, Int.natCast_add]
    exact ((B.out.drewN _).put 1 _).put 3 _
/-- A fault: the first one stays. -/
theorem rfail_first (a b c d : Int) (h : Whole w p 57 #[.string s, a0, .int .i64 a, .int .i64 b, .int .i64 0]) :
    Calls Tryd.prog 23 #[.pointer (some ⟨p, 0, none⟩), .int .i64 e, .int .i64 c, .int .i64 d] w fun e' w' => e' = .returned (.tuple #[]) ∧ Whole w' p 57 #[.string s, a0, .int .i64 c, .int .i64 d, .int .i64 e] ∧ Only [p] w w' := by
  have c4 := h.cell 4
  have f2 := h.frozen 2
  have f3 := h.frozen 3
  have f4 := h.frozen 4
  have c2 := h.cell 2
  have c3 := h.cell 3
  simp at c4 c2 c3
  go_enter Tryd.func23, Tryd.ntmps23
  go_wp2_with fail
  go_end0
  exact ⟨rfl, ((h.put 4 _).put 2 _).put 3 _, by repeat (first | exact Only.refl _ _ | refine Only.setCell ?_ (Or.inl (by simp)) _)⟩
theorem rfail_more (c d e0 : Int) (h : Whole w p 57 #[.string s, a0, a1, a2, .int .i64 e0]) (h0 : e0 ≠ 0) :
    Calls Tryd.prog 23 #[.pointer (some ⟨p, 0, none⟩), .int .i64 e, .int .i64 c, .int .i64 d] w fun e' w' => e' = .returned (.tuple #[]) ∧ w' = w := by
  have c4 := h.cell 4
  simp at c4
  have h0' : (e0 == 0) = false := by simpa using h0
  go_enter Tryd.func23, Tryd.ntmps23
  go_wp2_with fail
  go_end0
  exact ⟨rfl, rfl⟩
end
theorem rletter_any (c : Int) (w : World) : Calls Tryd.prog 24 #[.int .i64 c] w fun e w' => e = .returned (.bool (Lx.letter c)) ∧ w' = w := by
  go_enter Tryd.func24, Tryd.ntmps24
  go_wp2_with fail
  all_goals
    go_ret
    exact ⟨ret_bool (by rw [Bool.eq_iff_iff]; simp [Lx.letter]; try omega), rfl⟩
theorem rdigit_any (c : Int) (w : World) : Calls Tryd.prog 25 #[.int .i64 c] w fun e w' => e = .returned (.bool (Lx.digit c)) ∧ w' = w := by
  go_enter Tryd.func25, Tryd.ntmps25
  go_wp2_with fail
  all_goals
    go_ret
    exact ⟨ret_bool (by rw [Bool.eq_iff_iff]; simp [Lx.digit]; try omega), rfl⟩
theorem rhex_any (c : Int) (w : World) (h0 : -2 ≤ c) (h1 : c ≤ 1114111) : Calls Tryd.prog 40 #[.int .i64 c] w fun e w' => e = .returned (.int .i64 (Lx.hex c)) ∧ w' = w := by
  go_enter Tryd.func40, Tryd.ntmps40
  go_wp2_with (go_at_call 25; refine (rdigit_any _ _).mono ?_; rintro e w' ⟨rfl, rfl⟩)
  all_goals
    go_ret
    refine ⟨ret_int ?_, rfl⟩
    simp [Lx.digit] at *
    unfold Lx.hex
    repeat' split
    all_goals omega
/-- What stands behind a backslash; -1: nothing that may. -/
def escV (r q : Int) : Int := if r = 110 then 10 else if r = 92 ∨ r = q then r else -1
theorem rescape_any (r q : Int) (w : World) : Calls Tryd.prog 41 #[.int .i64 r, .int .i64 q] w fun e w' => e = .returned (.int .i64 (escV r q)) ∧ w' = w := by
  go_enter Tryd.func41, Tryd.ntmps41
  go_wp2_with fail
  all_goals
    go_ret
    refine ⟨ret_int ?_, rfl⟩
    simp at *
    unfold escV
    repeat' split
    all_goals omega
end Go.Proofs.YtoidmljhlekbkaaDoor
