/-
  The words of a line: the walk of the document's words.
-/
import Derived.Test.YtadcfedjmofjjaaDoorD1
namespace Go.Proofs.YtadcfedjmofjjaaDoor
open Go.RowKit
def RState (l : List UInt8) (i f : Nat) (out : List (List UInt8)) : Prop :=
  out.length ≤ i ∧ ((i ≤ l.length ∧ f ≤ i ∧ out ++ Tk.wordsGo (l.drop i) ((l.take i).drop f) = Tk.wordsGo l []) ∨ (i = l.length + 1 ∧ out = Tk.wordsGo l []))
section
variable {l : List UInt8} {i f : Nat} {out : List (List UInt8)}
theorem rstate_start (l : List UInt8) : RState l 0 0 [] := ⟨Nat.le_refl _, .inl ⟨Nat.zero_le _, Nat.le_refl _, by simp⟩⟩
theorem rstate_on (h : RState l i f out) (hi : i < l.length) (hb : l[i] ≠ 32) : RState l (i + 1) f out := by
  obtain ⟨h1, ⟨h2, h3, h4⟩ | ⟨h2, _⟩⟩ := h
  · refine ⟨by omega, .inl ⟨by omega, by omega, ?_⟩⟩
    rw [List.drop_eq_getElem_cons hi, Tk.wordsGo, if_neg hb] at h4
    rw [cur_more l hi h3]
    exact h4
  · omega
theorem cur_ne (hi : i ≤ l.length) (hf : f < i) : (l.take i).drop f ≠ [] := by
  intro h0
  have := congrArg List.length h0
  rw [List.length_drop, List.length_take, List.length_nil] at this
  omega
theorem rstate_sp (h : RState l i f out) (hi : i < l.length) (hb : l[i] = 32) : (f < i → RState l (i + 1) (i + 1) (out ++ [(l.take i).drop f])) ∧ (¬ f < i → RState l (i + 1) (i + 1) out) := by
  obtain ⟨h1, ⟨h2, h3, h4⟩ | ⟨h2, _⟩⟩ := h
  · rw [List.drop_eq_getElem_cons hi, hb, wordsGo_blank] at h4
    constructor
    · intro hf
      rw [if_neg (cur_ne h2 hf)] at h4
      refine ⟨by simp; omega, .inl ⟨by omega, Nat.le_refl _, ?_⟩⟩
      rw [cur_none, List.append_assoc]
      exact h4
    · intro hf
      obtain rfl : f = i := by omega
      rw [if_pos (cur_none l f)] at h4
      refine ⟨by omega, .inl ⟨by omega, Nat.le_refl _, ?_⟩⟩
      rw [cur_none]
      exact h4
  · omega
theorem rstate_last (h : RState l i f out) (hi : i = l.length) : (f < i → RState l (i + 1) (i + 1) (out ++ [(l.take i).drop f])) ∧ (¬ f < i → RState l (i + 1) (i + 1) out) := by
  obtain ⟨h1, ⟨h2, h3, h4⟩ | ⟨h2, _⟩⟩ := h
  · rw [List.drop_of_length_le (by omega), Tk.wordsGo] at h4
    constructor
    · intro hf
      rw [if_neg (cur_ne h2 hf)] at h4
      exact ⟨by simp; omega, .inr ⟨by omega, h4⟩⟩
    · intro hf
      obtain rfl : f = i := by omega
      rw [if_pos (cur_none l f), List.append_nil] at h4
      exact ⟨by omega, .inr ⟨by omega, h4⟩⟩
  · omega
theorem rstate_end (h : RState l i f out) (hi : l.length < i) : out = Tk.wordsGo l [] := by
  obtain ⟨h1, ⟨h2, _⟩ | ⟨_, h3⟩⟩ := h
  · omega
  · exact h3
theorem rstate_bd (h : RState l i f out) : i ≤ l.length + 1 ∧ out.length ≤ i := ⟨by rcases h.2 with h | h <;> omega, h.1⟩
end
def RWordsPost (w : World) (s : ByteArray) (e : Ending) (w' : World) : Prop :=
  ∃ v, e = .returned (.tuple #[v, .bool (Tk.inner (bytesOf s))]) ∧ w'.ownsRow w.heap.size 9 1 v (Tk.words (bytesOf s)).length ((Tk.words (bytesOf s)).map strV) ∧ Below w.heap.size w w'
def RWordsRel (w : World) (X : ByteArray) (k : Nat) (ov fv iv : Value) (wr : World) : Prop :=
  ∃ (i f : Nat) (out : List (List UInt8)), iv = .int .i64 i ∧ fv = .int .i64 f ∧ wr.ownsRow w.heap.size 9 1 ov out.length (out.map strV) ∧ Below w.heap.size w wr ∧ RState (bytesOf X) i f out ∧ X.size + 1 - i ≤ k
/-- The line behind the dot. -/
theorem head_case (s : ByteArray) : (s.size = 0 ∧ Tk.inner (bytesOf s) = false ∧ Tk.dotted (bytesOf s) = false) ∨
    ∃ h : 0 < s.size, (Tk.dotted (bytesOf s) = true ∧ 2 ≤ s.size ∧ (s[0]'h).toNat = 194 ∧ Tk.inner (bytesOf s) = true) ∨ (Tk.dotted (bytesOf s) = false ∧ Tk.inner (bytesOf s) = decide ((s[0]'h).toNat = 32)) := by
  have hl := bytesOf_len s
  by_cases h0 : s.size = 0
  · left
    have : bytesOf s = [] := List.eq_nil_of_length_eq_zero (by omega)
    rw [this]
    exact ⟨h0, by simp [Tk.inner, Tk.dotted], by simp [Tk.dotted]⟩
  · right
    have hp : 0 < s.size := by omega
    refine ⟨hp, ?_⟩
    have hg : (bytesOf s).head? = some (s[0]'hp) := by rw [List.head?_eq_getElem?, List.getElem?_eq_getElem (by omega)]; rfl
    rcases hd : Tk.dotted (bytesOf s) with _ | _
    · right
      refine ⟨rfl, ?_⟩
      unfold Tk.inner
      rw [hd, hg, Bool.false_or, decide_eq_decide]
      constructor
      · intro h; injection h with h; rw [h]; rfl
      · intro h; congr 1; exact UInt8.toNat_inj.1 h
    · left
      refine ⟨rfl, ?_, ?_, by unfold Tk.inner; rw [hd]; rfl⟩
      · have := dotted_short (l := bytesOf s)
        rcases Nat.lt_or_ge s.size 2 with h | h
        · rw [this (by omega)] at hd; cases hd
        · exact h
      · unfold Tk.dotted at hd
        have hd := of_decide_eq_true hd
        have h1 : ((bytesOf s).take 2).head? = some 194 := by rw [hd]; rfl
        rw [List.head?_take, if_neg (by decide), hg] at h1
        injection h1 with h1
        rw [h1]
        rfl
set_option maxRecDepth 20000 in
set_option maxHeartbeats 16000000 in
theorem rwords_any (s : ByteArray) (w : World) (hs : s.size ≤ 1000000) : Calls Tryd.prog 23 #[.string s] w (RWordsPost w s) := by
  obtain ⟨i0, hi, hz0, hz1, hz2⟩ := info_parts info9
  have ed : ((s.extract 0 2).toList == [194, 183]) = Tk.dotted (bytesOf s) := by
    rw [extract_toList, List.drop_zero]
    unfold Tk.dotted
    rw [Bool.eq_iff_iff]
    simp
  rcases head_case s with ⟨h0, hin, hd⟩ | ⟨h0, ⟨hd, h2, hc0, hin⟩ | ⟨hd, hin⟩⟩
  · have e2 : s.toList = [] := by rw [ByteArray.toList_eq]; exact List.eq_nil_of_length_eq_zero ((bytesOf_len s).trans h0)
    have e3 : s.toList.isEmpty = true := by rw [e2]; rfl
    have hlt : ¬ (2 : Int) ≤ s.size := by omega
    have HXW : Hid (Tk.words (bytesOf s) = Tk.wordsGo (bytesOf s) []) := by show _ = _; unfold Tk.words; rw [hd]; rfl
    have HI := Lib.hid hin
    obtain ⟨X, hX⟩ : ∃ X, X = s := ⟨s, rfl⟩
    subst hX
    clear ed hin hd h0
    go_enter Tryd.func23, Tryd.ntmps23
    go_wp2_with fail
    clear e2 e3 hlt
    go_loopg [5, 6, 7] (X.size + 1) (fun k ov fv iv wr => RWordsRel w X k ov fv iv wr)
    case atStart => exact ⟨0, 0, [], rfl, rfl, World.ownsRow_nil _ _ _ _, Below.refl _ _, rstate_start _, by omega⟩
    case round =>
      obtain ⟨i, f, out, rfl, rfl, own, hb, hst, hk⟩ := hrel
      have hzr := hb.size
      have HLEN := bytesOf_len X
      have hbd := rstate_bd hst
      by_cases hp : i < X.size
      · have hp' : (i : Int) < X.size := by omega
        have hp2 : (i : Int) ≤ X.size := by omega
        have hiL : i < (bytesOf X).length := by omega
        obtain ⟨c, hc⟩ : ∃ c, c = X[i]'hp := ⟨_, rfl⟩
        have hg : (X[i]'hp).toNat = c.toNat := by rw [hc]
        have hgl : (bytesOf X)[i] = c := by rw [hc]; rfl
        by_cases h32 : c = 32
        · have c1 : ((c.toNat : Int) == 32) = true := by rw [h32]; rfl
          have c2 : ((c.toNat : Int) != 32) = false := by rw [h32]; rfl
          obtain ⟨S1, S2⟩ := rstate_sp hst hiL (by rw [hgl, h32])
          by_cases hf : f < i
          · have hf' : (f : Int) < i := by omega
            have f1 : (f : Int) ≤ i := by omega
            have S := Lib.hid (S1 hf)
            have ex : Hid (X.extract f i = ⟨((((bytesOf X)).take i).drop f).toArray⟩) := extract_eq X f i
            clear S1 S2 hst hc hgl h32 HLEN
            go_wp2_with (at_builtin; refine wpList_append_own _ rfl _ _ _ rfl w.heap.size 9 i0 _ 1 16 Tryd.underlying49 hi hz0 hz1 hz2 rfl (by decide) _ out.length (out.map strV) rfl (own.alloc _) ⟨wr.heap.size, 0, none⟩ 1 1 [.string (X.extract f i)] rfl rfl (World.news_of_block (cs := #[.string (X.extract f i)]) (t := 9) (fr := (0, 0)) (heap_alloc_new _ _)) (by simp [Value.oneCell']) (by unfold maxLen; omega) (by omega) (by simp; omega) ?_)
            intro v' w5 own5 hgrow _
            have ec : out.map strV ++ [.string (X.extract f i)] = (out ++ [((bytesOf X).take i).drop f]).map strV := by rw [List.map_append, ex.out]; rfl
            rw [ec] at own5
            have hb5 := (hb.alloc (by omega) (.cells #[.string (X.extract f i)] 9)).grown hgrow (by simp; omega) (fun k hk => (own.lt k hk).1)
            clear hgrow
            go_wp2_with fail
            go_roundg (X.size + 1 - (i + 1))
            case measure => omega
            case rel => exact ⟨i + 1, i + 1, _, by go_num, by go_num, by rw [List.length_append]; exact own5, hb5, S.out, Nat.le_refl _⟩
          · have hf' : ¬ (f : Int) < i := by omega
            have S := Lib.hid (S2 hf)
            clear S1 S2 hst hc hgl h32 HLEN
            go_wp2_with fail
            go_roundg (X.size + 1 - (i + 1))
            case measure => omega
            case rel => exact ⟨i + 1, _, _, by go_num, by first | rfl | go_num, own, hb, S.out, Nat.le_refl _⟩
        · have c1 : ((c.toNat : Int) == 32) = false := by
            have : c.toNat ≠ 32 := fun e => h32 (UInt8.toNat_inj.1 e)
            simp; omega
          have c2 : ((c.toNat : Int) != 32) = true := by
            have : c.toNat ≠ 32 := fun e => h32 (UInt8.toNat_inj.1 e)
            simp; omega
          have c3 : ¬ (c.toNat : Int) = 32 := by
            have : c.toNat ≠ 32 := fun e => h32 (UInt8.toNat_inj.1 e)
            omega
          have S := Lib.hid (rstate_on hst hiL (by rw [hgl]; exact h32))
          clear hst hc hgl h32 HLEN
          go_wp2_with fail
          go_roundg (X.size + 1 - (i + 1))
          case measure => omega
          case rel => exact ⟨i + 1, _, _, by go_num, by first | rfl | go_num, own, hb, S.out, Nat.le_refl _⟩
      · have hp' : ¬ (i : Int) < X.size := by omega
        by_cases hl : i = X.size
        · have hp2 : (i : Int) ≤ X.size := by omega
          obtain ⟨S1, S2⟩ := rstate_last hst (by omega)
          by_cases hf : f < i
          · have hf' : (f : Int) < i := by omega
            have f1 : (f : Int) ≤ i := by omega
            have S := Lib.hid (S1 hf)
            have ex : Hid (X.extract f i = ⟨((((bytesOf X)).take i).drop f).toArray⟩) := extract_eq X f i
            clear S1 S2 hst HLEN hl
            go_wp2_with (at_builtin; refine wpList_append_own _ rfl _ _ _ rfl w.heap.size 9 i0 _ 1 16 Tryd.underlying49 hi hz0 hz1 hz2 rfl (by decide) _ out.length (out.map strV) rfl (own.alloc _) ⟨wr.heap.size, 0, none⟩ 1 1 [.string (X.extract f i)] rfl rfl (World.news_of_block (cs := #[.string (X.extract f i)]) (t := 9) (fr := (0, 0)) (heap_alloc_new _ _)) (by simp [Value.oneCell']) (by unfold maxLen; omega) (by omega) (by simp; omega) ?_)
            intro v' w5 own5 hgrow _
            have ec : out.map strV ++ [.string (X.extract f i)] = (out ++ [((bytesOf X).take i).drop f]).map strV := by rw [List.map_append, ex.out]; rfl
            rw [ec] at own5
            have hb5 := (hb.alloc (by omega) (.cells #[.string (X.extract f i)] 9)).grown hgrow (by simp; omega) (fun k hk => (own.lt k hk).1)
            clear hgrow
            go_wp2_with fail
            go_roundg (X.size + 1 - (i + 1))
            case measure => omega
            case rel => exact ⟨i + 1, i + 1, _, by go_num, by go_num, by rw [List.length_append]; exact own5, hb5, S.out, Nat.le_refl _⟩
          · have hf' : ¬ (f : Int) < i := by omega
            have S := Lib.hid (S2 hf)
            clear S1 S2 hst HLEN hl
            go_wp2_with fail
            go_roundg (X.size + 1 - (i + 1))
            case measure => omega
            case rel => exact ⟨i + 1, _, _, by go_num, by first | rfl | go_num, own, hb, S.out, Nat.le_refl _⟩
        · have hp2 : ¬ (i : Int) ≤ X.size := by omega
          have S := Lib.hid (rstate_end hst (by omega))
          clear hst HLEN hl
          go_wp2_with fail
          go_ret2
          unfold RWordsPost
          rw [HI.out, HXW.out, ← S.out]
          exact ⟨_, rfl, own, hb⟩
  · have e2 : ¬ s.toList = [] := by
      rw [ByteArray.toList_eq]
      intro h
      have := congrArg List.length h
      have h3 : s.data.toList.length = s.size := bytesOf_len s
      rw [h3, List.length_nil] at this
      omega
    have e3 : (!s.toList.isEmpty) = true := by simp [e2]
    have hlt : (2 : Int) ≤ s.size := by omega
    rw [hd] at ed
    obtain ⟨X, hX⟩ : ∃ X, X = s.extract 2 s.size := ⟨_, rfl⟩
    have HXW : Hid (Tk.words (bytesOf s) = Tk.wordsGo (bytesOf X) []) := by
      show _ = _
      unfold Tk.words
      rw [hd, if_pos rfl, hX]
      congr 1
      rw [extract_end]
      rfl
    have HI := Lib.hid hin
    have hXs : X.size ≤ 1000000 := by rw [hX, ByteArray.size_extract]; omega
    have HX := Lib.hid hX
    clear hin hd hX
    go_enter Tryd.func23, Tryd.ntmps23
    go_wp2_with fail
    rw [← HX.out]
    go_loopg [5, 6, 7] (X.size + 1) (fun k ov fv iv wr => RWordsRel w X k ov fv iv wr)
    case atStart => exact ⟨0, 0, [], rfl, rfl, World.ownsRow_nil _ _ _ _, Below.refl _ _, rstate_start _, by omega⟩
    case round =>
      obtain ⟨i, f, out, rfl, rfl, own, hb, hst, hk⟩ := hrel
      have hzr := hb.size
      have HLEN := bytesOf_len X
      have hbd := rstate_bd hst
      by_cases hp : i < X.size
      · have hp' : (i : Int) < X.size := by omega
        have hp2 : (i : Int) ≤ X.size := by omega
        have hiL : i < (bytesOf X).length := by omega
        obtain ⟨c, hc⟩ : ∃ c, c = X[i]'hp := ⟨_, rfl⟩
        have hg : (X[i]'hp).toNat = c.toNat := by rw [hc]
        have hgl : (bytesOf X)[i] = c := by rw [hc]; rfl
        by_cases h32 : c = 32
        · have c1 : ((c.toNat : Int) == 32) = true := by rw [h32]; rfl
          have c2 : ((c.toNat : Int) != 32) = false := by rw [h32]; rfl
          obtain ⟨S1, S2⟩ := rstate_sp hst hiL (by rw [hgl, h32])
          by_cases hf : f < i
          · have hf' : (f : Int) < i := by omega
            have f1 : (f : Int) ≤ i := by omega
            have S := Lib.hid (S1 hf)
            have ex : Hid (X.extract f i = ⟨((((bytesOf X)).take i).drop f).toArray⟩) := extract_eq X f i
            clear S1 S2 hst hc hgl h32 HLEN
            go_wp2_with (at_builtin; refine wpList_append_own _ rfl _ _ _ rfl w.heap.size 9 i0 _ 1 16 Tryd.underlying49 hi hz0 hz1 hz2 rfl (by decide) _ out.length (out.map strV) rfl (own.alloc _) ⟨wr.heap.size, 0, none⟩ 1 1 [.string (X.extract f i)] rfl rfl (World.news_of_block (cs := #[.string (X.extract f i)]) (t := 9) (fr := (0, 0)) (heap_alloc_new _ _)) (by simp [Value.oneCell']) (by unfold maxLen; omega) (by omega) (by simp; omega) ?_)
            intro v' w5 own5 hgrow _
            have ec : out.map strV ++ [.string (X.extract f i)] = (out ++ [((bytesOf X).take i).drop f]).map strV := by rw [List.map_append, ex.out]; rfl
            rw [ec] at own5
            have hb5 := (hb.alloc (by omega) (.cells #[.string (X.extract f i)] 9)).grown hgrow (by simp; omega) (fun k hk => (own.lt k hk).1)
            clear hgrow
            go_wp2_with fail
            go_roundg (X.size + 1 - (i + 1))
            case measure => omega
            case rel => exact ⟨i + 1, i + 1, _, by go_num, by go_num, by rw [List.length_append]; exact own5, hb5, S.out, Nat.le_refl _⟩
          · have hf' : ¬ (f : Int) < i := by omega
            have S := Lib.hid (S2 hf)
            clear S1 S2 hst hc hgl h32 HLEN
            go_wp2_with fail
            go_roundg (X.size + 1 - (i + 1))
            case measure => omega
            case rel => exact ⟨i + 1, _, _, by go_num, by first | rfl | go_num, own, hb, S.out, Nat.le_refl _⟩
        · have c1 : ((c.toNat : Int) == 32) = false := by
            have : c.toNat ≠ 32 := fun e => h32 (UInt8.toNat_inj.1 e)
            simp; omega
          have c2 : ((c.toNat : Int) != 32) = true := by
            have : c.toNat ≠ 32 := fun e => h32 (UInt8.toNat_inj.1 e)
            simp; omega
          have c3 : ¬ (c.toNat : Int) = 32 := by
            have : c.toNat ≠ 32 := fun e => h32 (UInt8.toNat_inj.1 e)
            omega
          have S := Lib.hid (rstate_on hst hiL (by rw [hgl]; exact h32))
          clear hst hc hgl h32 HLEN
          go_wp2_with fail
          go_roundg (X.size + 1 - (i + 1))
          case measure => omega
          case rel => exact ⟨i + 1, _, _, by go_num, by first | rfl | go_num, own, hb, S.out, Nat.le_refl _⟩
      · have hp' : ¬ (i : Int) < X.size := by omega
        by_cases hl : i = X.size
        · have hp2 : (i : Int) ≤ X.size := by omega
          obtain ⟨S1, S2⟩ := rstate_last hst (by omega)
          by_cases hf : f < i
          · have hf' : (f : Int) < i := by omega
            have f1 : (f : Int) ≤ i := by omega
            have S := Lib.hid (S1 hf)
            have ex : Hid (X.extract f i = ⟨((((bytesOf X)).take i).drop f).toArray⟩) := extract_eq X f i
            clear S1 S2 hst HLEN hl
            go_wp2_with (at_builtin; refine wpList_append_own _ rfl _ _ _ rfl w.heap.size 9 i0 _ 1 16 Tryd.underlying49 hi hz0 hz1 hz2 rfl (by decide) _ out.length (out.map strV) rfl (own.alloc _) ⟨wr.heap.size, 0, none⟩ 1 1 [.string (X.extract f i)] rfl rfl (World.news_of_block (cs := #[.string (X.extract f i)]) (t := 9) (fr := (0, 0)) (heap_alloc_new _ _)) (by simp [Value.oneCell']) (by unfold maxLen; omega) (by omega) (by simp; omega) ?_)
            intro v' w5 own5 hgrow _
            have ec : out.map strV ++ [.string (X.extract f i)] = (out ++ [((bytesOf X).take i).drop f]).map strV := by rw [List.map_append, ex.out]; rfl
            rw [ec] at own5
            have hb5 := (hb.alloc (by omega) (.cells #[.string (X.extract f i)] 9)).grown hgrow (by simp; omega) (fun k hk => (own.lt k hk).1)
            clear hgrow
            go_wp2_with fail
            go_roundg (X.size + 1 - (i + 1))
            case measure => omega
            case rel => exact ⟨i + 1, i + 1, _, by go_num, by go_num, by rw [List.length_append]; exact own5, hb5, S.out, Nat.le_refl _⟩
          · have hf' : ¬ (f : Int) < i := by omega
            have S := Lib.hid (S2 hf)
            clear S1 S2 hst HLEN hl
            go_wp2_with fail
            go_roundg (X.size + 1 - (i + 1))
            case measure => omega
            case rel => exact ⟨i + 1, _, _, by go_num, by first | rfl | go_num, own, hb, S.out, Nat.le_refl _⟩
        · have hp2 : ¬ (i : Int) ≤ X.size := by omega
          have S := Lib.hid (rstate_end hst (by omega))
          clear hst HLEN hl
          go_wp2_with fail
          go_ret2
          unfold RWordsPost
          rw [HI.out, HXW.out, ← S.out]
          exact ⟨_, rfl, own, hb⟩
  · have e2 : ¬ s.toList = [] := by
      rw [ByteArray.toList_eq]
      intro h
      have := congrArg List.length h
      have h3 : s.data.toList.length = s.size := bytesOf_len s
      rw [h3, List.length_nil] at this
      omega
    have e3 : (!s.toList.isEmpty) = true := by simp [e2]
    have HXW : Hid (Tk.words (bytesOf s) = Tk.wordsGo (bytesOf s) []) := by show _ = _; unfold Tk.words; rw [hd]; rfl
    obtain ⟨c0, hc0⟩ : ∃ c0, c0 = (s[0]'h0).toNat := ⟨_, rfl⟩
    rw [← hc0] at hin
    have hc1 := hc0.symm
    rw [hd] at ed
    have h4 : (c0 = 32 ∨ c0 ≠ 32) ∧ (¬ (2 : Int) ≤ s.size ∨ (2 : Int) ≤ s.size) := by omega
    obtain ⟨X, hX⟩ : ∃ X, X = s := ⟨s, rfl⟩
    subst hX
    clear hc0
    rcases h4 with ⟨h4 | h4, h5 | h5⟩
    · rw [decide_eq_true h4] at hin
      have HI := Lib.hid hin
      rw [h4] at hc1
      clear hin hd ed h4
      go_enter Tryd.func23, Tryd.ntmps23
      go_wp2_with fail
      clear e2 e3 h5
      go_loopg [5, 6, 7] (X.size + 1) (fun k ov fv iv wr => RWordsRel w X k ov fv iv wr)
      case atStart => exact ⟨0, 0, [], rfl, rfl, World.ownsRow_nil _ _ _ _, Below.refl _ _, rstate_start _, by omega⟩
      case round =>
        obtain ⟨i, f, out, rfl, rfl, own, hb, hst, hk⟩ := hrel
        have hzr := hb.size
        have HLEN := bytesOf_len X
        have hbd := rstate_bd hst
        by_cases hp : i < X.size
        · have hp' : (i : Int) < X.size := by omega
          have hp2 : (i : Int) ≤ X.size := by omega
          have hiL : i < (bytesOf X).length := by omega
          obtain ⟨c, hc⟩ : ∃ c, c = X[i]'hp := ⟨_, rfl⟩
          have hg : (X[i]'hp).toNat = c.toNat := by rw [hc]
          have hgl : (bytesOf X)[i] = c := by rw [hc]; rfl
          by_cases h32 : c = 32
          · have c1 : ((c.toNat : Int) == 32) = true := by rw [h32]; rfl
            have c2 : ((c.toNat : Int) != 32) = false := by rw [h32]; rfl
            obtain ⟨S1, S2⟩ := rstate_sp hst hiL (by rw [hgl, h32])
            by_cases hf : f < i
            · have hf' : (f : Int) < i := by omega
              have f1 : (f : Int) ≤ i := by omega
              have S := Lib.hid (S1 hf)
              have ex : Hid (X.extract f i = ⟨((((bytesOf X)).take i).drop f).toArray⟩) := extract_eq X f i
              clear S1 S2 hst hc hgl h32 HLEN
              go_wp2_with (at_builtin; refine wpList_append_own _ rfl _ _ _ rfl w.heap.size 9 i0 _ 1 16 Tryd.underlying49 hi hz0 hz1 hz2 rfl (by decide) _ out.length (out.map strV) rfl (own.alloc _) ⟨wr.heap.size, 0, none⟩ 1 1 [.string (X.extract f i)] rfl rfl (World.news_of_block (cs := #[.string (X.extract f i)]) (t := 9) (fr := (0, 0)) (heap_alloc_new _ _)) (by simp [Value.oneCell']) (by unfold maxLen; omega) (by omega) (by simp; omega) ?_)
              intro v' w5 own5 hgrow _
              have ec : out.map strV ++ [.string (X.extract f i)] = (out ++ [((bytesOf X).take i).drop f]).map strV := by rw [List.map_append, ex.out]; rfl
              rw [ec] at own5
              have hb5 := (hb.alloc (by omega) (.cells #[.string (X.extract f i)] 9)).grown hgrow (by simp; omega) (fun k hk => (own.lt k hk).1)
              clear hgrow
              go_wp2_with fail
              go_roundg (X.size + 1 - (i + 1))
              case measure => omega
              case rel => exact ⟨i + 1, i + 1, _, by go_num, by go_num, by rw [List.length_append]; exact own5, hb5, S.out, Nat.le_refl _⟩
            · have hf' : ¬ (f : Int) < i := by omega
              have S := Lib.hid (S2 hf)
              clear S1 S2 hst hc hgl h32 HLEN
              go_wp2_with fail
              go_roundg (X.size + 1 - (i + 1))
              case measure => omega
              case rel => exact ⟨i + 1, _, _, by go_num, by first | rfl | go_num, own, hb, S.out, Nat.le_refl _⟩
          · have c1 : ((c.toNat : Int) == 32) = false := by
              have : c.toNat ≠ 32 := fun e => h32 (UInt8.toNat_inj.1 e)
              simp; omega
            have c2 : ((c.toNat : Int) != 32) = true := by
              have : c.toNat ≠ 32 := fun e => h32 (UInt8.toNat_inj.1 e)
              simp; omega
            have c3 : ¬ (c.toNat : Int) = 32 := by
              have : c.toNat ≠ 32 := fun e => h32 (UInt8.toNat_inj.1 e)
              omega
            have S := Lib.hid (rstate_on hst hiL (by rw [hgl]; exact h32))
            clear hst hc hgl h32 HLEN
            go_wp2_with fail
            go_roundg (X.size + 1 - (i + 1))
            case measure => omega
            case rel => exact ⟨i + 1, _, _, by go_num, by first | rfl | go_num, own, hb, S.out, Nat.le_refl _⟩
        · have hp' : ¬ (i : Int) < X.size := by omega
          by_cases hl : i = X.size
          · have hp2 : (i : Int) ≤ X.size := by omega
            obtain ⟨S1, S2⟩ := rstate_last hst (by omega)
            by_cases hf : f < i
            · have hf' : (f : Int) < i := by omega
              have f1 : (f : Int) ≤ i := by omega
              have S := Lib.hid (S1 hf)
              have ex : Hid (X.extract f i = ⟨((((bytesOf X)).take i).drop f).toArray⟩) := extract_eq X f i
              clear S1 S2 hst HLEN hl
              go_wp2_with (at_builtin; refine wpList_append_own _ rfl _ _ _ rfl w.heap.size 9 i0 _ 1 16 Tryd.underlying49 hi hz0 hz1 hz2 rfl (by decide) _ out.length (out.map strV) rfl (own.alloc _) ⟨wr.heap.size, 0, none⟩ 1 1 [.string (X.extract f i)] rfl rfl (World.news_of_block (cs := #[.string (X.extract f i)]) (t := 9) (fr := (0, 0)) (heap_alloc_new _ _)) (by simp [Value.oneCell']) (by unfold maxLen; omega) (by omega) (by simp; omega) ?_)
              intro v' w5 own5 hgrow _
              have ec : out.map strV ++ [.string (X.extract f i)] = (out ++ [((bytesOf X).take i).drop f]).map strV := by rw [List.map_append, ex.out]; rfl
              rw [ec] at own5
              have hb5 := (hb.alloc (by omega) (.cells #[.string (X.extract f i)] 9)).grown hgrow (by simp; omega) (fun k hk => (own.lt k hk).1)
              clear hgrow
              go_wp2_with fail
              go_roundg (X.size + 1 - (i + 1))
              case measure => omega
              case rel => exact ⟨i + 1, i + 1, _, by go_num, by go_num, by rw [List.length_append]; exact own5, hb5, S.out, Nat.le_refl _⟩
            · have hf' : ¬ (f : Int) < i := by omega
              have S := Lib.hid (S2 hf)
              clear S1 S2 hst HLEN hl
              go_wp2_with fail
              go_roundg (X.size + 1 - (i + 1))
              case measure => omega
              case rel => exact ⟨i + 1, _, _, by go_num, by first | rfl | go_num, own, hb, S.out, Nat.le_refl _⟩
          · have hp2 : ¬ (i : Int) ≤ X.size := by omega
            have S := Lib.hid (rstate_end hst (by omega))
            clear hst HLEN hl
            go_wp2_with fail
            go_ret2
            unfold RWordsPost
            rw [HI.out, HXW.out, ← S.out]
            exact ⟨_, rfl, own, hb⟩
    · rw [decide_eq_true h4] at hin
      have HI := Lib.hid hin
      rw [h4] at hc1
      clear hin hd h4
      go_enter Tryd.func23, Tryd.ntmps23
      go_wp2_with fail
      clear e2 e3 h5
      go_loopg [5, 6, 7] (X.size + 1) (fun k ov fv iv wr => RWordsRel w X k ov fv iv wr)
      case atStart => exact ⟨0, 0, [], rfl, rfl, World.ownsRow_nil _ _ _ _, Below.refl _ _, rstate_start _, by omega⟩
      case round =>
        obtain ⟨i, f, out, rfl, rfl, own, hb, hst, hk⟩ := hrel
        have hzr := hb.size
        have HLEN := bytesOf_len X
        have hbd := rstate_bd hst
        by_cases hp : i < X.size
        · have hp' : (i : Int) < X.size := by omega
          have hp2 : (i : Int) ≤ X.size := by omega
          have hiL : i < (bytesOf X).length := by omega
          obtain ⟨c, hc⟩ : ∃ c, c = X[i]'hp := ⟨_, rfl⟩
          have hg : (X[i]'hp).toNat = c.toNat := by rw [hc]
          have hgl : (bytesOf X)[i] = c := by rw [hc]; rfl
          by_cases h32 : c = 32
          · have c1 : ((c.toNat : Int) == 32) = true := by rw [h32]; rfl
            have c2 : ((c.toNat : Int) != 32) = false := by rw [h32]; rfl
            obtain ⟨S1, S2⟩ := rstate_sp hst hiL (by rw [hgl, h32])
            by_cases hf : f < i
            · have hf' : (f : Int) < i := by omega
              have f1 : (f : Int) ≤ i := by omega
              have S := Lib.hid (S1 hf)
              have ex : Hid (X.extract f i = ⟨((((bytesOf X)).take i).drop f).toArray⟩) := extract_eq X f i
              clear S1 S2 hst hc hgl h32 HLEN
              go_wp2_with (at_builtin; refine wpList_append_own _ rfl _ _ _ rfl w.heap.size 9 i0 _ 1 16 Tryd.underlying49 hi hz0 hz1 hz2 rfl (by decide) _ out.length (out.map strV) rfl (own.alloc _) ⟨wr.heap.size, 0, none⟩ 1 1 [.string (X.extract f i)] rfl rfl (World.news_of_block (cs := #[.string (X.extract f i)]) (t := 9) (fr := (0, 0)) (heap_alloc_new _ _)) (by simp [Value.oneCell']) (by unfold maxLen; omega) (by omega) (by simp; omega) ?_)
              intro v' w5 own5 hgrow _
              have ec : out.map strV ++ [.string (X.extract f i)] = (out ++ [((bytesOf X).take i).drop f]).map strV := by rw [List.map_append, ex.out]; rfl
              rw [ec] at own5
              have hb5 := (hb.alloc (by omega) (.cells #[.string (X.extract f i)] 9)).grown hgrow (by simp; omega) (fun k hk => (own.lt k hk).1)
              clear hgrow
              go_wp2_with fail
              go_roundg (X.size + 1 - (i + 1))
              case measure => omega
              case rel => exact ⟨i + 1, i + 1, _, by go_num, by go_num, by rw [List.length_append]; exact own5, hb5, S.out, Nat.le_refl _⟩
            · have hf' : ¬ (f : Int) < i := by omega
              have S := Lib.hid (S2 hf)
              clear S1 S2 hst hc hgl h32 HLEN
              go_wp2_with fail
              go_roundg (X.size + 1 - (i + 1))
              case measure => omega
              case rel => exact ⟨i + 1, _, _, by go_num, by first | rfl | go_num, own, hb, S.out, Nat.le_refl _⟩
          · have c1 : ((c.toNat : Int) == 32) = false := by
              have : c.toNat ≠ 32 := fun e => h32 (UInt8.toNat_inj.1 e)
              simp; omega
            have c2 : ((c.toNat : Int) != 32) = true := by
              have : c.toNat ≠ 32 := fun e => h32 (UInt8.toNat_inj.1 e)
              simp; omega
            have c3 : ¬ (c.toNat : Int) = 32 := by
              have : c.toNat ≠ 32 := fun e => h32 (UInt8.toNat_inj.1 e)
              omega
            have S := Lib.hid (rstate_on hst hiL (by rw [hgl]; exact h32))
            clear hst hc hgl h32 HLEN
            go_wp2_with fail
            go_roundg (X.size + 1 - (i + 1))
            case measure => omega
            case rel => exact ⟨i + 1, _, _, by go_num, by first | rfl | go_num, own, hb, S.out, Nat.le_refl _⟩
        · have hp' : ¬ (i : Int) < X.size := by omega
          by_cases hl : i = X.size
          · have hp2 : (i : Int) ≤ X.size := by omega
            obtain ⟨S1, S2⟩ := rstate_last hst (by omega)
            by_cases hf : f < i
            · have hf' : (f : Int) < i := by omega
              have f1 : (f : Int) ≤ i := by omega
              have S := Lib.hid (S1 hf)
              have ex : Hid (X.extract f i = ⟨((((bytesOf X)).take i).drop f).toArray⟩) := extract_eq X f i
              clear S1 S2 hst HLEN hl
              go_wp2_with (at_builtin; refine wpList_append_own _ rfl _ _ _ rfl w.heap.size 9 i0 _ 1 16 Tryd.underlying49 hi hz0 hz1 hz2 rfl (by decide) _ out.length (out.map strV) rfl (own.alloc _) ⟨wr.heap.size, 0, none⟩ 1 1 [.string (X.extract f i)] rfl rfl (World.news_of_block (cs := #[.string (X.extract f i)]) (t := 9) (fr := (0, 0)) (heap_alloc_new _ _)) (by simp [Value.oneCell']) (by unfold maxLen; omega) (by omega) (by simp; omega) ?_)
              intro v' w5 own5 hgrow _
              have ec : out.map strV ++ [.string (X.extract f i)] = (out ++ [((bytesOf X).take i).drop f]).map strV := by rw [List.map_append, ex.out]; rfl
              rw [ec] at own5
              have hb5 := (hb.alloc (by omega) (.cells #[.string (X.extract f i)] 9)).grown hgrow (by simp; omega) (fun k hk => (own.lt k hk).1)
              clear hgrow
              go_wp2_with fail
              go_roundg (X.size + 1 - (i + 1))
              case measure => omega
              case rel => exact ⟨i + 1, i + 1, _, by go_num, by go_num, by rw [List.length_append]; exact own5, hb5, S.out, Nat.le_refl _⟩
            · have hf' : ¬ (f : Int) < i := by omega
              have S := Lib.hid (S2 hf)
              clear S1 S2 hst HLEN hl
              go_wp2_with fail
              go_roundg (X.size + 1 - (i + 1))
              case measure => omega
              case rel => exact ⟨i + 1, _, _, by go_num, by first | rfl | go_num, own, hb, S.out, Nat.le_refl _⟩
          · have hp2 : ¬ (i : Int) ≤ X.size := by omega
            have S := Lib.hid (rstate_end hst (by omega))
            clear hst HLEN hl
            go_wp2_with fail
            go_ret2
            unfold RWordsPost
            rw [HI.out, HXW.out, ← S.out]
            exact ⟨_, rfl, own, hb⟩
    · rw [decide_eq_false h4] at hin
      have HI := Lib.hid hin
      have q1 : ((c0 : Int) == 32) = false := by simp; omega
      have q2 : ¬ (c0 : Int) = 32 := by omega
      clear hin hd ed h4
      go_enter Tryd.func23, Tryd.ntmps23
      go_wp2_with fail
      clear e2 e3 h5
      go_loopg [5, 6, 7] (X.size + 1) (fun k ov fv iv wr => RWordsRel w X k ov fv iv wr)
      case atStart => exact ⟨0, 0, [], rfl, rfl, World.ownsRow_nil _ _ _ _, Below.refl _ _, rstate_start _, by omega⟩
      case round =>
        obtain ⟨i, f, out, rfl, rfl, own, hb, hst, hk⟩ := hrel
        have hzr := hb.size
        have HLEN := bytesOf_len X
        have hbd := rstate_bd hst
        by_cases hp : i < X.size
        · have hp' : (i : Int) < X.size := by omega
          have hp2 : (i : Int) ≤ X.size := by omega
          have hiL : i < (bytesOf X).length := by omega
          obtain ⟨c, hc⟩ : ∃ c, c = X[i]'hp := ⟨_, rfl⟩
          have hg : (X[i]'hp).toNat = c.toNat := by rw [hc]
          have hgl : (bytesOf X)[i] = c := by rw [hc]; rfl
          by_cases h32 : c = 32
          · have c1 : ((c.toNat : Int) == 32) = true := by rw [h32]; rfl
            have c2 : ((c.toNat : Int) != 32) = false := by rw [h32]; rfl
            obtain ⟨S1, S2⟩ := rstate_sp hst hiL (by rw [hgl, h32])
            by_cases hf : f < i
            · have hf' : (f : Int) < i := by omega
              have f1 : (f : Int) ≤ i := by omega
              have S := Lib.hid (S1 hf)
              have ex : Hid (X.extract f i = ⟨((((bytesOf X)).take i).drop f).toArray⟩) := extract_eq X f i
              clear S1 S2 hst hc hgl h32 HLEN
              go_wp2_with (at_builtin; refine wpList_append_own _ rfl _ _ _ rfl w.heap.size 9 i0 _ 1 16 Tryd.underlying49 hi hz0 hz1 hz2 rfl (by decide) _ out.length (out.map strV) rfl (own.alloc _) ⟨wr.heap.size, 0, none⟩ 1 1 [.string (X.extract f i)] rfl rfl (World.news_of_block (cs := #[.string (X.extract f i)]) (t := 9) (fr := (0, 0)) (heap_alloc_new _ _)) (by simp [Value.oneCell']) (by unfold maxLen; omega) (by omega) (by simp; omega) ?_)
              intro v' w5 own5 hgrow _
              have ec : out.map strV ++ [.string (X.extract f i)] = (out ++ [((bytesOf X).take i).drop f]).map strV := by rw [List.map_append, ex.out]; rfl
              rw [ec] at own5
              have hb5 := (hb.alloc (by omega) (.cells #[.string (X.extract f i)] 9)).grown hgrow (by simp; omega) (fun k hk => (own.lt k hk).1)
              clear hgrow
              go_wp2_with fail
              go_roundg (X.size + 1 - (i + 1))
              case measure => omega
              case rel => exact ⟨i + 1, i + 1, _, by go_num, by go_num, by rw [List.length_append]; exact own5, hb5, S.out, Nat.le_refl _⟩
            · have hf' : ¬ (f : Int) < i := by omega
              have S := Lib.hid (S2 hf)
              clear S1 S2 hst hc hgl h32 HLEN
              go_wp2_with fail
              go_roundg (X.size + 1 - (i + 1))
              case measure => omega
              case rel => exact ⟨i + 1, _, _, by go_num, by first | rfl | go_num, own, hb, S.out, Nat.le_refl _⟩
          · have c1 : ((c.toNat : Int) == 32) = false := by
              have : c.toNat ≠ 32 := fun e => h32 (UInt8.toNat_inj.1 e)
              simp; omega
            have c2 : ((c.toNat : Int) != 32) = true := by
              have : c.toNat ≠ 32 := fun e => h32 (UInt8.toNat_inj.1 e)
              simp; omega
            have c3 : ¬ (c.toNat : Int) = 32 := by
              have : c.toNat ≠ 32 := fun e => h32 (UInt8.toNat_inj.1 e)
              omega
            have S := Lib.hid (rstate_on hst hiL (by rw [hgl]; exact h32))
            clear hst hc hgl h32 HLEN
            go_wp2_with fail
            go_roundg (X.size + 1 - (i + 1))
            case measure => omega
            case rel => exact ⟨i + 1, _, _, by go_num, by first | rfl | go_num, own, hb, S.out, Nat.le_refl _⟩
        · have hp' : ¬ (i : Int) < X.size := by omega
          by_cases hl : i = X.size
          · have hp2 : (i : Int) ≤ X.size := by omega
            obtain ⟨S1, S2⟩ := rstate_last hst (by omega)
            by_cases hf : f < i
            · have hf' : (f : Int) < i := by omega
              have f1 : (f : Int) ≤ i := by omega
              have S := Lib.hid (S1 hf)
              have ex : Hid (X.extract f i = ⟨((((bytesOf X)).take i).drop f).toArray⟩) := extract_eq X f i
              clear S1 S2 hst HLEN hl
              go_wp2_with (at_builtin; refine wpList_append_own _ rfl _ _ _ rfl w.heap.size 9 i0 _ 1 16 Tryd.underlying49 hi hz0 hz1 hz2 rfl (by decide) _ out.length (out.map strV) rfl (own.alloc _) ⟨wr.heap.size, 0, none⟩ 1 1 [.string (X.extract f i)] rfl rfl (World.news_of_block (cs := #[.string (X.extract f i)]) (t := 9) (fr := (0, 0)) (heap_alloc_new _ _)) (by simp [Value.oneCell']) (by unfold maxLen; omega) (by omega) (by simp; omega) ?_)
              intro v' w5 own5 hgrow _
              have ec : out.map strV ++ [.string (X.extract f i)] = (out ++ [((bytesOf X).take i).drop f]).map strV := by rw [List.map_append, ex.out]; rfl
              rw [ec] at own5
              have hb5 := (hb.alloc (by omega) (.cells #[.string (X.extract f i)] 9)).grown hgrow (by simp; omega) (fun k hk => (own.lt k hk).1)
              clear hgrow
              go_wp2_with fail
              go_roundg (X.size + 1 - (i + 1))
              case measure => omega
              case rel => exact ⟨i + 1, i + 1, _, by go_num, by go_num, by rw [List.length_append]; exact own5, hb5, S.out, Nat.le_refl _⟩
            · have hf' : ¬ (f : Int) < i := by omega
              have S := Lib.hid (S2 hf)
              clear S1 S2 hst HLEN hl
              go_wp2_with fail
              go_roundg (X.size + 1 - (i + 1))
              case measure => omega
              case rel => exact ⟨i + 1, _, _, by go_num, by first | rfl | go_num, own, hb, S.out, Nat.le_refl _⟩
          · have hp2 : ¬ (i : Int) ≤ X.size := by omega
            have S := Lib.hid (rstate_end hst (by omega))
            clear hst HLEN hl
            go_wp2_with fail
            go_ret2
            unfold RWordsPost
            rw [HI.out, HXW.out, ← S.out]
            exact ⟨_, rfl, own, hb⟩
    · rw [decide_eq_false h4] at hin
      have HI := Lib.hid hin
      have q1 : ((c0 : Int) == 32) = false := by simp; omega
      have q2 : ¬ (c0 : Int) = 32 := by omega
      clear hin hd h4
      go_enter Tryd.func23, Tryd.ntmps23
      go_wp2_with fail
      clear e2 e3 h5
      go_loopg [5, 6, 7] (X.size + 1) (fun k ov fv iv wr => RWordsRel w X k ov fv iv wr)
      case atStart => exact ⟨0, 0, [], rfl, rfl, World.ownsRow_nil _ _ _ _, Below.refl _ _, rstate_start _, by omega⟩
      case round =>
        obtain ⟨i, f, out, rfl, rfl, own, hb, hst, hk⟩ := hrel
        have hzr := hb.size
        have HLEN := bytesOf_len X
        have hbd := rstate_bd hst
        by_cases hp : i < X.size
        · have hp' : (i : Int) < X.size := by omega
          have hp2 : (i : Int) ≤ X.size := by omega
          have hiL : i < (bytesOf X).length := by omega
          obtain ⟨c, hc⟩ : ∃ c, c = X[i]'hp := ⟨_, rfl⟩
          have hg : (X[i]'hp).toNat = c.toNat := by rw [hc]
          have hgl : (bytesOf X)[i] = c := by rw [hc]; rfl
          by_cases h32 : c = 32
          · have c1 : ((c.toNat : Int) == 32) = true := by rw [h32]; rfl
            have c2 : ((c.toNat : Int) != 32) = false := by rw [h32]; rfl
            obtain ⟨S1, S2⟩ := rstate_sp hst hiL (by rw [hgl, h32])
            by_cases hf : f < i
            · have hf' : (f : Int) < i := by omega
              have f1 : (f : Int) ≤ i := by omega
              have S := Lib.hid (S1 hf)
              have ex : Hid (X.extract f i = ⟨((((bytesOf X)).take i).drop f).toArray⟩) := extract_eq X f i
              clear S1 S2 hst hc hgl h32 HLEN
              go_wp2_with (at_builtin; refine wpList_append_own _ rfl _ _ _ rfl w.heap.size 9 i0 _ 1 16 Tryd.underlying49 hi hz0 hz1 hz2 rfl (by decide) _ out.length (out.map strV) rfl (own.alloc _) ⟨wr.heap.size, 0, none⟩ 1 1 [.string (X.extract f i)] rfl rfl (World.news_of_block (cs := #[.string (X.extract f i)]) (t := 9) (fr := (0, 0)) (heap_alloc_new _ _)) (by simp [Value.oneCell']) (by unfold maxLen; omega) (by omega) (by simp; omega) ?_)
              intro v' w5 own5 hgrow _
              have ec : out.map strV ++ [.string (X.extract f i)] = (out ++ [((bytesOf X).take i).drop f]).map strV := by rw [List.map_append, ex.out]; rfl
              rw [ec] at own5
              have hb5 := (hb.alloc (by omega) (.cells #[.string (X.extract f i)] 9)).grown hgrow (by simp; omega) (fun k hk => (own.lt k hk).1)
              clear hgrow
              go_wp2_with fail
              go_roundg (X.size + 1 - (i + 1))
              case measure => omega
              case rel => exact ⟨i + 1, i + 1, _, by go_num, by go_num, by rw [List.length_append]; exact own5, hb5, S.out, Nat.le_refl _⟩
            · have hf' : ¬ (f : Int) < i := by omega
              have S := Lib.hid (S2 hf)
              clear S1 S2 hst hc hgl h32 HLEN
              go_wp2_with fail
              go_roundg (X.size + 1 - (i + 1))
              case measure => omega
              case rel => exact ⟨i + 1, _, _, by go_num, by first | rfl | go_num, own, hb, S.out, Nat.le_refl _⟩
          · have c1 : ((c.toNat : Int) == 32) = false := by
              have : c.toNat ≠ 32 := fun e => h32 (UInt8.toNat_inj.1 e)
              simp; omega
            have c2 : ((c.toNat : Int) != 32) = true := by
              have : c.toNat ≠ 32 := fun e => h32 (UInt8.toNat_inj.1 e)
              simp; omega
            have c3 : ¬ (c.toNat : Int) = 32 := by
              have : c.toNat ≠ 32 := fun e => h32 (UInt8.toNat_inj.1 e)
              omega
            have S := Lib.hid (rstate_on hst hiL (by rw [hgl]; exact h32))
            clear hst hc hgl h32 HLEN
            go_wp2_with fail
            go_roundg (X.size + 1 - (i + 1))
            case measure => omega
            case rel => exact ⟨i + 1, _, _, by go_num, by first | rfl | go_num, own, hb, S.out, Nat.le_refl _⟩
        · have hp' : ¬ (i : Int) < X.size := by omega
          by_cases hl : i = X.size
          · have hp2 : (i : Int) ≤ X.size := by omega
            obtain ⟨S1, S2⟩ := rstate_last hst (by omega)
            by_cases hf : f < i
            · have hf' : (f : Int) < i := by omega
              have f1 : (f : Int) ≤ i := by omega
              have S := Lib.hid (S1 hf)
              have ex : Hid (X.extract f i = ⟨((((bytesOf X)).take i).drop f).toArray⟩) := extract_eq X f i
              clear S1 S2 hst HLEN hl
              go_wp2_with (at_builtin; refine wpList_append_own _ rfl _ _ _ rfl w.heap.size 9 i0 _ 1 16 Tryd.underlying49 hi hz0 hz1 hz2 rfl (by decide) _ out.length (out.map strV) rfl (own.alloc _) ⟨wr.heap.size, 0, none⟩ 1 1 [.string (X.extract f i)] rfl rfl (World.news_of_block (cs := #[.string (X.extract f i)]) (t := 9) (fr := (0, 0)) (heap_alloc_new _ _)) (by simp [Value.oneCell']) (by unfold maxLen; omega) (by omega) (by simp; omega) ?_)
              intro v' w5 own5 hgrow _
              have ec : out.map strV ++ [.string (X.extract f i)] = (out ++ [((bytesOf X).take i).drop f]).map strV := by rw [List.map_append, ex.out]; rfl
              rw [ec] at own5
              have hb5 := (hb.alloc (by omega) (.cells #[.string (X.extract f i)] 9)).grown hgrow (by simp; omega) (fun k hk => (own.lt k hk).1)
              clear hgrow
              go_wp2_with fail
              go_roundg (X.size + 1 - (i + 1))
              case measure => omega
              case rel => exact ⟨i + 1, i + 1, _, by go_num, by go_num, by rw [List.length_append]; exact own5, hb5, S.out, Nat.le_refl _⟩
            · have hf' : ¬ (f : Int) < i := by omega
              have S := Lib.hid (S2 hf)
              clear S1 S2 hst HLEN hl
              go_wp2_with fail
              go_roundg (X.size + 1 - (i + 1))
              case measure => omega
              case rel => exact ⟨i + 1, _, _, by go_num, by first | rfl | go_num, own, hb, S.out, Nat.le_refl _⟩
          · have hp2 : ¬ (i : Int) ≤ X.size := by omega
            have S := Lib.hid (rstate_end hst (by omega))
            clear hst HLEN hl
            go_wp2_with fail
            go_ret2
            unfold RWordsPost
            rw [HI.out, HXW.out, ← S.out]
            exact ⟨_, rfl, own, hb⟩
end Go.Proofs.YtadcfedjmofjjaaDoor
