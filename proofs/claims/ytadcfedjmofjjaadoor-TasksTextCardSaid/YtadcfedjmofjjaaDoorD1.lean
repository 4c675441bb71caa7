/-
  Lines and words: the walks of the document's dotted, lines, words.
-/
import Derived.Test.YtadcfedjmofjjaaDoorL3
import Derived.Test.YtadcfedjmofjjaaDoorLinesP
namespace Go.Proofs.YtadcfedjmofjjaaDoor
open Go.RowKit
theorem extract_toList (s : ByteArray) (f pos : Nat) : (s.extract f pos).toList = ((bytesOf s).take pos).drop f := by
  rw [extract_eq, ByteArray.toList_eq]
  rfl
theorem dotted_short {l : List UInt8} (h : l.length < 2) : Tk.dotted l = false := by
  unfold Tk.dotted
  refine decide_eq_false fun e => ?_
  have := congrArg List.length e
  simp at this
  omega
theorem dotted_any (s : ByteArray) (w : World) : Calls Tryd.prog 24 #[.string s] w fun e w' => e = .returned (.bool (Tk.dotted (bytesOf s))) ∧ w = w' := by
  have hl := bytesOf_len s
  by_cases h : s.size < 2
  · have E := Lib.hid (dotted_short (l := bytesOf s) (by omega))
    have h' : ¬ (2 : Int) ≤ s.size := by omega
    clear h hl
    go_enter Tryd.func24, Tryd.ntmps24
    go_wp2_with fail
    go_ret
    exact ⟨ret_bool E.out.symm, rfl⟩
  · have h' : (2 : Int) ≤ s.size := by omega
    have e0 : (s.extract 0 2).toList = (bytesOf s).take 2 := by rw [extract_toList, List.drop_zero]
    have E : Hid (((s.extract 0 2).toList == [194, 183]) = Tk.dotted (bytesOf s)) := by
      show _ = _
      rw [e0]
      unfold Tk.dotted
      rw [Bool.eq_iff_iff]
      simp
    clear h hl e0
    go_enter Tryd.func24, Tryd.ntmps24
    go_wp2_with fail
    go_ret
    exact ⟨ret_bool E.out, rfl⟩
/-! Lines. -/
def LState (l : List UInt8) (i from_ : Nat) (out : List (List UInt8)) : Prop := from_ ≤ i ∧ out.length ≤ i ∧ out ++ Tk.linesGo (l.drop i) ((l.take i).drop from_) = Tk.lines l
theorem cur_more (l : List UInt8) {i f : Nat} (h : i < l.length) (hf : f ≤ i) : (l.take (i + 1)).drop f = (l.take i).drop f ++ [l[i]] := by
  rw [List.take_succ_eq_append_getElem h, List.drop_append_of_le_length (by rw [List.length_take]; omega)]
theorem cur_none (l : List UInt8) (i : Nat) : (l.take i).drop i = [] := List.drop_of_length_le (by rw [List.length_take]; omega)
theorem lstate_nl {l : List UInt8} {i f : Nat} {out : List (List UInt8)} (h : LState l i f out) (hi : i < l.length) (hb : l[i] = 10) : LState l (i + 1) (i + 1) (out ++ [(l.take i).drop f]) := by
  obtain ⟨h1, h2, h3⟩ := h
  refine ⟨Nat.le_refl _, by simp; omega, ?_⟩
  rw [List.drop_eq_getElem_cons hi, hb, Tk.linesGo, if_pos rfl] at h3
  rw [cur_none, List.append_assoc]
  exact h3
theorem lstate_on {l : List UInt8} {i f : Nat} {out : List (List UInt8)} (h : LState l i f out) (hi : i < l.length) (hb : l[i] ≠ 10) : LState l (i + 1) f out := by
  obtain ⟨h1, h2, h3⟩ := h
  refine ⟨by omega, by omega, ?_⟩
  rw [List.drop_eq_getElem_cons hi, Tk.linesGo, if_neg hb] at h3
  rw [cur_more l hi h1]
  exact h3
theorem lstate_end {l : List UInt8} {f : Nat} {out : List (List UInt8)} (h : LState l l.length f out) : (f < l.length → out ++ [l.drop f] = Tk.lines l) ∧ (¬ f < l.length → out = Tk.lines l) := by
  obtain ⟨h1, h2, h3⟩ := h
  rw [List.drop_of_length_le (Nat.le_refl _), List.take_of_length_le (Nat.le_refl _), Tk.linesGo] at h3
  constructor
  · intro hf
    rw [if_neg] at h3
    · exact h3
    · intro h0
      have := congrArg List.length h0
      rw [List.length_drop, List.length_nil] at this
      omega
  · intro hf
    rw [if_pos (List.drop_of_length_le (by omega)), List.append_nil] at h3
    exact h3
def LinesPost (w : World) (s : ByteArray) (e : Ending) (w' : World) : Prop :=
  ∃ v, e = .returned v ∧ w'.ownsRow w.heap.size 9 1 v (Tk.lines (bytesOf s)).length ((Tk.lines (bytesOf s)).map strV) ∧ Below w.heap.size w w'
def LinesRel (w : World) (s : ByteArray) (k : Nat) (ov fv iv : Value) (wr : World) : Prop :=
  ∃ (i f : Nat) (out : List (List UInt8)), iv = .int .i64 i ∧ fv = .int .i64 f ∧ wr.ownsRow w.heap.size 9 1 ov out.length (out.map strV) ∧ Below w.heap.size w wr ∧ LState (bytesOf s) i f out ∧ i ≤ s.size ∧ s.size - i ≤ k
set_option maxRecDepth 20000 in
set_option maxHeartbeats 4000000 in
theorem lines_any (s : ByteArray) (w : World) (hs : s.size ≤ 1000000) : Calls Tryd.prog 22 #[.string s] w (LinesPost w s) := by
  have hlen := bytesOf_len s
  obtain ⟨i0, hi, hz0, hz1, hz2⟩ := info_parts info9
  have HLEN := Lib.hid hlen
  clear hlen
  go_enter Tryd.func22, Tryd.ntmps22
  go_wp2_with fail
  go_loopg [3, 4, 5] s.size (fun k ov fv iv wr => LinesRel w s k ov fv iv wr)
  case atStart => exact ⟨0, 0, [], rfl, rfl, World.ownsRow_nil _ _ _ _, Below.refl _ _, ⟨Nat.le_refl _, Nat.le_refl _, by simp [Tk.lines]⟩, Nat.zero_le _, by omega⟩
  case round =>
    obtain ⟨i, f, out, rfl, rfl, own, hb, hst, his, hk⟩ := hrel
    have hzr := hb.size
    have hfi := hst.1
    have hol := hst.2.1
    by_cases hp : i < s.size
    · have hp' : (i : Int) < s.size := by omega
      have hiL : i < (bytesOf s).length := by have := HLEN.out; omega
      obtain ⟨c, hc⟩ : ∃ c, c = s[i]'hp := ⟨_, rfl⟩
      have hg : (s[i]'hp).toNat = c.toNat := by rw [hc]
      have hgl : (bytesOf s)[i] = c := by rw [hc]; rfl
      by_cases h10 : c = 10
      · have S := Lib.hid (lstate_nl hst hiL (by rw [hgl, h10]))
        have e1 : ((c.toNat : Int) == 10) = true := by rw [h10]; rfl
        have f1 : (f : Int) ≤ i := by omega
        have f2 : (i : Int) ≤ s.size := by omega
        have ex : Hid (s.extract f i = ⟨((((bytesOf s)).take i).drop f).toArray⟩) := extract_eq s f i
        clear hst hc hgl h10
        go_wp2_with (at_builtin; refine wpList_append_own _ rfl _ _ _ rfl w.heap.size 9 i0 _ 1 16 Tryd.underlying49 hi hz0 hz1 hz2 rfl (by decide) _ out.length (out.map strV) rfl (own.alloc _) ⟨wr.heap.size, 0, none⟩ 1 1 [.string (s.extract f i)] rfl rfl ?c1 ?c2 ?c3 ?c4 ?c5 ?_)
        case c1 => intro j u hj; match j, hj with | 0, hj => simp at hj; subst hj; simp [Addr.add]
        case c2 => intro u hu; simp at hu; subst hu; rfl
        case c3 => unfold maxLen; omega
        case c4 => omega
        case c5 => simp; omega
        intro v' w5 own5 hgrow _
        have ec : out.map strV ++ [.string (s.extract f i)] = (out ++ [((bytesOf s).take i).drop f]).map strV := by rw [List.map_append, ex.out]; rfl
        rw [ec] at own5
        have hb5 := (hb.alloc (by omega) (.cells #[.string (s.extract f i)] 9)).grown hgrow (by simp; omega) (fun k hk => (own.lt k hk).1)
        clear hgrow
        go_wp2_with fail
        go_roundg (s.size - (i + 1))
        case measure => omega
        case rel => exact ⟨i + 1, i + 1, _, by go_num, by go_num, by rw [List.length_append]; exact own5, hb5, S.out, by omega, Nat.le_refl _⟩
      · have S := Lib.hid (lstate_on hst hiL (by rw [hgl]; exact h10))
        have e1 : ((c.toNat : Int) == 10) = false := by
          have : c.toNat ≠ 10 := fun e => h10 (UInt8.toNat_inj.1 e)
          simp; omega
        clear hst hc hgl h10
        go_wp2_with fail
        go_roundg (s.size - (i + 1))
        case measure => omega
        case rel => exact ⟨i + 1, f, _, by go_num, rfl, own, hb, S.out, by omega, Nat.le_refl _⟩
    · have hge : ¬ (i : Int) < s.size := by omega
      have hi2 : i = (bytesOf s).length := by have := HLEN.out; omega
      rw [hi2] at hst
      obtain ⟨E1, E2⟩ := lstate_end hst
      rw [← hi2] at E1 E2
      clear hi2 hst
      by_cases hf : f < i
      · have S := Lib.hid (E1 hf)
        have hfs : (f : Int) < s.size := by omega
        have ex : Hid (s.extract f s.size = ⟨((bytesOf s).drop f).toArray⟩) := extract_end s f
        clear E1 E2
        go_wp2_with (at_builtin; refine wpList_append_own _ rfl _ _ _ rfl w.heap.size 9 i0 _ 1 16 Tryd.underlying49 hi hz0 hz1 hz2 rfl (by decide) _ out.length (out.map strV) rfl (own.alloc _) ⟨wr.heap.size, 0, none⟩ 1 1 [.string (s.extract f s.size)] rfl rfl ?c1 ?c2 ?c3 ?c4 ?c5 ?_)
        try case c1 => intro j u hj; match j, hj with | 0, hj => simp at hj; subst hj; simp [Addr.add]
        case c2 => first | rfl | (intro u hu; simp at hu; subst hu; rfl)
        case c3 => unfold maxLen; omega
        case c4 => omega
        case c5 => first | omega | (simp; omega)
        intro v' w5 own5 hgrow _
        have ec : out.map strV ++ [.string (s.extract f s.size)] = (out ++ [(bytesOf s).drop f]).map strV := by rw [List.map_append, ex.out]; rfl
        rw [ec] at own5
        have hb5 := (hb.alloc (by omega) (.cells #[.string (s.extract f s.size)] 9)).grown hgrow (by simp; omega) (fun k hk => (own.lt k hk).1)
        clear hgrow
        go_wp2_with fail
        go_ret
        unfold LinesPost
        rw [← S.out]
        exact ⟨_, rfl, by rw [List.length_append]; exact own5, hb5⟩
      · have S := Lib.hid (E2 hf)
        have hfs : ¬ (f : Int) < s.size := by omega
        clear E1 E2
        go_wp2_with fail
        go_ret
        unfold LinesPost
        rw [← S.out]
        exact ⟨_, rfl, own, hb⟩
end Go.Proofs.YtadcfedjmofjjaaDoor
