/-
  The words of a line: the walk of the given words.
-/
import Derived.Test.YtadcfedjmofjjaaDoorN2
import Derived.Test.YtadcfedjmofjjaaDoorHeap
import Derived.Test.YtadcfedjmofjjaaDoorWordsP
namespace Go.Proofs.YtadcfedjmofjjaaDoor
open Go.RowKit
theorem row_iter_ne {w : World} {base k pos : Nat} {s : ByteArray} {e : TypeId} {size n : Nat} {v : Value} {xs : List Value} (h : w.ownsRow base e size v n xs) (hk : w.heap[k]? = some (.stringIter s pos)) : v.ownBlock ≠ some k := by
  intro he
  rcases h.2 with ⟨rfl, _⟩ | ⟨g, _, _, rfl, _, hg, _⟩
  · simp [Value.ownBlock] at he
  · simp [Value.ownBlock] at he
    rw [he, hk] at hg
    cases hg
theorem row_iterAt {w : World} {base k pos : Nat} {s : ByteArray} {e : TypeId} {size n : Nat} {v : Value} {xs : List Value} (h : w.ownsRow base e size v n xs) (hk : w.heap[k]? = some (.stringIter s pos)) (pos' : Nat) : (w.iterAt k s pos').ownsRow base e size v n xs :=
  row_same h fun j hj => Lib.iterAt_other w k j s pos' (fun e => row_iter_ne h hk (by rw [hj, e]))
/-- What the loop over a line's runes leaves. -/
def WordsRel (w : World) (s : ByteArray) (k : Nat) (lv iv dv fv : Value) (wr : World) : Prop :=
  ∃ (pos : Nat) (ws : List (List UInt8)) (fr : Int), wr.heap[w.heap.size]? = some (.stringIter s pos) ∧ wr.ownsRow w.heap.size 9 1 lv ws.length (ws.map strV) ∧ Below w.heap.size w wr ∧
    iv = .bool (decide (0 < pos) && Tk.inner (bytesOf s)) ∧ dv = .bool (decide (0 < pos) && Tk.dotted (bytesOf s)) ∧ fv = .int .i64 fr ∧ WState (bytesOf s) pos ws fr ∧ pos ≤ s.size ∧ s.size - pos ≤ k
def WordsPost (w : World) (s : ByteArray) (e : Ending) (w' : World) : Prop :=
  ∃ v, e = .returned (.tuple #[v, .bool (Tk.inner (bytesOf s)), .bool (Tk.dotted (bytesOf s))]) ∧ w'.ownsRow w.heap.size 9 1 v (Tk.words (bytesOf s)).length ((Tk.words (bytesOf s)).map strV) ∧ Below w.heap.size w w'
set_option maxRecDepth 20000 in
set_option maxHeartbeats 4000000 in
theorem words_any (s : ByteArray) (w : World) (hs : s.size ≤ 1000000) : Calls Tryd.prog 38 #[.string s] w (WordsPost w s) := by
  have hlen := bytesOf_len s
  obtain ⟨i0, hi, hz0, hz1, hz2⟩ := info_parts info9
  have HLEN := Lib.hid hlen
  clear hlen
  go_enter Tryd.func38, Tryd.ntmps38
  go_wp2_with fail
  go_loopg [2, 3, 4, 5] s.size (fun k lv iv dv fv wr => WordsRel w s k lv iv dv fv wr)
  case atStart => exact ⟨0, [], -1, World.iter_heap w s 0, World.ownsRow_nil _ _ _ _, (Below.refl _ _).alloc (Nat.le_refl _) _, rfl, rfl, rfl, ⟨Nat.zero_le _, .inl ⟨rfl, rfl, rfl⟩⟩, Nat.zero_le _, by omega⟩
  case round =>
    obtain ⟨pos, ws, fr, hit, own, hb, rfl, rfl, rfl, hst, hps, hk⟩ := hrel
    have hzr := hb.size
    by_cases hp : pos < s.size
    · have hnx : ∀ ty, (Instr.next (.pointer (some ⟨w.heap.size, 0, none⟩)) true ty).run Tryd.prog wr = _ := fun ty => Lib.run_next_any_at wr w.heap.size s pos ty hit hp
      have hr := runeAt s pos hp
      have r1 := hr.pos_
      have r2 := hr.le
      have r3 := hr.small
      have r0 := HLEN.out
      have hle : pos + (Utf8.decode s pos).2 ≤ s.size := by omega
      have hit2 := Lib.iterAt_heap wr w.heap.size s pos (pos + (Utf8.decode s pos).2) hit
      have hb2 := Lib.below_iterAt hb (Nat.le_refl _) s (pos + (Utf8.decode s pos).2)
      have own2 := row_iterAt own hit (pos + (Utf8.decode s pos).2)
      have hz2' : (wr.iterAt w.heap.size s (pos + (Utf8.decode s pos).2)).heap.size = wr.heap.size := Lib.iterAt_size _ _ _ _
      generalize wr.iterAt w.heap.size s (pos + (Utf8.decode s pos).2) = w2 at *
      generalize (Utf8.decode s pos).1 = c at *
      generalize (Utf8.decode s pos).2 = wd at *
      clear r2 r0 own hit hb
      rcases Nat.eq_zero_or_pos pos with h0 | h0
      · subst h0
        obtain ⟨fd, fi⟩ := hr.flags
        have hfr : fr = -1 := by
          rcases wstate_from hst with h | ⟨f, h, h1⟩
          · exact h
          · omega
        subst hfr
        have D := Lib.hid fd
        have I := Lib.hid fi
        have hd0 : 0 < 0 + wd := by omega
        have hd1 : Hid (decide (0 < 0 + wd) = true) := decide_eq_true hd0
        have hz : decide (0 < 0) = false := rfl
        rw [hz, Bool.false_and, Bool.false_and]
        clear fd fi hz
        by_cases c1 : c = 32
        · subst c1
          have S := wstate_blank_shut hst hr (.inl rfl)
          have HZ := Lib.hid hz2'
          clear hst hr hz2'
          go_wp2_with fail
          go_roundg (s.size - (0 + wd))
          case measure => omega
          case rel => exact ⟨0 + wd, ws, -1, hit2, own2, hb2, by rw [hd1.out, I.out]; rfl, by rw [hd1.out, D.out]; rfl, rfl, S, hle, Nat.le_refl _⟩
        by_cases c2 : c = 183
        · subst c2
          have S := wstate_blank_shut hst hr (.inr ⟨rfl, rfl⟩)
          have HZ := Lib.hid hz2'
          clear hst hr hz2' c1
          go_wp2_with fail
          go_roundg (s.size - (0 + wd))
          case measure => omega
          case rel => exact ⟨0 + wd, ws, -1, hit2, own2, hb2, by rw [hd1.out, I.out]; rfl, by rw [hd1.out, D.out]; rfl, rfl, S, hle, Nat.le_refl _⟩
        · have S := wstate_word_start hst hr (by omega)
          have HZ := Lib.hid hz2'
          have e1 : ((c : Int) == 32) = false := by simp; omega
          have e2 : ((c : Int) == 183) = false := by simp; omega
          have d1 : Hid (decide (c = 32) = false) := decide_eq_false c1
          have d2 : Hid (decide (c = 183) = false) := decide_eq_false c2
          clear hst hr hz2' c1 c2
          go_wp2_with fail
          go_roundg (s.size - (0 + wd))
          case measure => omega
          case rel => exact ⟨0 + wd, ws, (0 : Nat), hit2, own2, hb2, by rw [hd1.out, I.out, d1.out, d2.out]; rfl, by rw [hd1.out, D.out, d2.out]; rfl, rfl, S, hle, Nat.le_refl _⟩
      · have hd1 : Hid (decide (0 < pos + wd) = true) := decide_eq_true (by omega)
        have hz : decide (0 < pos) = true := decide_eq_true h0
        rw [hz, Bool.true_and, Bool.true_and]
        have e0 : ((pos : Int) == 0) = false := by simp; omega
        clear hz
        have HZ := Lib.hid hz2'
        obtain ⟨ib, eib⟩ : ∃ ib, Tk.inner (bytesOf s) = ib := ⟨_, rfl⟩
        obtain ⟨db, edb⟩ : ∃ db, Tk.dotted (bytesOf s) = db := ⟨_, rfl⟩
        rw [eib, edb]
        have EI := Lib.hid eib
        have ED := Lib.hid edb
        clear eib edb
        rcases wstate_from hst with hfr | ⟨f, hfr, hf⟩
        · subst hfr
          by_cases c1 : c = 32
          · subst c1
            have S := wstate_blank_shut hst hr (.inl rfl)
            clear hst hr hz2'
            rcases ib with _ | _
            all_goals
              go_wp2_with fail
              go_roundg (s.size - (pos + wd))
              case measure => omega
              case rel => exact ⟨pos + wd, ws, -1, hit2, own2, hb2, by rw [hd1.out, EI.out]; rfl, by rw [hd1.out, ED.out]; rfl, rfl, S, hle, Nat.le_refl _⟩
          · have S := wstate_word_start hst hr (by omega)
            have e1 : ((c : Int) == 32) = false := by simp; omega
            clear hst hr hz2' c1
            by_cases c2 : c = 183
            · subst c2
              rcases ib with _ | _
              all_goals
                go_wp2_with fail
                go_roundg (s.size - (pos + wd))
                case measure => omega
                case rel => exact ⟨pos + wd, ws, (pos : Nat), hit2, own2, hb2, by rw [hd1.out, EI.out]; rfl, by rw [hd1.out, ED.out]; rfl, rfl, S, hle, Nat.le_refl _⟩
            · have e2 : ((c : Int) == 183) = false := by simp; omega
              clear c2
              rcases ib with _ | _
              all_goals
                go_wp2_with fail
                go_roundg (s.size - (pos + wd))
                case measure => omega
                case rel => exact ⟨pos + wd, ws, (pos : Nat), hit2, own2, hb2, by rw [hd1.out, EI.out]; rfl, by rw [hd1.out, ED.out]; rfl, rfl, S, hle, Nat.le_refl _⟩
        · subst hfr
          by_cases c1 : c = 32
          · subst c1
            obtain ⟨ew, _, S⟩ := wstate_blank_open hst hr
            subst ew
            have hwl := hst.1
            have f1 : (f : Int) ≤ pos := by omega
            have f2 : (pos : Int) ≤ s.size := by omega
            have ex : Hid (s.extract f pos = ⟨((((bytesOf s)).take pos).drop f).toArray⟩) := extract_eq s f pos
            have hne2 := row_iter_ne own2 hit2
            clear hst hr hz2'
            rcases ib with _ | _
            all_goals
              go_wp2_with (at_builtin; refine wpList_append_own _ rfl _ _ _ rfl w.heap.size 9 i0 _ 1 16 Tryd.underlying49 hi hz0 hz1 hz2 rfl (by decide) _ ws.length (ws.map strV) rfl (own2.alloc _) ⟨w2.heap.size, 0, none⟩ 1 1 [.string (s.extract f pos)] rfl rfl ?c1 ?c2 ?c3 ?c4 ?c5 ?_)
              case c1 => intro j u hj; match j, hj with | 0, hj => simp at hj; subst hj; simp [Addr.add]
              case c2 => intro u hu; simp at hu; subst hu; rfl
              case c3 => unfold maxLen; omega
              case c4 => omega
              case c5 => have := HZ.out; simp; omega
              intro v' w5 own5 hgrow _
              have ec : ws.map strV ++ [.string (s.extract f pos)] = (ws ++ [((bytesOf s).take pos).drop f]).map strV := by rw [List.map_append, ex.out]; rfl
              rw [ec] at own5
              have hit5 : w5.heap[w.heap.size]? = some (.stringIter s (pos + 1)) := by
                rw [hgrow.block w.heap.size (by have := (Array.getElem?_eq_some_iff.1 hit2).1; simp; omega) (fun e => hne2 e.symm), Below.heap_alloc w2 _ w.heap.size (Array.getElem?_eq_some_iff.1 hit2).1]
                exact hit2
              have hb5 := (hb2.alloc (by have := HZ.out; omega) (.cells #[.string (s.extract f pos)] 9)).grown hgrow (by have := HZ.out; simp; omega) (fun k hk => (own2.lt k hk).1)
              clear hgrow
              go_wp2_with fail
              go_roundg (s.size - (pos + 1))
              case measure => omega
              case rel => exact ⟨pos + 1, _, -1, hit5, by rw [List.length_append]; exact own5, hb5, by rw [hd1.out, EI.out]; rfl, by rw [hd1.out, ED.out]; rfl, rfl, S, hle, Nat.le_refl _⟩
          · have S := wstate_word_on hst hr c1
            have e1 : ((c : Int) == 32) = false := by simp; omega
            clear hst hr hz2' c1
            by_cases c2 : c = 183
            · subst c2
              rcases ib with _ | _
              all_goals
                go_wp2_with fail
                go_roundg (s.size - (pos + wd))
                case measure => omega
                case rel => exact ⟨pos + wd, ws, (f : Nat), hit2, own2, hb2, by rw [hd1.out, EI.out]; rfl, by rw [hd1.out, ED.out]; rfl, rfl, S, hle, Nat.le_refl _⟩
            · have e2 : ((c : Int) == 183) = false := by simp; omega
              clear c2
              rcases ib with _ | _
              all_goals
                go_wp2_with fail
                go_roundg (s.size - (pos + wd))
                case measure => omega
                case rel => exact ⟨pos + wd, ws, (f : Nat), hit2, own2, hb2, by rw [hd1.out, EI.out]; rfl, by rw [hd1.out, ED.out]; rfl, rfl, S, hle, Nat.le_refl _⟩
    · have hnx : ∀ ty, (Instr.next (.pointer (some ⟨w.heap.size, 0, none⟩)) true ty).run Tryd.prog wr = _ := fun ty => Lib.run_next_end_at wr w.heap.size s pos ty hit hp
      have hfl : (decide (0 < pos) && Tk.inner (bytesOf s)) = Tk.inner (bytesOf s) ∧ (decide (0 < pos) && Tk.dotted (bytesOf s)) = Tk.dotted (bytesOf s) := by
        rcases Nat.eq_zero_or_pos pos with h0 | h0
        · have h1 : bytesOf s = [] := List.eq_nil_of_length_eq_zero (by have := HLEN.out; omega)
          rw [h1]
          exact ⟨by simp [Tk.inner, Tk.dotted], by simp [Tk.dotted]⟩
        · rw [decide_eq_true h0]
          exact ⟨rfl, rfl⟩
      rw [hfl.1, hfl.2]
      clear hfl
      have hl1 : (bytesOf s).length ≤ pos := by have := HLEN.out; omega
      have hl2 : pos ≤ (bytesOf s).length := by have := HLEN.out; omega
      obtain ⟨ib, eib⟩ : ∃ ib, Tk.inner (bytesOf s) = ib := ⟨_, rfl⟩
      obtain ⟨db, edb⟩ : ∃ db, Tk.dotted (bytesOf s) = db := ⟨_, rfl⟩
      rw [eib, edb]
      have EI := Lib.hid eib
      have ED := Lib.hid edb
      clear eib edb
      rcases wstate_from hst with hfr | ⟨f, hfr, hf⟩
      · subst hfr
        have S := Lib.hid (wstate_end_shut hst hl1)
        clear hst hl1 hl2
        go_wp2_with fail
        refine bodyPost_ret (v := .tuple #[_, .bool ib, .bool db]) (by simp [results, Tryd.results38, go_sem]; rfl) rfl ?_
        unfold WordsPost
        rw [← S.out, EI.out, ED.out]
        exact ⟨_, rfl, own, hb⟩
      · subst hfr
        obtain ⟨S0, hf2⟩ := wstate_end_open hst hl1 hl2
        have S := Lib.hid S0
        have hwl := hst.1
        have f1 : (f : Int) ≤ s.size := by omega
        have ex : Hid (s.extract f s.size = ⟨((bytesOf s).drop f).toArray⟩) := extract_end s f
        clear hst hl1 hl2 S0 hf2
        go_wp2_with (at_builtin; refine wpList_append_own _ rfl _ _ _ rfl w.heap.size 9 i0 _ 1 16 Tryd.underlying49 hi hz0 hz1 hz2 rfl (by decide) _ ws.length (ws.map strV) rfl (own.alloc _) ⟨wr.heap.size, 0, none⟩ 1 1 [.string (s.extract f s.size)] rfl rfl ?c1 ?c2 ?c3 ?c4 ?c5 ?_)
        case c1 => intro j u hj; match j, hj with | 0, hj => simp at hj; subst hj; simp [Addr.add]
        case c2 => intro u hu; simp at hu; subst hu; rfl
        case c3 => unfold maxLen; omega
        case c4 => omega
        case c5 => simp; omega
        intro v' w5 own5 hgrow _
        have ec : ws.map strV ++ [.string (s.extract f s.size)] = (ws ++ [(bytesOf s).drop f]).map strV := by rw [List.map_append, ex.out]; rfl
        rw [ec] at own5
        have hb5 := (hb.alloc (by omega) (.cells #[.string (s.extract f s.size)] 9)).grown hgrow (by simp; omega) (fun k hk => (own.lt k hk).1)
        clear hgrow
        go_wp2_with fail
        refine bodyPost_ret (v := .tuple #[v', .bool ib, .bool db]) (by simp [results, Tryd.results38, go_sem]) rfl ?_
        unfold WordsPost
        rw [← S.out, EI.out, ED.out]
        exact ⟨_, rfl, by rw [List.length_append]; exact own5, hb5⟩
end Go.Proofs.YtadcfedjmofjjaaDoor
