/-
  The walk of the lexer's decoding of a source into runes.
-/
import Derived.Test.YtoidmljhlekbkaaDoorLex
import Derived.Test.YtoidmljhlekbkaaDoorShelf
import Derived.Test.YtoidmljhlekbkaaDoorW1
import Derived.Lib.OthersKept
import Derived.Lib.RuneCountTail
import Derived.Deep.AppendLies
import Derived.Deep.LoopGhost
import Derived.Lib.Hide
namespace Go.Proofs.YtoidmljhlekbkaaDoor
open Go.RowKit
theorem info21 : (Tryd.prog.info? 21).map (fun i => (i.zero, i.size, i.bytes)) = some (some (.int .i32 0), 1, 4) := by kernel_rfl
theorem decode_le' (s : ByteArray) (pos : Nat) : (Utf8.decode s pos).1 ≤ 1114111 := by
  have hb : ∀ k, (s.get! (pos + k)).toNat < 256 := fun k => (s.get! (pos + k)).toNat_lt
  have h0 := hb 0; have h1 := hb 1; have h2 := hb 2; have h3 := hb 3
  simp only [Utf8.decode]
  repeat' split
  all_goals simp_all [Utf8.runeError, Utf8.valid]
  all_goals omega
theorem decode_width (s : ByteArray) (pos : Nat) (h : pos < s.size) : 1 ≤ (Utf8.decode s pos).2 := by
  by_cases ha : (s[pos]'h).toNat < 128
  · rw [decode_ascii s pos h ha]
    exact Nat.le_refl _
  · exact (decode_high s pos h (by omega)).2
theorem tabs_below {w w' : World} {B : Nat} (h : Lib.Utf8Tabs 0 1 w) (hb : Below B w w') (hB : 2 ≤ B) : Lib.Utf8Tabs 0 1 w' :=
  ⟨fun c hc => (hb.cell (p := ⟨0, c, none⟩) (by show 0 < B; omega)).trans (h.1 c hc), fun i hi => ⟨(hb.cell (p := ⟨1, 2 * i, none⟩) (by show 1 < B; omega)).trans (h.2 i hi).1, (hb.cell (p := ⟨1, 2 * i + 1, none⟩) (by show 1 < B; omega)).trans (h.2 i hi).2⟩⟩
theorem row_kept' {w : World} {base : Nat} {e t : TypeId} {size : Nat} {v : Value} {n : Nat} {xs : List Value} {g : Nat} {cs : Array Value} (h : w.ownsRow base e size v n xs) (hg : Whole w g t cs) (hne : e ≠ t) (i : Nat) (u : Value) :
    (w.setCell ⟨g, i, none⟩ u).ownsRow base e size v n xs :=
  row_same h fun k hk => Below.heap_setCell _ _ _ _ fun e => row_whole_ne h hg hne (by rw [hk, e])
theorem decode_fit (s : ByteArray) (pos : Nat) (h : pos < s.size) : pos + (Utf8.decode s pos).2 ≤ s.size := by
  simp only [Utf8.decode]
  repeat' split
  all_goals simp_all
  all_goals omega
def lexCells (s : ByteArray) (L : Value) (cut : Bool) : Array Value := #[.string s, L, .int .i64 0, .int .i64 1, .int .i64 1, .slice none 0 0, .pointer none, .bool cut]
/-- What the decoding loop leaves. -/
def DecRel (w0 : World) (B it p : Nat) (s : ByteArray) (k : Nat) (wr : World) : Prop :=
  ∃ L acc pos f, Whole wr p 50 (lexCells s L false) ∧ wr.ownsRow B 21 1 L acc.length (runeVals acc) ∧ wr.heap[it]? = some (.stringIter s pos) ∧ Below B w0 wr ∧ (∀ r ∈ acc, 0 ≤ r ∧ r ≤ 1114111) ∧
    Lx.decodeGo s (s.size + 1) 0 = (acc ++ (Lx.decodeGo s f pos).1, (Lx.decodeGo s f pos).2) ∧ acc.length ≤ pos ∧ pos ≤ s.size ∧ s.size + 1 ≤ pos + f ∧ s.size - pos ≤ k
theorem decode_any {w : World} {B p : Nat} (s : ByteArray) (hs : s.size ≤ 65536) (hp : B ≤ p) (hB : 2 ≤ B) (hT : Lib.Utf8Tabs 0 1 w) (blk : Whole w p 50 (lexCells s (.slice none 0 0) false)) :
    Calls Tryd.prog 17 #[.pointer (some ⟨p, 0, none⟩)] w fun e w' => e = .returned (.tuple #[]) ∧ (∃ L, Lex w' B w'.heap.size p s (Lx.start s) L (.slice none 0 0) none) ∧ Below B w w' ∧ ∀ r ∈ (Lx.start s).l, 0 ≤ r ∧ r ≤ 1114111 := by
  have hlt := blk.lt
  have c0 := blk.cell 0
  simp [lexCells] at c0
  obtain ⟨i0, hi, hz0, hz1, hz2⟩ := info_parts info21
  go_enter Tryd.func17, Tryd.ntmps17
  go_wp2_with fail
  go_loopg [] s.size (fun k wr => DecRel w B w.heap.size p s k wr)
  case atStart =>
    refine ⟨.slice none 0 0, [], 0, s.size + 1, blk.alloc _, World.ownsRow_nil _ _ _ _, ?_, (Below.refl _ _).alloc (by omega) _, by simp, by simp, by simp, by omega, by omega, by omega⟩
    exact World.iter_heap w s 0
  case round =>
    obtain ⟨L, acc, pos, f, hb, hown, hit, bw, hr, he, hl, hps, hf, hk⟩ := hrel
    have zit : w.heap.size < wr.heap.size := (Array.getElem?_eq_some_iff.1 hit).1
    by_cases hlp : pos < s.size
    · obtain ⟨⟨R, K⟩, hRK⟩ : ∃ rk, Utf8.decode s pos = rk := ⟨_, rfl⟩
      have hK1 := decode_width s pos hlp
      have hR1 := decode_le' s pos
      have hnx : ∀ ty, (Instr.next (.pointer (some ⟨w.heap.size, 0, none⟩)) true ty).run Tryd.prog wr = .ok (.tuple #[.bool true, .int .i64 pos, .int .i32 (R : Nat)]) (wr.iterAt w.heap.size s (pos + K)) := by
        intro ty
        rw [Lib.run_next_any_at wr w.heap.size s pos ty hit hlp, hRK]
      have hd : Lib.decodeGo (s.extract pos s.size) = (R, K) := by
        unfold Lib.decodeGo
        rw [if_neg (by simp [ByteArray.size_extract]; omega), Lib.tail_decode, Nat.add_zero, hRK]
      rw [hRK] at hK1 hR1
      dsimp only at hK1 hR1
      have hb2 : Whole (wr.iterAt w.heap.size s (pos + K)) p 50 (lexCells s L false) := hb.same (Lib.iterAt_other _ _ _ _ _ (by omega))
      have hit2 := Lib.iterAt_heap wr w.heap.size s pos (pos + K) hit
      have bw2 := Lib.below_iterAt bw (k := w.heap.size) (by omega) s (pos + K)
      have hown2 : (wr.iterAt w.heap.size s (pos + K)).ownsRow B 21 1 L acc.length (runeVals acc) := row_same hown fun k hk => Lib.iterAt_other _ _ _ _ _ (by
        rintro rfl
        rcases hown.2 with ⟨rfl, _⟩ | ⟨g, _, _, rfl, _, hg, _⟩
        · simp [Value.ownBlock] at hk
        · simp [Value.ownBlock] at hk
          rw [hk, hit] at hg
          cases hg)
      have z2 : w.heap.size < (wr.iterAt w.heap.size s (pos + K)).heap.size := by rw [Lib.iterAt_size]; exact zit
      have cD : Calls Tryd.prog 29 #[.string (s.extract pos s.size)] (wr.iterAt w.heap.size s (pos + K)) fun e w' => e = .returned (.tuple #[.int .i32 R, .int .i64 K]) ∧ Below (wr.iterAt w.heap.size s (pos + K)).heap.size (wr.iterAt w.heap.size s (pos + K)) w' := by
        have := Tryd.utf8_DecodeRuneInString (s.extract pos s.size) (wr.iterAt w.heap.size s (pos + K)) (tabs_below hT bw2 hB)
        rw [hd] at this
        exact this
      generalize hW : wr.iterAt w.heap.size s (pos + K) = W at *
      have HW := Lib.hid hW
      have Hit := Lib.hid hit
      have HRK := Lib.hid hRK
      have Hd := Lib.hid hd
      clear hW hit hRK hd
      have d0 := hb2.cell 0
      simp [lexCells] at d0
      have hps2 : (pos : Int) ≤ s.size := by omega
      obtain ⟨f', rfl⟩ : ∃ f', f = f' + 1 := ⟨f - 1, by omega⟩
      have step : Hid (Lx.decodeGo s (f' + 1) pos = if R = 65533 ∧ K = 1 then ([], true) else ((R : Int) :: (Lx.decodeGo s f' (pos + K)).1, (Lx.decodeGo s f' (pos + K)).2)) := by
        show Lx.decodeGo s (f' + 1) pos = _
        rw [Lx.decodeGo]
        simp only [HRK.out]
        rw [if_neg (by omega)]
      have hw3 : ∀ w3, Below W.heap.size W w3 → Whole w3 p 50 (lexCells s L false) ∧ w3.ownsRow B 21 1 L acc.length (runeVals acc) ∧ w3.heap[w.heap.size]? = some (.stringIter s (pos + K)) ∧ Below B w w3 := by
        intro w3 b3
        exact ⟨hb2.same (b3.block p hb2.lt), row_same hown2 fun k hk => b3.block k (hown2.lt k hk).2, (b3.block _ z2).trans hit2, bw2.trans (b3.mono (by omega))⟩
      have HW3 := Lib.hid hw3
      clear hw3
      by_cases hbad : R = 65533 ∧ K = 1
      · obtain ⟨rfl, rfl⟩ := hbad
        rw [if_pos ⟨rfl, rfl⟩] at step
        have st : Hid (Lx.start s = { l := acc, at_ := 0, line := 1, col := 1, out := [], bad := none, cut := true }) := by
          show Lx.start s = _
          unfold Lx.start
          simp only [he, step.out, List.append_nil]
        go_wp2_with fail
        refine cD.mono ?_
        rintro e w3 ⟨rfl, b3⟩
        obtain ⟨hb3, hown3, hit3, bw3⟩ := HW3.out w3 b3
        have d6 := hb3.frozen 7
        have d7 := hb3.cell 7
        simp [lexCells] at d7
        go_wp2_with fail
        refine bodyPost_ret (results_none rfl _ _ _) rfl ?_
        rw [st.out]
        refine ⟨rfl, ⟨L, ⟨hp, Nat.le_refl _, ?_, hb3.put 7 _, ?_, ?_, World.ownsRow_nil _ _ _ _, ?_, rfl⟩⟩, bw3.setCell hp _, hr⟩
        · have := hb3.lt
          simp [World.setCell]; exact this
        · exact row_kept' hown3 hb3 (by decide) _ _
        · intro k hk
          have := (hown3.lt k hk).2
          simp [World.setCell]; exact this
        · intro k hk
          simp [Value.ownBlock] at hk
      · rw [if_neg hbad] at step
        have hR0 : (0 : Int) ≤ (R : Int) := by omega
        have hx : Hid (Lx.decodeGo s (s.size + 1) 0 = ((acc ++ [(R : Int)]) ++ (Lx.decodeGo s f' (pos + K)).1, (Lx.decodeGo s f' (pos + K)).2)) := by
          show Lx.decodeGo s (s.size + 1) 0 = _
          rw [he, step.out]
          simp
        have hpk : pos + K ≤ s.size := by
          have := decode_fit s pos hlp
          rw [HRK.out] at this
          exact this
        by_cases hR : R = 65533
        · subst hR
          have e1 : ((K : Int) == 1) = false := by simp; omega
          have e2 : (K == 1) = false := by simp; omega
          clear hbad
          go_wp2_with fail
          refine cD.mono ?_
          rintro e w3 ⟨rfl, b3⟩
          obtain ⟨hb3, hown3, hit3, bw3⟩ := HW3.out w3 b3
          have d1 := hb3.cell 1
          have hl3 := hb3.lt
          have hne := row_whole_ne hown3 hb3 (by decide)
          simp [lexCells] at d1
          go_wp2_with (at_builtin; refine wpList_append_lies _ rfl _ _ _ rfl B 21 i0 _ 1 4 Tryd.underlying47 hi hz0 hz1 hz2 rfl (by omega) L acc.length (runeVals acc) rfl (hown3.alloc _) ⟨w3.heap.size, 0, none⟩ 1 1 [.int .i32 65533] rfl rfl ?c1 ?c2 ?c3 ?c4 ?c5 ?c6 (w3.heap.size + 1) (by simp) ?_)
          case c1 => intro j u hj; match j, hj with | 0, hj => simp at hj; subst hj; simp [Addr.add]
          case c2 => intro u hu; simp at hu; subst hu; rfl
          case c3 => omega
          case c4 => unfold maxLen; omega
          case c5 => omega
          case c6 => simp; omega
          intro gg cap w4 hown4 hgrow hat hlt4
          have b4 := Whole.grown (hb3.alloc _) hgrow hne
          have k5 := b4.cell 1
          have f5 := b4.frozen 1
          simp [lexCells] at k5
          go_wp2_with fail
          go_roundg (s.size - (pos + K))
          case measure => omega
          case rel =>
            have hnit : L.ownBlock ≠ some w.heap.size := by
              intro e
              rcases hown3.2 with ⟨rfl, _⟩ | ⟨g, _, _, rfl, _, hg, _⟩
              · simp [Value.ownBlock] at e
              · simp [Value.ownBlock] at e
                rw [e, hit3] at hg
                cases hg
            have zit3 : w.heap.size < w3.heap.size := (Array.getElem?_eq_some_iff.1 hit3).1
            refine ⟨.slice (some ⟨gg, 0, none⟩) (acc.length + 1) cap, acc ++ [65533], pos + K, f', b4.put 1 _, ?_, ?_, ?_, ?_, hx.out, by simp; omega, hpk, by omega, Nat.le_refl _⟩
            · have h5 := row_kept' hown4 b4 (by decide) 1 (.slice (some ⟨gg, 0, none⟩) (acc.length + 1) cap)
              simpa [runeVals] using h5
            · rw [Below.heap_setCell _ _ _ _ (by show w.heap.size ≠ p; omega), hgrow.block _ (by simp; omega) (fun e => hnit e.symm), Below.heap_alloc _ _ _ zit3]
              exact hit3
            · exact ((bw3.alloc (by omega) _).grown hgrow (by simp; omega) (fun k hk => (hown3.lt k hk).1)).setCell hp _
            · intro r hr'
              rcases List.mem_append.1 hr' with h5 | h5
              · exact hr r h5
              · simp at h5; subst h5; exact ⟨by omega, by omega⟩
        · have e1 : ((R : Int) == 65533) = false := by simp; omega
          have e2 : (R == 65533) = false := by simp; omega
          clear hbad hR
          go_wp2_with fail
          refine cD.mono ?_
          rintro e w3 ⟨rfl, b3⟩
          obtain ⟨hb3, hown3, hit3, bw3⟩ := HW3.out w3 b3
          have d1 := hb3.cell 1
          have hl3 := hb3.lt
          have hne := row_whole_ne hown3 hb3 (by decide)
          simp [lexCells] at d1
          go_wp2_with (at_builtin; refine wpList_append_lies _ rfl _ _ _ rfl B 21 i0 _ 1 4 Tryd.underlying47 hi hz0 hz1 hz2 rfl (by omega) L acc.length (runeVals acc) rfl (hown3.alloc _) ⟨w3.heap.size, 0, none⟩ 1 1 [.int .i32 (R : Int)] rfl rfl ?c1 ?c2 ?c3 ?c4 ?c5 ?c6 (w3.heap.size + 1) (by simp) ?_)
          case c1 => intro j u hj; match j, hj with | 0, hj => simp at hj; subst hj; simp [Addr.add]
          case c2 => intro u hu; simp at hu; subst hu; rfl
          case c3 => omega
          case c4 => unfold maxLen; omega
          case c5 => omega
          case c6 => simp; omega
          intro gg cap w4 hown4 hgrow hat hlt4
          have b4 := Whole.grown (hb3.alloc _) hgrow hne
          have k5 := b4.cell 1
          have f5 := b4.frozen 1
          simp [lexCells] at k5
          go_wp2_with fail
          go_roundg (s.size - (pos + K))
          case measure => omega
          case rel =>
            have hnit : L.ownBlock ≠ some w.heap.size := by
              intro e
              rcases hown3.2 with ⟨rfl, _⟩ | ⟨g, _, _, rfl, _, hg, _⟩
              · simp [Value.ownBlock] at e
              · simp [Value.ownBlock] at e
                rw [e, hit3] at hg
                cases hg
            have zit3 : w.heap.size < w3.heap.size := (Array.getElem?_eq_some_iff.1 hit3).1
            refine ⟨.slice (some ⟨gg, 0, none⟩) (acc.length + 1) cap, acc ++ [(R : Int)], pos + K, f', b4.put 1 _, ?_, ?_, ?_, ?_, hx.out, by simp; omega, hpk, by omega, Nat.le_refl _⟩
            · have h5 := row_kept' hown4 b4 (by decide) 1 (.slice (some ⟨gg, 0, none⟩) (acc.length + 1) cap)
              simpa [runeVals] using h5
            · rw [Below.heap_setCell _ _ _ _ (by show w.heap.size ≠ p; omega), hgrow.block _ (by simp; omega) (fun e => hnit e.symm), Below.heap_alloc _ _ _ zit3]
              exact hit3
            · exact ((bw3.alloc (by omega) _).grown hgrow (by simp; omega) (fun k hk => (hown3.lt k hk).1)).setCell hp _
            · intro r hr'
              rcases List.mem_append.1 hr' with h5 | h5
              · exact hr r h5
              · simp at h5; subst h5; exact ⟨by omega, by omega⟩
    · have hd0 : Lx.decodeGo s f pos = ([], false) := by
        cases f with
        | zero => rfl
        | succ f => rw [Lx.decodeGo, if_pos (by omega)]
      have st : Hid (Lx.start s = { l := acc, at_ := 0, line := 1, col := 1, out := [], bad := none, cut := false }) := by
        show Lx.start s = _
        unfold Lx.start
        simp only [he, hd0, List.append_nil]
      have hnx : ∀ ty, (Instr.next (.pointer (some ⟨w.heap.size, 0, none⟩)) true ty).run Tryd.prog wr = _ := fun ty => Lib.run_next_end_at wr w.heap.size s pos ty hit hlp
      have HE := Lib.hid he
      have Hit := Lib.hid hit
      clear he hd0 hit
      go_wp2_with fail
      (first | go_end0 | refine bodyPost_ret (results_none rfl _ _ _) rfl ?_)
      rw [st.out]
      exact ⟨rfl, ⟨L, ⟨hp, Nat.le_refl _, hb.lt, hb, hown, fun k hk => (hown.lt k hk).2, World.ownsRow_nil _ _ _ _, fun k hk => by simp [Value.ownBlock] at hk, rfl⟩⟩, bw, hr⟩
end Go.Proofs.YtoidmljhlekbkaaDoor
