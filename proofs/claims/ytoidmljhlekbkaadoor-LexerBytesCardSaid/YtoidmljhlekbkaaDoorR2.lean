/-
  Where a source's runes stand among its bytes.
-/
import Derived.Test.YtoidmljhlekbkaaDoorR1
import Derived.Test.YtoidmljhlekbkaaDoorW10
import Derived.Lib.MapLaws
namespace Go.Proofs.YtoidmljhlekbkaaDoor
open Go.RowKit
def pos (s : ByteArray) : Nat → Nat
  | 0 => 0
  | i + 1 => pos s i + (Utf8.decode s (pos s i)).2
/-- The runes of a source, where each stands, and how it ends. -/
structure Src (s : ByteArray) (l : List Int) (cut : Bool) : Prop where
  lt : ∀ i, i < l.length → pos s i < s.size
  rune : ∀ i, i < l.length → ((Utf8.decode s (pos s i)).1 : Int) = l.getD i (-1)
  good : ∀ i, i < l.length → Utf8.decode s (pos s i) ≠ (65533, 1)
  end1 : cut = true → pos s l.length < s.size ∧ Utf8.decode s (pos s l.length) = (65533, 1)
  end0 : cut = false → pos s l.length = s.size
theorem decodeN_fits (n a b c d : Nat) (h : 0 < n) : (Lib.decodeN n a b c d).2 ≤ n := by
  unfold Lib.decodeN
  repeat' split
  all_goals (simp only []; omega)
theorem decode_fits (s : ByteArray) (i : Nat) (h : i < s.size) : i + (Utf8.decode s i).2 ≤ s.size := by
  rw [Lib.decode_at]
  have := decodeN_fits (s.size - i) (s.get! i).toNat (s.get! (i + 1)).toNat (s.get! (i + 2)).toNat (s.get! (i + 3)).toNat (by omega)
  omega
theorem decodeGo_src (s : ByteArray) (f : Nat) : ∀ i base, pos s base = i → i ≤ s.size → s.size < i + f →
    (∀ k, k < (Lx.decodeGo s f i).1.length → pos s (base + k) < s.size ∧ ((Utf8.decode s (pos s (base + k))).1 : Int) = (Lx.decodeGo s f i).1.getD k (-1) ∧ Utf8.decode s (pos s (base + k)) ≠ (65533, 1)) ∧
    ((Lx.decodeGo s f i).2 = true → pos s (base + (Lx.decodeGo s f i).1.length) < s.size ∧ Utf8.decode s (pos s (base + (Lx.decodeGo s f i).1.length)) = (65533, 1)) ∧
    ((Lx.decodeGo s f i).2 = false → pos s (base + (Lx.decodeGo s f i).1.length) = s.size) := by
  induction f with
  | zero => intro i base _ h1 h2; omega
  | succ f ih =>
    intro i base hp h1 h2
    unfold Lx.decodeGo
    by_cases hs : s.size ≤ i
    · rw [if_pos hs]
      refine ⟨fun k hk => by simp at hk, fun h => by simp at h, fun _ => ?_⟩
      show pos s (base + 0) = _
      rw [Nat.add_zero, hp]
      omega
    · rw [if_neg hs]
      simp only []
      by_cases hc : (Utf8.decode s i).1 = 65533 ∧ (Utf8.decode s i).2 = 1
      · rw [if_pos hc]
        refine ⟨fun k hk => by simp at hk, fun _ => ?_, fun h => by simp at h⟩
        show pos s (base + 0) < _ ∧ Utf8.decode s (pos s (base + 0)) = _
        rw [Nat.add_zero, hp]
        exact ⟨by omega, Prod.ext hc.1 hc.2⟩
      · rw [if_neg hc]
        have hw := decode_width s i (by omega)
        have hf := decode_fits s i (by omega)
        have hp1 : pos s (base + 1) = i + (Utf8.decode s i).2 := by rw [pos, hp]
        obtain ⟨a, b, c⟩ := ih (i + (Utf8.decode s i).2) (base + 1) hp1 hf (by omega)
        refine ⟨fun k hk => ?_, fun h => ?_, fun h => ?_⟩
        · cases k with
          | zero =>
            rw [Nat.add_zero, hp]
            exact ⟨by omega, rfl, fun e => hc ⟨congrArg Prod.fst e, congrArg Prod.snd e⟩⟩
          | succ k =>
            have := a k (by simpa using hk)
            rw [show base + 1 + k = base + (k + 1) by omega] at this
            exact this
        · have := b h
          rw [show base + 1 + (Lx.decodeGo s f (i + (Utf8.decode s i).2)).1.length = base + ((Lx.decodeGo s f (i + (Utf8.decode s i).2)).1.length + 1) by omega] at this
          exact this
        · have := c h
          rw [show base + 1 + (Lx.decodeGo s f (i + (Utf8.decode s i).2)).1.length = base + ((Lx.decodeGo s f (i + (Utf8.decode s i).2)).1.length + 1) by omega] at this
          exact this
theorem src_start (s : ByteArray) : Src s (Lx.start s).l (Lx.start s).cut := by
  obtain ⟨a, b, c⟩ := decodeGo_src s (s.size + 1) 0 0 rfl (Nat.zero_le _) (by omega)
  simp only [Nat.zero_add] at a b c
  exact ⟨fun i h => (a i h).1, fun i h => (a i h).2.1, fun i h => (a i h).2.2, b, c⟩
theorem pos_le {s : ByteArray} {l : List Int} {cut : Bool} (h : Src s l cut) (i : Nat) (hi : i ≤ l.length) : pos s i ≤ s.size := by
  cases i with
  | zero => exact Nat.zero_le _
  | succ i => exact decode_fits s _ (h.lt i (by omega))
theorem pos_lt_succ {s : ByteArray} {l : List Int} {cut : Bool} (h : Src s l cut) (i : Nat) (hi : i < l.length) : pos s i < pos s (i + 1) := by
  have := decode_width s _ (h.lt i hi)
  rw [pos]
  omega
theorem pos_mono {s : ByteArray} {l : List Int} {cut : Bool} (h : Src s l cut) (j : Nat) : ∀ i, i ≤ j → j ≤ l.length → pos s i ≤ pos s j := by
  induction j with
  | zero => intro i hi _; obtain rfl : i = 0 := by omega
            exact Nat.le_refl _
  | succ j ih =>
    intro i hi hj
    by_cases e : i = j + 1
    · subst e; exact Nat.le_refl _
    · have := ih i (by omega) (by omega)
      have := pos_lt_succ h j (by omega)
      omega
theorem runeOf_decode (s : ByteArray) (i : Nat) (h : i < s.size) : runeOf s i = if Utf8.decode s i = (65533, 1) then (0, 0) else Utf8.decode s i := by
  unfold runeOf
  rw [refRune_decodeN _ _ (byteAt_lt s i) (by omega), Lib.decode_at]
  rfl
end Go.Proofs.YtoidmljhlekbkaaDoor
