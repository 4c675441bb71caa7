/-
  The document's lexer: a number.
-/
import Derived.Test.YtoidmljhlekbkaaDoorR3
import Derived.Test.YtoidmljhlekbkaaDoorPlain2
namespace Go.Proofs.YtoidmljhlekbkaaDoor
open Go.RowKit
theorem byte_rune {s : ByteArray} {l : List Int} {cut : Bool} (h : Src s l cut) (i : Nat) (hi : i ≤ l.length) (hp : pos s i < s.size) (hb : byteAt s (pos s i) 0 < 128) :
    i < l.length ∧ l.getD i (-1) = byteAt s (pos s i) 0 ∧ pos s (i + 1) = pos s i + 1 := by
  have hg := byteAt_get s (pos s i) 0 hp
  have e : (s[pos s i]'hp).toNat = byteAt s (pos s i) 0 := hg
  have hd : Utf8.decode s (pos s i) = (byteAt s (pos s i) 0, 1) := by rw [decode_ascii s _ hp (by omega), e]
  have hlt : i < l.length := by
    rcases Nat.lt_or_ge i l.length with h1 | h1
    · exact h1
    · obtain rfl : i = l.length := by omega
      cases hc : cut
      · have := h.end0 hc; omega
      · have := (h.end1 hc).2
        rw [hd] at this
        have := congrArg Prod.fst this
        simp at this
        omega
  refine ⟨hlt, ?_, by rw [pos, hd]⟩
  rw [← h.rune i hlt, hd]
theorem rune_byte {s : ByteArray} {l : List Int} {cut : Bool} (h : Src s l cut) (i : Nat) (hi : i < l.length) (hb : l.getD i (-1) < 128) :
    pos s i < s.size ∧ (byteAt s (pos s i) 0 : Int) = l.getD i (-1) ∧ pos s (i + 1) = pos s i + 1 := by
  have hp := h.lt i hi
  have hr := h.rune i hi
  have hg := byteAt_get s (pos s i) 0 hp
  have e : (s[pos s i]'hp).toNat = byteAt s (pos s i) 0 := hg
  by_cases h128 : byteAt s (pos s i) 0 < 128
  · obtain ⟨_, b, c⟩ := byte_rune h i (by omega) hp h128
    exact ⟨hp, b.symm, c⟩
  · exfalso
    have := (decode_high s _ hp (by omega)).1
    omega
theorem hex_low (c : Int) (h : 0 ≤ Lx.hex c) : 0 ≤ c ∧ c < 128 := by
  unfold Lx.hex at h
  repeat' split at h
  all_goals omega
theorem peek_getD (x : Lx.St) (k : Nat) : x.peek k = x.l.getD (x.at_ + k) (-1) := rfl
theorem getD_neg (l : List Int) (i : Nat) (h : 0 ≤ l.getD i (-1)) : i < l.length := by
  rcases Nat.lt_or_ge i l.length with h1 | h1
  · exact h1
  · rw [List.getD_eq_getElem?_getD, List.getElem?_eq_none h1] at h
    exact absurd h (by decide)
theorem hex_head {s : ByteArray} {x : Lx.St} (h : Src s x.l x.cut) (h48 : x.peek 0 = 48) :
    (pos s x.at_ + 2 < s.size ∧ byteAt s (pos s x.at_ + 1) 0 = 120 ∧ 0 ≤ Lx.hex (byteAt s (pos s x.at_ + 2) 0)) ↔ (x.peek 1 = 120 ∧ 0 ≤ Lx.hex (x.peek 2)) := by
  have l0 : x.at_ < x.l.length := getD_neg _ (x.at_ + 0) (by rw [← peek_getD, h48]; decide)
  have h0 : x.l.getD x.at_ (-1) = 48 := h48
  obtain ⟨_, _, p1⟩ := rune_byte h x.at_ l0 (by omega)
  rw [peek_getD, peek_getD]
  constructor
  · rintro ⟨a, b, c⟩
    obtain ⟨l1, r1, p2⟩ := byte_rune h (x.at_ + 1) (by omega) (by rw [p1]; omega) (by rw [p1]; omega)
    rw [p1] at r1 p2
    obtain ⟨l2, r2, _⟩ := byte_rune h (x.at_ + 2) (by omega) (by rw [p2]; exact a) (by rw [p2]; show byteAt s (pos s x.at_ + 2) 0 < 128; have := hex_low _ c; omega)
    rw [p2] at r2
    exact ⟨by rw [r1, b]; rfl, by rw [r2]; exact c⟩
  · rintro ⟨a, c⟩
    have l1 := getD_neg _ _ (show 0 ≤ x.l.getD (x.at_ + 1) (-1) by rw [a]; decide)
    obtain ⟨q1, r1, p2⟩ := rune_byte h (x.at_ + 1) l1 (by omega)
    rw [p1] at r1 p2
    have c' := hex_low _ c
    have l2 := getD_neg _ _ c'.1
    obtain ⟨q2, r2, _⟩ := rune_byte h (x.at_ + 2) l2 c'.2
    rw [show pos s (x.at_ + 2) = pos s x.at_ + 2 from p2] at q2 r2
    exact ⟨q2, by omega, by rw [r2]; exact c⟩
end Go.Proofs.YtoidmljhlekbkaaDoor
