/-
  Bits that are no field's; how a text begins; immediates with a sign. No program is named here.
-/
import Derived.Test.YtmfldcacjpligaaDoorP3
namespace Go.Proofs.YtmfldcacjpligaaDoor
namespace Is
theorem flip_low {w : Int} (k m : Nat) (hk : k < m) (h0 : 0 ≤ w) (h : w % 2 ^ m = 0) : flip w k = w + 2 ^ k := by
  unfold flip
  rw [if_pos]
  obtain ⟨q, rfl⟩ : ∃ q, w = 2 ^ m * q := ⟨w / 2 ^ m, by have := Int.emod_add_mul_ediv w (2 ^ m); omega⟩
  obtain ⟨d, rfl⟩ : ∃ d, m = k + 1 + d := ⟨m - k - 1, by omega⟩
  rw [Int.pow_add, Int.pow_succ, show (2 : Int) ^ k * 2 * 2 ^ d * q = 2 ^ k * (2 * (2 ^ d * q)) by rw [Int.mul_assoc, Int.mul_assoc], Int.mul_ediv_cancel_left _ (by have : (0 : Int) < 2 ^ k := Int.pow_pos (by decide); omega)]
  omega
theorem flip_R {i : Ins} {w : Int} (h : enc i = (w, 0)) (f : form i.op = 82) (k : Nat) (hk : k < 12) : decW (flip w k) = none ∧ 0 ≤ flip w k ∧ flip w k < 4294967296 := by
  obtain ⟨hd, h0, hl, ho⟩ := dec_enc h
  have hf : form (w / 16777216) = 82 := by rw [ho]; exact f
  have hz : w % 4096 = 0 := by
    unfold decW at hd
    dsimp only at hd
    rw [hf, if_pos rfl] at hd
    exact (ite_some hd).1
  have e := flip_low k 12 hk h0 hz
  have hp : (1 : Int) ≤ 2 ^ k ∧ (2 : Int) ^ k ≤ 2048 := by
    have hk' : k = 0 ∨ k = 1 ∨ k = 2 ∨ k = 3 ∨ k = 4 ∨ k = 5 ∨ k = 6 ∨ k = 7 ∨ k = 8 ∨ k = 9 ∨ k = 10 ∨ k = 11 := by omega
    rcases hk' with rfl | rfl | rfl | rfl | rfl | rfl | rfl | rfl | rfl | rfl | rfl | rfl <;> decide
  rw [e]
  generalize (2 : Int) ^ k = b at *
  refine ⟨?_, by omega, by omega⟩
  unfold decW
  dsimp only
  rw [show (w + b) / 16777216 = w / 16777216 by omega, hf, if_pos rfl, if_neg (by omega)]
theorem flip_N {i : Ins} {w : Int} (h : enc i = (w, 0)) (f : form i.op = 78) (k : Nat) (hk : k < 24) : decW (flip w k) = none ∧ 0 ≤ flip w k ∧ flip w k < 4294967296 := by
  obtain ⟨hd, h0, hl, ho⟩ := dec_enc h
  have hf : form (w / 16777216) = 78 := by rw [ho]; exact f
  have hz : w % 16777216 = 0 := by
    unfold decW at hd
    dsimp only at hd
    rw [hf, if_neg (by decide), if_neg (by decide), if_neg (by decide), if_neg (by decide), if_neg (by decide), if_neg (by decide), if_neg (by decide), if_pos rfl] at hd
    exact (ite_some hd).1
  have e := flip_low k 24 hk h0 hz
  have hp : (1 : Int) ≤ 2 ^ k ∧ (2 : Int) ^ k ≤ 8388608 := by
    have hk' : k = 0 ∨ k = 1 ∨ k = 2 ∨ k = 3 ∨ k = 4 ∨ k = 5 ∨ k = 6 ∨ k = 7 ∨ k = 8 ∨ k = 9 ∨ k = 10 ∨ k = 11 ∨ k = 12 ∨ k = 13 ∨ k = 14 ∨ k = 15 ∨ k = 16 ∨ k = 17 ∨ k = 18 ∨ k = 19 ∨ k = 20 ∨ k = 21 ∨ k = 22 ∨ k = 23 := by omega
    rcases hk' with rfl | rfl | rfl | rfl | rfl | rfl | rfl | rfl | rfl | rfl | rfl | rfl | rfl | rfl | rfl | rfl | rfl | rfl | rfl | rfl | rfl | rfl | rfl | rfl <;> decide
  rw [e]
  generalize (2 : Int) ^ k = b at *
  refine ⟨?_, by omega, by omega⟩
  unfold decW
  dsimp only
  rw [show (w + b) / 16777216 = w / 16777216 by omega, hf, if_neg (by decide), if_neg (by decide), if_neg (by decide), if_neg (by decide), if_neg (by decide), if_neg (by decide), if_neg (by decide), if_pos rfl, if_neg (by omega)]
theorem flip_LC {i : Ins} {w : Int} (h : enc i = (w, 0)) (f : form i.op = 76 ∨ form i.op = 67) (k : Nat) (h1 : 16 ≤ k) (h2 : k < 20) : decW (flip w k) = none ∧ 0 ≤ flip w k ∧ flip w k < 4294967296 := by
  obtain ⟨hd, h0, hl, ho⟩ := dec_enc h
  rw [← ho] at f
  have hz : w / 65536 % 16 = 0 := by
    unfold decW at hd
    dsimp only at hd
    rcases f with f | f
    · rw [f, if_neg (by decide), if_neg (by decide), if_neg (by decide), if_neg (by decide), if_pos rfl] at hd
      exact (ite_some hd).1
    · rw [f, if_neg (by decide), if_neg (by decide), if_neg (by decide), if_neg (by decide), if_neg (by decide), if_neg (by decide), if_pos rfl] at hd
      exact (ite_some hd).1.1
  have key : flip w k / 16777216 = w / 16777216 ∧ flip w k / 65536 % 16 ≠ 0 ∧ 0 ≤ flip w k ∧ flip w k < 4294967296 := by
    have hk : k = 16 ∨ k = 17 ∨ k = 18 ∨ k = 19 := by omega
    unfold flip
    rcases hk with rfl | rfl | rfl | rfl
    all_goals
      simp only [Int.reducePow]
      split <;> omega
  obtain ⟨k1, k2, k3, k4⟩ := key
  refine ⟨?_, k3, k4⟩
  unfold decW
  dsimp only
  rw [k1]
  rcases f with f | f
  · rw [f, if_neg (by decide), if_neg (by decide), if_neg (by decide), if_neg (by decide), if_pos rfl, if_neg k2]
  · rw [f, if_neg (by decide), if_neg (by decide), if_neg (by decide), if_neg (by decide), if_neg (by decide), if_neg (by decide), if_pos rfl, if_neg (fun h => k2 h.1)]
theorem flip_any {w : Int} (h0 : 0 ≤ w) (hl : w < 4294967296) (k : Nat) (hk : k < 32) : 0 ≤ flip w k ∧ flip w k < 4294967296 := by
  have hk' : k = 0 ∨ k = 1 ∨ k = 2 ∨ k = 3 ∨ k = 4 ∨ k = 5 ∨ k = 6 ∨ k = 7 ∨ k = 8 ∨ k = 9 ∨ k = 10 ∨ k = 11 ∨ k = 12 ∨ k = 13 ∨ k = 14 ∨ k = 15 ∨ k = 16 ∨ k = 17 ∨ k = 18 ∨ k = 19 ∨ k = 20 ∨ k = 21 ∨ k = 22 ∨ k = 23 ∨ k = 24 ∨ k = 25 ∨ k = 26 ∨ k = 27 ∨ k = 28 ∨ k = 29 ∨ k = 30 ∨ k = 31 := by omega
  unfold flip
  rcases hk' with rfl | rfl | rfl | rfl | rfl | rfl | rfl | rfl | rfl | rfl | rfl | rfl | rfl | rfl | rfl | rfl | rfl | rfl | rfl | rfl | rfl | rfl | rfl | rfl | rfl | rfl | rfl | rfl | rfl | rfl | rfl | rfl
  all_goals
    simp only [Int.reducePow]
    split <;> omega
/-- How a text with registers begins. -/
theorem text_head {i : Ins} (h : (enc i).2 = 0) (hN : form i.op ≠ 78) : ∃ r, r ≠ [] ∧ text i = name i.op ++ ([32, 114] ++ numStr i.a ++ [44, 32]) ++ r := by
  obtain ⟨i1, _⟩ := enc_ok (enc_form h)
  rw [text_eq h]
  rcases form_cases i.op with f | f | f | f | f | f | f | f | f
  · exact absurd f i1
  · rw [parts_R f, if_neg (by simp)]
    exact ⟨(114 :: numStr i.b) ++ [44, 32] ++ (114 :: numStr i.c), by simp, by simp [joined]⟩
  · rw [parts_2 (by simp [f]), if_neg (by simp)]
    exact ⟨(114 :: numStr i.b) ++ [44, 32] ++ numStr i.imm, by simp, by simp [joined]⟩
  · rw [parts_2 (by simp [f]), if_neg (by simp)]
    exact ⟨(114 :: numStr i.b) ++ [44, 32] ++ numStr i.imm, by simp, by simp [joined]⟩
  · rw [parts_2 (by simp [f]), if_neg (by simp)]
    exact ⟨(114 :: numStr i.b) ++ [44, 32] ++ numStr i.imm, by simp, by simp [joined]⟩
  · rw [parts_1 (by simp [f]), if_neg (by simp)]
    exact ⟨numStr i.imm, numStr_ne _, by simp [joined]⟩
  · rw [parts_1 (by simp [f]), if_neg (by simp)]
    exact ⟨numStr i.imm, numStr_ne _, by simp [joined]⟩
  · rw [parts_1 (by simp [f]), if_neg (by simp)]
    exact ⟨numStr i.imm, numStr_ne _, by simp [joined]⟩
  · exact absurd f hN
theorem text_N {i : Ins} (h : (enc i).2 = 0) (f : form i.op = 78) : text i = name i.op := by
  rw [text_eq h, parts_N f, if_pos rfl]
/-- An immediate with a sign, registers nought. -/
theorem enc_sign {op n : Int} (f : form op = 73 ∨ form op = 74) :
    enc ⟨op, 0, 0, 0, n⟩ = if n < (shapeOf (form op)).low ∨ (shapeOf (form op)).high < n then (0, 6) else (op * 16777216 + n % 2 ^ (shapeOf (form op)).bits.toNat, 0) := by
  unfold enc
  rw [if_neg (by rcases f with f | f <;> (dsimp only; rw [f]; decide))]
  have h2 : regsOk ⟨op, 0, 0, 0, n⟩ = true := by
    unfold regsOk regOk
    rcases f with f | f <;> simp [f, shape_I, shape_J]
  rw [if_neg (by rw [h2]; decide)]
  have h3 : immOk ⟨op, 0, 0, 0, n⟩ = decide (¬ (n < (shapeOf (form op)).low ∨ (shapeOf (form op)).high < n)) := by
    unfold immOk
    dsimp only
    rw [decide_eq_decide]
    omega
  rw [h3]
  by_cases q : n < (shapeOf (form op)).low ∨ (shapeOf (form op)).high < n
  · rw [if_pos q, if_pos (by simp [q])]
  · rw [if_neg q, if_neg (by simp [q])]
    unfold word
    dsimp only
    rw [show op * 16777216 + 0 * 1048576 + 0 * 65536 + 0 * 4096 = op * 16777216 by omega]
end Is
end Go.Proofs.YtmfldcacjpligaaDoor
