/-
  One bit of a word turned. No program is named here.
-/
import Derived.Test.YtmfldcacjpligaaDoorP2
namespace Go.Proofs.YtmfldcacjpligaaDoor
namespace Is
theorem xor_div_two (a b : Nat) : (a ^^^ b) / 2 = a / 2 ^^^ b / 2 := by
  apply Nat.eq_of_testBit_eq
  intro i
  rw [Nat.testBit_xor, Nat.testBit_div_two, Nat.testBit_div_two, Nat.testBit_div_two, Nat.testBit_xor]
theorem xor_mod_two (a b : Nat) : (a ^^^ b) % 2 = (a % 2 + b % 2) % 2 := by
  have h := Nat.testBit_xor a b 0
  simp only [Nat.testBit_zero] at h
  have ha := Nat.mod_two_eq_zero_or_one a
  have hb := Nat.mod_two_eq_zero_or_one b
  have hx := Nat.mod_two_eq_zero_or_one (a ^^^ b)
  rcases ha with ha | ha <;> rcases hb with hb | hb <;> rcases hx with hx | hx <;> rw [ha, hb, hx] at h ⊢ <;> simp at h ⊢
theorem xor_two_pow (k : Nat) : ∀ w : Nat, w ^^^ 2 ^ k = if w / 2 ^ k % 2 = 0 then w + 2 ^ k else w - 2 ^ k := by
  induction k with
  | zero =>
    intro w
    have h1 := xor_div_two w 1
    have h2 := xor_mod_two w 1
    rw [Nat.pow_zero, Nat.div_one]
    have h3 : w / 2 ^^^ 1 / 2 = w / 2 := by simp
    rw [h3] at h1
    split <;> omega
  | succ k ih =>
    intro w
    have h1 := xor_div_two w (2 ^ (k + 1))
    have h2 := xor_mod_two w (2 ^ (k + 1))
    have h3 : 2 ^ (k + 1) / 2 = 2 ^ k := by rw [Nat.pow_succ]; omega
    have h5 := ih (w / 2)
    rw [Nat.div_div_eq_div_mul] at h5
    have h6 : 2 * 2 ^ k = 2 ^ (k + 1) := by rw [Nat.pow_succ]; omega
    rw [h6] at h5
    rw [h3] at h1
    rw [h5] at h1
    by_cases q : w / 2 ^ (k + 1) % 2 = 0
    · rw [if_pos q] at h1 ⊢
      omega
    · rw [if_neg q] at h1 ⊢
      have h7 : 2 ^ (k + 1) ≤ w := by
        apply Nat.le_of_not_lt
        intro hc
        rw [Nat.div_eq_of_lt hc] at q
        exact q rfl
      omega
/-- A bit turned, in numbers. -/
def flip (w : Int) (k : Nat) : Int := if w / 2 ^ k % 2 = 0 then w + 2 ^ k else w - 2 ^ k
theorem flip_nat (w k : Nat) : ((w ^^^ 2 ^ k : Nat) : Int) = flip w k := by
  have hp : ((2 ^ k : Nat) : Int) = 2 ^ k := by rw [Int.natCast_pow]; rfl
  have hd : ((w / 2 ^ k % 2 : Nat) : Int) = (w : Int) / 2 ^ k % 2 := by rw [Int.natCast_emod, Int.natCast_ediv, hp]; rfl
  rw [xor_two_pow]
  unfold flip
  by_cases q : w / 2 ^ k % 2 = 0
  · rw [if_pos q, if_pos (by omega), Int.natCast_add, hp]
  · have h7 : 2 ^ k ≤ w := by
      apply Nat.le_of_not_lt
      intro hc
      rw [Nat.div_eq_of_lt hc] at q
      exact q rfl
    rw [if_neg q, if_neg (by omega), Int.natCast_sub h7, hp]
theorem decW_keep {v w : Int} (h1 : v / 16777216 = w / 16777216) (h2 : v % 1048576 = w % 1048576) {i : Ins} (h : decW w = some i) (hN : form (w / 16777216) ≠ 78) :
    decW v = some { i with a := v / 1048576 % 16 } := by
  have e1 : v / 65536 % 16 = w / 65536 % 16 := by omega
  have e2 : v / 4096 % 16 = w / 4096 % 16 := by omega
  have e3 : v % 65536 = w % 65536 := by omega
  have e4 : v % 4096 = w % 4096 := by omega
  unfold decW at h ⊢
  dsimp only at h ⊢
  rw [h1, e1, e2, e3, e4, h2]
  rcases form_cases (w / 16777216) with f | f | f | f | f | f | f | f | f
  · rw [f] at h
    exact absurd h (by simp)
  · rw [f, if_pos rfl] at h ⊢
    obtain ⟨hc, rfl⟩ := ite_some h
    rw [if_pos hc]
  · rw [f, if_neg (by decide), if_pos rfl] at h ⊢
    injection h with h
    subst h
    rfl
  · rw [f, if_neg (by decide), if_neg (by decide), if_pos rfl] at h ⊢
    injection h with h
    subst h
    rfl
  · rw [f, if_neg (by decide), if_neg (by decide), if_neg (by decide), if_pos rfl] at h ⊢
    obtain ⟨hc, rfl⟩ := ite_some h
    rw [if_pos hc]
  · rw [f, if_neg (by decide), if_neg (by decide), if_neg (by decide), if_neg (by decide), if_pos rfl] at h ⊢
    obtain ⟨hc, rfl⟩ := ite_some h
    rw [if_pos hc]
  · rw [f, if_neg (by decide), if_neg (by decide), if_neg (by decide), if_neg (by decide), if_neg (by decide), if_pos rfl] at h ⊢
    injection h with h
    subst h
    rfl
  · rw [f, if_neg (by decide), if_neg (by decide), if_neg (by decide), if_neg (by decide), if_neg (by decide), if_neg (by decide), if_pos rfl] at h ⊢
    obtain ⟨hc, rfl⟩ := ite_some h
    rw [if_pos hc]
  · exact absurd f hN
/-- A register's bit turned: the same instruction with another register. -/
theorem flip_a {i : Ins} {w : Int} (h : enc i = (w, 0)) (hN : form i.op ≠ 78) (k : Nat) (h1 : 20 ≤ k) (h2 : k < 24) :
    decW (flip w k) = some { i with a := flip i.a (k - 20) } ∧ 0 ≤ flip w k ∧ flip w k < 4294967296 := by
  obtain ⟨hd, h0, hl, ho⟩ := dec_enc h
  have ha : i.a = w / 1048576 % 16 := by
    have := (enc_dec h0 hl hd).1
    rw [this]
    unfold fieldsOf
    dsimp only
    repeat' split
    all_goals rfl
  have hk : k = 20 ∨ k = 21 ∨ k = 22 ∨ k = 23 := by omega
  have key : flip w k / 16777216 = w / 16777216 ∧ flip w k % 1048576 = w % 1048576 ∧ flip w k / 1048576 % 16 = flip i.a (k - 20) ∧ 0 ≤ flip w k ∧ flip w k < 4294967296 := by
    rw [ha]
    unfold flip
    rcases hk with rfl | rfl | rfl | rfl
    all_goals
      simp only [Nat.reduceSub, Int.reducePow]
      split <;> split <;> omega
  obtain ⟨k1, k2, k3, k4, k5⟩ := key
  refine ⟨?_, k4, k5⟩
  rw [decW_keep k1 k2 hd (by rw [ho]; exact hN), k3]
end Is
end Go.Proofs.YtmfldcacjpligaaDoor
