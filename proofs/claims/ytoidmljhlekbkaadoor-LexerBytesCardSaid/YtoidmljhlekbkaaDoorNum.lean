/-
  The document's numbers: a number's digits, in tens and in sixteens: the walks of Number, Hex, num.
-/
import Derived.Test.YtoidmljhlekbkaaDoorHeap
import Derived.Test.YtoidmljhlekbkaaDoorW1
import Derived.Laws.Runes
import Derived.Lib.Hide
namespace Go.Proofs.YtoidmljhlekbkaaDoor
open Go.RowKit
namespace Lx
def numGo : Nat → Nat → List UInt8
  | 0, _ => []
  | f + 1, n => if 9 < n then numGo f (n / 10) ++ [UInt8.ofNat (48 + n % 10)] else [UInt8.ofNat (48 + n % 10)]
def num (n : Nat) : List UInt8 := numGo 19 n
end Lx
theorem bytes_app (a b : List UInt8) : (⟨a.toArray⟩ : ByteArray) ++ (⟨b.toArray⟩ : ByteArray) = ⟨(a ++ b).toArray⟩ := by
  apply ByteArray.ext
  simp
theorem digit_cut (d : Nat) (h : d < 10) : (ByteArray.mk #[48, 49, 50, 51, 52, 53, 54, 55, 56, 57]).extract d (d + 1) = ⟨#[UInt8.ofNat (48 + d)]⟩ := by
  have key : ∀ d : Fin 10, (ByteArray.mk #[48, 49, 50, 51, 52, 53, 54, 55, 56, 57]).extract d.val (d.val + 1) = ⟨#[UInt8.ofNat (48 + d.val)]⟩ := by decide +kernel
  exact key ⟨d, h⟩
theorem numGo_len (f : Nat) : ∀ n, (Lx.numGo f n).length ≤ f := by
  induction f with
  | zero => intro n; simp [Lx.numGo]
  | succ f ih =>
    intro n
    unfold Lx.numGo
    split
    · have := ih (n / 10); simp; omega
    · simp
theorem ret_str {a b : ByteArray} (h : a = b) : Ending.returned (.string a) = .returned (.string b) := by rw [h]
theorem number_go (f : Nat) : ∀ (n : Int) (w : World), 0 ≤ n → n ≤ 1000000000000000000 → n.toNat < 10 ^ f → 0 < f → f ≤ 64 →
    Calls Tryd.prog 14 #[.int .i64 n] w fun e w' => e = .returned (.string ⟨(Lx.numGo f n.toNat).toArray⟩) ∧ w = w' := by
  induction f with
  | zero => intro n w _ _ _ h _; omega
  | succ f ih =>
    intro n w h0 h1 hf _ hf64
    obtain ⟨m, rfl⟩ := Int.eq_ofNat_of_zero_le h0
    have hc := digit_cut (m % 10) (by omega)
    rw [Int.toNat_natCast] at hf ⊢
    by_cases h9 : 9 < m
    · have hm : (9 : Int) < m := by omega
      have hp : (m / 10) < 10 ^ f := by
        rw [Nat.pow_succ] at hf
        omega
      have hf0 : 0 < f := by
        rcases Nat.eq_zero_or_pos f with h | h
        · subst h; simp at hp; omega
        · exact h
      have E : Hid ((⟨(Lx.numGo f (m / 10)).toArray⟩ : ByteArray) ++ (ByteArray.mk #[48, 49, 50, 51, 52, 53, 54, 55, 56, 57]).extract (m % 10) (m % 10 + 1) = ⟨(Lx.numGo (f + 1) m).toArray⟩) := by
        show _ ++ _ = _
        rw [hc, Lx.numGo, if_pos h9]
        exact bytes_app _ _
      have HP := Lib.hid hp
      have hlen := numGo_len f (m / 10)
      clear hc hf hp
      go_enter Tryd.func14, Tryd.ntmps14
      go_wp2_with fail
      refine (ih ((m : Int) / 10) _ (by omega) (by omega) (by rw [show ((m : Int) / 10).toNat = m / 10 by omega]; exact HP.out) hf0 (by omega)).mono ?_
      rintro e w' ⟨rfl, rfl⟩
      rw [show ((m : Int) / 10).toNat = m / 10 by omega]
      go_wp2_with fail
      go_ret
      exact ⟨ret_str E.out, rfl⟩
    · have hm : (m : Int) ≤ 9 := by omega
      have E : Hid ((ByteArray.mk #[48, 49, 50, 51, 52, 53, 54, 55, 56, 57]).extract (m % 10) (m % 10 + 1) = ⟨(Lx.numGo (f + 1) m).toArray⟩) := by
        show _ = _
        rw [hc, Lx.numGo, if_neg h9]
      clear hc hf
      go_enter Tryd.func14, Tryd.ntmps14
      go_wp2_with fail
      go_ret
      exact ⟨ret_str E.out, rfl⟩
theorem number_fn (n : Int) (w : World) (h0 : 0 ≤ n) (h1 : n ≤ 1000000000000000000) :
    Calls Tryd.prog 14 #[.int .i64 n] w fun e w' => e = .returned (.string ⟨(Lx.num n.toNat).toArray⟩) ∧ w = w' :=
  number_go 19 n w h0 h1 (by have : (10 : Nat) ^ 19 = 10000000000000000000 := by decide
                             omega) (by decide) (by decide)
theorem num_any (n : Int) (w : World) : Calls Tryd.prog 12 #[.int .i64 n] w fun e w' => e = .returned (.int .i64 n) ∧ w = w' := by
  go_enter Tryd.func12, Tryd.ntmps12
  go_wp2_with fail
  go_ret
  exact ⟨rfl, rfl⟩
end Go.Proofs.YtoidmljhlekbkaaDoor
