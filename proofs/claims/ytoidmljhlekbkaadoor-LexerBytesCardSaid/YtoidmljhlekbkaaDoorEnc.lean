/-
  A rune's bytes: the model's own encoding and the library's contracts' are one.
-/
import Derived.Lib.RuneBytes
import GoSem.Core.Utf8
namespace Go.Proofs.YtoidmljhlekbkaaDoor
theorem encode_list (r : Int) (h0 : 0 ≤ r) (h1 : r ≤ 1114111) : Lib.encodeRune r = (Utf8.encode r).data.toList := by
  obtain ⟨n, rfl⟩ := Int.eq_ofNat_of_zero_le h0
  unfold Lib.encodeRune Utf8.encode
  by_cases hv : Utf8.valid (n : Int) = true
  · have hv' := hv
    simp [Utf8.valid] at hv'
    simp only [hv, if_true, Int.toNat_natCast]
    by_cases c1 : n < 128
    · rw [Lib.encodeRuneZ_one (by omega) (by omega)]
      simp [c1]
    · by_cases c2 : n < 2048
      · rw [Lib.encodeRuneZ_two (by omega) (by omega)]
        simp only [show ¬ n < 0x80 from c1, show n < 0x800 from c2, if_true, if_false, List.map_cons, List.map_nil]
        rw [show ((192 : Int) + (n : Int) / 64).toNat = 192 + n / 64 by omega, show ((128 : Int) + (n : Int) % 64).toNat = 128 + n % 64 by omega]
      · by_cases c3 : n < 65536
        · rw [Lib.encodeRuneZ_three (by omega)]
          simp only [show ¬ n < 0x80 from c1, show ¬ n < 0x800 from c2, show n < 0x10000 from c3, if_true, if_false, List.map_cons, List.map_nil]
          rw [show ((224 : Int) + (n : Int) / 4096).toNat = 224 + n / 4096 by omega, show ((128 : Int) + (n : Int) / 64 % 64).toNat = 128 + n / 64 % 64 by omega, show ((128 : Int) + (n : Int) % 64).toNat = 128 + n % 64 by omega]
        · rw [Lib.encodeRuneZ_four (by omega) (by omega)]
          simp only [show ¬ n < 0x80 from c1, show ¬ n < 0x800 from c2, show ¬ n < 0x10000 from c3, if_false, List.map_cons, List.map_nil]
          rw [show ((240 : Int) + (n : Int) / 262144).toNat = 240 + n / 262144 by omega, show ((128 : Int) + (n : Int) / 4096 % 64).toNat = 128 + n / 4096 % 64 by omega, show ((128 : Int) + (n : Int) / 64 % 64).toNat = 128 + n / 64 % 64 by omega, show ((128 : Int) + (n : Int) % 64).toNat = 128 + n % 64 by omega]
  · have hv' := hv
    simp [Utf8.valid] at hv'
    have e : Lib.encodeRuneZ (n : Int) = [239, 191, 189] := by
      unfold Lib.encodeRuneZ
      rw [if_neg (by omega), if_neg (by omega), if_neg (by omega), if_neg (by omega)]
    rw [e]
    have hf : Utf8.valid (n : Int) = false := by simpa using hv
    simp only [hf, Bool.false_eq_true, if_false, Utf8.runeError]
    decide +kernel
end Go.Proofs.YtoidmljhlekbkaaDoor
