/-
  LexerNumbers: the walks of Hex and of the law.
-/
import Derived.Test.YtoidmljhlekbkaaDoorAlive
import Derived.Test.YtoidmljhlekbkaaDoorNumsP
import Derived.Test.YtoidmljhlekbkaaDoorBits
namespace Go.Proofs.YtoidmljhlekbkaaDoor
open Go.RowKit
theorem hexdig_cut (d : Nat) (h : d < 16) : (ByteArray.mk #[48, 49, 50, 51, 52, 53, 54, 55, 56, 57, 97, 98, 99, 100, 101, 102]).extract d (d + 1) = ⟨#[hexDig d]⟩ := by
  have key : ∀ d : Fin 16, (ByteArray.mk #[48, 49, 50, 51, 52, 53, 54, 55, 56, 57, 97, 98, 99, 100, 101, 102]).extract d.val (d.val + 1) = ⟨#[hexDig d.val]⟩ := by decide +kernel
  exact key ⟨d, h⟩
theorem hex_fn (n : Nat) (w : World) (h : n ≤ 1099511627776) :
    Calls Tryd.prog 15 #[.int .i64 n, .int .i64 11] w fun e w' => e = .returned (.string ⟨(hexGo 11 n).toArray⟩) ∧ w = w' := by
  go_enter Tryd.func15, Tryd.ntmps15
  go_wp2_with fail
  go_loop [5, 6] (fun s i => ∃ j : Nat, j ≤ 11 ∧ i = .int .i64 (40 - 4 * j) ∧ s = .string ⟨(hexGo j (n / 16 ^ (11 - j))).toArray⟩) (fun _ i => (intOf i + 4).toNat)
  case atStart => exact ⟨0, Nat.zero_le _, rfl, rfl⟩
  case round =>
    obtain ⟨j, hj, rfl, rfl⟩ := hrel
    have hl := hexGo_len j (n / 16 ^ (11 - j))
    by_cases hlt : j < 11
    · have c1 : (0 : Int) ≤ 40 - 4 * (j : Int) := by omega
      have e2 : (2 : Nat) ^ (40 - 4 * j) = 16 ^ (10 - j) := by rw [show 40 - 4 * j = 4 * (10 - j) by omega, Nat.pow_mul]
      have e3 : (n : Int) / 2 ^ (40 - 4 * j) = ((n / 16 ^ (10 - j) : Nat) : Int) := by
        rw [← e2]
        push_cast
        rfl
      have hle : n / 16 ^ (10 - j) ≤ n := Nat.div_le_self _ _
      have e4 : n / 16 ^ (10 - j) / 16 = n / 16 ^ (11 - j) := by rw [Nat.div_div_eq_div_mul, show 11 - j = (10 - j) + 1 by omega, Nat.pow_succ]
      have e5 : bits .and .i64 ((n : Int) / 2 ^ (40 - 4 * j)) 15 = ((n / 16 ^ (10 - j) % 16 : Nat) : Int) := by
        rw [e3]
        exact bits_low4 _ (by omega)
      have E : Hid (hexGo (j + 1) (n / 16 ^ (11 - (j + 1))) = hexGo j (n / 16 ^ (11 - j)) ++ [hexDig (n / 16 ^ (10 - j) % 16)]) := by
        show hexGo _ _ = _
        rw [show 11 - (j + 1) = 10 - j by omega, hexGo, e4]
      obtain ⟨d, hd⟩ : ∃ d, d = n / 16 ^ (10 - j) % 16 := ⟨_, rfl⟩
      have hd16 : d < 16 := by rw [hd]; exact Nat.mod_lt _ (by decide)
      rw [← hd] at e5 E
      have hc := hexdig_cut d hd16
      clear e2 e3 e4 hle hd
      go_wp2_with fail
      refine ⟨⟨j + 1, by omega, by go_num, ?_⟩, by simp [intOf]; omega⟩
      rw [E.out]
      exact congrArg Value.string (bytes_app _ [hexDig d])
    · obtain rfl : j = 11 := by omega
      go_wp2_with fail
      go_ret
      exact ⟨ret_str (by simp), rfl⟩
theorem numbers_off (n b : Int) (w : World) (hT : Lib.Utf8Tabs 0 1 w) (h2 : 2 ≤ w.heap.size) (hn : n < 0 ∨ 1099511627776 < n ∨ b < 0 ∨ 10 < b) :
    Calls Tryd.prog 5 #[.int .i64 n, .int .i64 b] w fun e w' => e = .returned (.bool true) ∧ Below w.heap.size w w' := by
  have h : n < 0 ∨ (¬ n < 0 ∧ 1099511627776 < n) ∨ (¬ n < 0 ∧ ¬ 1099511627776 < n ∧ b < 0) ∨ (¬ n < 0 ∧ ¬ 1099511627776 < n ∧ ¬ b < 0 ∧ 10 < b) := by omega
  clear hn
  rcases h with c1 | ⟨c1, c2⟩ | ⟨c1, c2, c3⟩ | ⟨c1, c2, c3, c4⟩
  all_goals
    go_enter Tryd.func5, Tryd.ntmps5
    go_wp2_with fail
    refine (alive_any w hT h2).mono ?_
    rintro e w1 ⟨rfl, hb⟩
    go_wp2_with fail
    go_ret
    exact ⟨rfl, hb⟩
def zeros (k : Nat) : List UInt8 := List.replicate k 48
theorem zeros_succ (k : Nat) : zeros (k + 1) = zeros k ++ [48] := List.replicate_succ'
theorem numbers_in (n b : Nat) (w : World) (hT : Lib.Utf8Tabs 0 1 w) (h2 : 2 ≤ w.heap.size) (h1 : n ≤ 1099511627776) (hb10 : b ≤ 10) :
    Calls Tryd.prog 5 #[.int .i64 n, .int .i64 b] w fun e w' => e = .returned (.bool true) ∧ Below w.heap.size w w' := by
  have hl1 := numGo_len 19 n
  have hl2 : (Lx.num n).length ≤ 19 := hl1
  have hl3 := hexGo_len 11 n
  go_enter Tryd.func5, Tryd.ntmps5
  go_wp2_with fail
  refine (alive_any w hT h2).mono ?_
  rintro e w1 ⟨rfl, hb⟩
  go_wp2_with fail
  have hs1 := hb.size
  go_loop [6, 7] (fun s i => ∃ k : Nat, k ≤ b ∧ i = .int .i64 k ∧ s = .string ⟨(zeros k).toArray⟩) (fun _ i => b - (intOf i).toNat)
  case atStart => exact ⟨0, Nat.zero_le _, rfl, rfl⟩
  case round =>
    obtain ⟨k, hk, rfl, rfl⟩ := hrel
    have hlen : (⟨(zeros k).toArray⟩ : ByteArray).size = k := by show (List.toArray _).size = _; simp [zeros]
    by_cases hlt : k < b
    · have E : Hid ((⟨(zeros k).toArray⟩ : ByteArray) ++ ⟨#[48]⟩ = ⟨(zeros (k + 1)).toArray⟩) := by
        show _ ++ _ = _
        rw [zeros_succ]
        exact bytes_app _ [48]
      go_wp2_with fail
      go_round
      case rel => exact ⟨k + 1, by omega, by go_num, by rw [E.out]⟩
      case measure => simp [intOf]; omega
    · obtain rfl : k = b := by omega
      obtain ⟨S, hS⟩ : ∃ S : ByteArray, S = ⟨(zeros k ++ Lx.num n).toArray⟩ := ⟨_, rfl⟩
      obtain ⟨S2, hS2⟩ : ∃ S : ByteArray, S = ⟨([48, 120] ++ (zeros k ++ hexGo 11 n)).toArray⟩ := ⟨_, rfl⟩
      have T : Hid (Lx.tokens S = numAns n (k + (Lx.num n).length)) := by
        show _ = _
        rw [hS]
        exact dec_source k n hb10 (Nat.lt_of_le_of_lt h1 (by decide))
      have T2 : Hid (Lx.tokens S2 = numAns n (k + 13)) := by
        show _ = _
        rw [hS2]
        exact hex_source k n hb10 (Nat.lt_of_le_of_lt h1 (by decide))
      have E : Hid ((⟨(zeros k).toArray⟩ : ByteArray) ++ ⟨(Lx.num n).toArray⟩ = S) := by
        show _ ++ _ = _
        rw [hS]
        exact bytes_app _ _
      have E2 : Hid ((⟨#[48, 120]⟩ : ByteArray) ++ ⟨(zeros k).toArray⟩ ++ ⟨(hexGo 11 n).toArray⟩ = S2) := by
        show _ ++ _ ++ _ = _
        rw [hS2]
        have e1 : (⟨#[48, 120]⟩ : ByteArray) ++ ⟨(zeros k).toArray⟩ = ⟨([48, 120] ++ zeros k).toArray⟩ := bytes_app [48, 120] _
        rw [e1, bytes_app, List.append_assoc]
      clear hS hS2
      go_wp2_with fail
      refine (number_fn n _ (by omega) (by omega)).mono ?_
      rintro e w' ⟨rfl, rfl⟩
      rw [Int.toNat_natCast]
      go_wp2_with fail
      rw [E.out]
      refine (tokens_any S w1 (tabs_below hT hb h2) (by omega)).mono ?_
      rintro e w2 ⟨v, rfl, hown, hb2⟩
      rw [T.out] at hown ⊢
      have hb3 := hb.trans (hb2.mono hs1)
      have hs3 := hb3.size
      go_wp2_with fail
      refine (hex_fn n _ h1).mono ?_
      rintro e w' ⟨rfl, rfl⟩
      go_wp2_with fail
      rw [E2.out]
      refine (tokens_any S2 w2 (tabs_below hT hb3 h2) (by omega)).mono ?_
      rintro e w3 ⟨v2, rfl, hown2, hb4⟩
      rw [T2.out] at hown2 ⊢
      have hb5 := hb3.trans (hb4.mono (by omega))
      by_cases hbig : (4294967295 : Int) < n
      · have A : ∀ q, numAns n q = ([], 1, 1, 6) := fun q => if_pos hbig
        rw [A] at hown hown2
        simp only [A]
        go_wp2_with fail
        refine (num_any _ _).mono ?_
        rintro e w' ⟨rfl, rfl⟩
        go_wp2_with fail
        refine (num_any _ _).mono ?_
        rintro e w' ⟨rfl, rfl⟩
        go_wp2_with fail
        go_ret
        exact ⟨rfl, hb5⟩
      · have A : ∀ q, numAns n q = ([⟨2, [], n, 1, 1⟩, ⟨6, [], 0, 1, 1 + q⟩], 0, 0, 0) := fun q => if_neg hbig
        rw [A] at hown hown2
        obtain ⟨g, cap, rfl, hg1, hg2, hc⟩ := toks_form hown (by simp)
        obtain ⟨g', cap', rfl, hg1', hg2', hc'⟩ := toks_form hown2 (by simp)
        have k1 := (hb4.cell (p := ⟨g, 2, none⟩) hg2).trans (hc 2 _ rfl)
        have k2 := (hb4.cell (p := ⟨g, 0, none⟩) hg2).trans (hc 0 _ rfl)
        have k3 := hc' 2 _ rfl
        simp only [A]
        go_wp2_with fail
        refine (num_any _ _).mono ?_
        rintro e w' ⟨rfl, rfl⟩
        go_wp2_with fail
        refine (num_any _ _).mono ?_
        rintro e w' ⟨rfl, rfl⟩
        go_wp2_with fail
        go_ret
        exact ⟨rfl, hb5⟩
theorem numbers_any (n b : Int) (w : World) (hT : Lib.Utf8Tabs 0 1 w) (h2 : 2 ≤ w.heap.size) :
    Calls Tryd.prog 5 #[.int .i64 n, .int .i64 b] w fun e w' => e = .returned (.bool true) ∧ Below w.heap.size w w' := by
  by_cases h : n < 0 ∨ 1099511627776 < n ∨ b < 0 ∨ 10 < b
  · exact numbers_off n b w hT h2 h
  · obtain ⟨m, rfl⟩ := Int.eq_ofNat_of_zero_le (show 0 ≤ n by omega)
    obtain ⟨c, rfl⟩ := Int.eq_ofNat_of_zero_le (show 0 ≤ b by omega)
    exact numbers_in m c w hT h2 (by omega) (by omega)
end Go.Proofs.YtoidmljhlekbkaaDoor
