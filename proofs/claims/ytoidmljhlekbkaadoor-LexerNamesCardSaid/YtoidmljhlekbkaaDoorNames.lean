/-
  LexerNames: the walk of the law.
-/
import Derived.Test.YtoidmljhlekbkaaDoorAlive
import Derived.Test.YtoidmljhlekbkaaDoorNamesP
namespace Go.Proofs.YtoidmljhlekbkaaDoor
open Go.RowKit
theorem names_off (n : Int) (wide : Bool) (w : World) (hT : Lib.Utf8Tabs 0 1 w) (h2 : 2 ≤ w.heap.size) (hn : n < 1 ∨ 60 < n) :
    Calls Tryd.prog 8 #[.int .i64 n, .bool wide] w fun e w' => e = .returned (.bool true) ∧ Below w.heap.size w w' := by
  rcases hn with hn | hn
  · go_enter Tryd.func8, Tryd.ntmps8
    go_wp2_with fail
    refine (alive_any w hT h2).mono ?_
    rintro e w1 ⟨rfl, hb⟩
    go_wp2_with fail
    go_ret
    exact ⟨rfl, hb⟩
  · have hn' : ¬ n < 1 := by omega
    go_enter Tryd.func8, Tryd.ntmps8
    go_wp2_with fail
    refine (alive_any w hT h2).mono ?_
    rintro e w1 ⟨rfl, hb⟩
    go_wp2_with fail
    go_ret
    exact ⟨rfl, hb⟩
theorem names_in (n : Nat) (wide : Bool) (w : World) (hT : Lib.Utf8Tabs 0 1 w) (h2 : 2 ≤ w.heap.size) (h0 : 1 ≤ n) (h1 : n ≤ 60) :
    Calls Tryd.prog 8 #[.int .i64 n, .bool wide] w fun e w' => e = .returned (.bool true) ∧ Below w.heap.size w w' := by
  obtain ⟨t1, t2, t3⟩ := names_all wide n h0 h1
  have T1 := Lib.hid t1
  have T2 := Lib.hid t2
  have T3 := Lib.hid t3
  clear t1 t2 t3
  go_enter Tryd.func8, Tryd.ntmps8
  go_wp2_with fail
  refine (alive_any w hT h2).mono ?_
  rintro e w1 ⟨rfl, hb⟩
  go_wp2_with fail
  go_loop [6, 7] (fun s i => ∃ k : Nat, k ≤ n ∧ i = .int .i64 k ∧ s = .string ⟨(namesSrc wide k).toArray⟩) (fun _ i => n - (intOf i).toNat)
  case atStart => exact ⟨0, Nat.zero_le _, rfl, rfl⟩
  case round =>
    obtain ⟨k, hk, rfl, rfl⟩ := hrel
    have hlen := namesSrc_len wide k
    by_cases hlt : k < n
    · cases wide
      · have E : Hid ((⟨(namesSrc false k).toArray⟩ : ByteArray) ++ ⟨#[95]⟩ = ⟨(namesSrc false (k + 1)).toArray⟩) := bytes_app _ [95]
        go_wp2_with fail
        go_round
        case rel => exact ⟨k + 1, by omega, by go_num, by rw [E.out]⟩
        case measure => simp [intOf]; omega
      · have E : Hid ((⟨(namesSrc true k).toArray⟩ : ByteArray) ++ ⟨#[228, 184, 173]⟩ = ⟨(namesSrc true (k + 1)).toArray⟩) := bytes_app _ [228, 184, 173]
        go_wp2_with fail
        go_round
        case rel => exact ⟨k + 1, by omega, by go_num, by rw [E.out]⟩
        case measure => simp [intOf]; omega
    · obtain rfl : k = n := by omega
      have hl2 := numGo_len 19 k
      have hl3 : (Lx.num k).length ≤ 19 := hl2
      have hs2 := hb.size
      obtain ⟨S2, hS2⟩ : ∃ S : ByteArray, S = ⟨(97 :: Lx.num k ++ [32, 44]).toArray⟩ := ⟨_, rfl⟩
      obtain ⟨S3, hS3⟩ : ∃ S : ByteArray, S = ⟨(Lx.num k ++ [97]).toArray⟩ := ⟨_, rfl⟩
      have T2' : Hid (Lx.tokens S2 = names2Ans k) := by rw [hS2]; exact T2
      have T3' : Hid (Lx.tokens S3 = names3Ans k) := by rw [hS3]; exact T3
      have E2 : Hid ((⟨#[97]⟩ : ByteArray) ++ ⟨(Lx.num k).toArray⟩ ++ ⟨#[32, 44]⟩ = S2) := by
        show _ ++ _ ++ _ = _
        rw [hS2]
        rw [show (⟨#[97]⟩ : ByteArray) ++ ⟨(Lx.num k).toArray⟩ = ⟨(97 :: Lx.num k).toArray⟩ from bytes_app [97] _]
        exact bytes_app _ [32, 44]
      have E3 : Hid ((⟨(Lx.num k).toArray⟩ : ByteArray) ++ ⟨#[97]⟩ = S3) := by rw [hS3]; exact bytes_app _ [97]
      clear hS2 hS3 T2 T3
      go_wp2_with fail
      refine (tokens_any ⟨(namesSrc wide k).toArray⟩ w1 (tabs_below hT hb h2) (by omega)).mono ?_
      rintro e w2 ⟨v, rfl, hown, hb2⟩
      rw [T1.out] at hown ⊢
      have hb3 := hb.trans (hb2.mono hs2)
      go_wp2_with fail
      refine (number_fn k _ (by omega) (by omega)).mono ?_
      rintro e w' ⟨rfl, rfl⟩
      rw [Int.toNat_natCast]
      go_wp2_with fail
      rw [E2.out]
      refine (tokens_any S2 w2 (tabs_below hT hb3 h2) (by have := hb3.size; omega)).mono ?_
      rintro e w3 ⟨v2, rfl, hown2, hb4⟩
      rw [T2'.out] at hown2 ⊢
      obtain ⟨g, cap, rfl, hg1, hg2, hc⟩ := toks_form hown2 (by simp [names2Ans])
      have hb5 := hb3.trans (hb4.mono (by have := hb3.size; omega))
      go_wp2_with fail
      refine (number_fn k _ (by omega) (by omega)).mono ?_
      rintro e w' ⟨rfl, rfl⟩
      rw [Int.toNat_natCast]
      go_wp2_with fail
      rw [E3.out]
      refine (tokens_any S3 w3 (tabs_below hT hb5 h2) (by have := hb5.size; omega)).mono ?_
      rintro e w4 ⟨v3, rfl, hown3, hb6⟩
      rw [T3'.out] at hown3 ⊢
      have hb7 := hb5.trans (hb6.mono (by have := hb5.size; omega))
      have k1 := (hb6.cell (p := ⟨g, 0, none⟩) hg2).trans (hc 0 _ rfl)
      by_cases h40 : k ≤ 40
      · have hans : Hid (namesAns wide k = ([⟨1, namesSrc wide k, 0, 1, 1⟩, ⟨6, [], 0, 1, (k : Int) + 1⟩], 0, 0, 0)) := by show namesAns wide k = _; unfold namesAns; rw [if_pos h40]
        rw [hans.out] at hown ⊢
        obtain ⟨g', cap', rfl, hg1', hg2', hc'⟩ := toks_form hown (by simp)
        have b46 := hb4.trans (hb6.mono hb4.size)
        have k2 := (b46.cell (p := ⟨g', 1, none⟩) hg2').trans (hc' 1 _ rfl)
        have k3 := (b46.cell (p := ⟨g', 9, none⟩) hg2').trans (hc' 9 _ rfl)
        have h40' : (k : Int) ≤ 40 := by omega
        simp only [names2Ans, names3Ans] at k1 ⊢
        go_wp2_with fail
        refine (num_any _ _).mono ?_
        rintro e w' ⟨rfl, rfl⟩
        go_wp2_with fail
        refine (num_any _ _).mono ?_
        rintro e w' ⟨rfl, rfl⟩
        go_wp2_with fail
        refine (number_fn k _ (by omega) (by omega)).mono ?_
        rintro e w' ⟨rfl, rfl⟩
        rw [Int.toNat_natCast]
        go_wp2_with fail
        refine (num_any _ _).mono ?_
        rintro e w' ⟨rfl, rfl⟩
        go_wp2_with fail
        go_ret
        exact ⟨rfl, hb7⟩
      · have hans : Hid (namesAns wide k = ([], 1, 1, 2)) := by show namesAns wide k = _; unfold namesAns; rw [if_neg h40]
        rw [hans.out] at hown ⊢
        have h40' : ¬ (k : Int) ≤ 40 := by omega
        simp only [names2Ans, names3Ans] at k1 ⊢
        go_wp2_with fail
        refine (num_any _ _).mono ?_
        rintro e w' ⟨rfl, rfl⟩
        go_wp2_with fail
        refine (num_any _ _).mono ?_
        rintro e w' ⟨rfl, rfl⟩
        go_wp2_with fail
        refine (number_fn k _ (by omega) (by omega)).mono ?_
        rintro e w' ⟨rfl, rfl⟩
        rw [Int.toNat_natCast]
        go_wp2_with fail
        refine (num_any _ _).mono ?_
        rintro e w' ⟨rfl, rfl⟩
        go_wp2_with fail
        go_ret
        exact ⟨rfl, hb7⟩
theorem names_any (n : Int) (wide : Bool) (w : World) (hT : Lib.Utf8Tabs 0 1 w) (h2 : 2 ≤ w.heap.size) :
    Calls Tryd.prog 8 #[.int .i64 n, .bool wide] w fun e w' => e = .returned (.bool true) ∧ Below w.heap.size w w' := by
  by_cases h : n < 1 ∨ 60 < n
  · exact names_off n wide w hT h2 h
  · obtain ⟨m, rfl⟩ := Int.eq_ofNat_of_zero_le (show 0 ≤ n by omega)
    exact names_in m wide w hT h2 (by omega) (by omega)
end Go.Proofs.YtoidmljhlekbkaaDoor
