/-
  The document's lexer: a rune: the walk of Rune, and what it is beside the model's decoding.
-/
import Derived.Test.YtoidmljhlekbkaaDoorW1
import Derived.Test.YtoidmljhlekbkaaDoorDec
import Derived.Lib.Hide
namespace Go.Proofs.YtoidmljhlekbkaaDoor
open Go.RowKit
/-- The bytes behind the first one. -/
def rGo (b : Nat → Nat) : Nat → Nat → Nat → Option Nat
  | 0, _, v => some v
  | m + 1, k, v => if b k < 128 ∨ 192 ≤ b k then none else rGo b m (k + 1) (64 * v + b k - 128)
def badV (least v : Nat) : Prop := v < least ∨ (55296 ≤ v ∧ v < 57344) ∨ 1114111 < v
instance (least v : Nat) : Decidable (badV least v) := by unfold badV; infer_instance
def rFin (sz : Nat) (b : Nat → Nat) (n least v : Nat) : Nat × Nat :=
  if sz < n then (0, 0)
  else match rGo b (n - 1) 1 v with
    | none => (0, 0)
    | some v => if badV least v then (0, 0) else (v, n)
def refRune (sz : Nat) (b : Nat → Nat) : Nat × Nat :=
  if b 0 < 128 then (b 0, 1)
  else if 192 ≤ b 0 ∧ b 0 < 224 then rFin sz b 2 128 (b 0 - 192)
  else if 224 ≤ b 0 ∧ b 0 < 240 then rFin sz b 3 2048 (b 0 - 224)
  else if 240 ≤ b 0 ∧ b 0 < 248 then rFin sz b 4 65536 (b 0 - 240)
  else (0, 0)
theorem rFin2 (sz : Nat) (b : Nat → Nat) (l v : Nat) : rFin sz b 2 l v =
    if sz < 2 ∨ b 1 < 128 ∨ 192 ≤ b 1 ∨ badV l (64 * v + b 1 - 128) then (0, 0) else (64 * v + b 1 - 128, 2) := by
  unfold rFin
  by_cases h : sz < 2
  · rw [if_pos h, if_pos (.inl h)]
  · rw [if_neg h]
    by_cases h1 : b 1 < 128 ∨ 192 ≤ b 1
    · simp only [rGo, if_pos h1]
      rw [if_pos (by omega)]
    · simp only [rGo, if_neg h1]
      by_cases h2 : badV l (64 * v + b 1 - 128)
      · rw [if_pos h2, if_pos (.inr (.inr (.inr h2)))]
      · rw [if_neg h2, if_neg (by intro hh; simp only [h2, or_false] at hh; omega)]
theorem rFin3 (sz : Nat) (b : Nat → Nat) (l v : Nat) : rFin sz b 3 l v =
    if sz < 3 ∨ b 1 < 128 ∨ 192 ≤ b 1 ∨ b 2 < 128 ∨ 192 ≤ b 2 ∨ badV l (64 * (64 * v + b 1 - 128) + b 2 - 128) then (0, 0) else (64 * (64 * v + b 1 - 128) + b 2 - 128, 3) := by
  unfold rFin
  by_cases h : sz < 3
  · rw [if_pos h, if_pos (.inl h)]
  · rw [if_neg h]
    by_cases h1 : b 1 < 128 ∨ 192 ≤ b 1
    · simp only [rGo, if_pos h1]
      rw [if_pos (by omega)]
    · by_cases h2 : b 2 < 128 ∨ 192 ≤ b 2
      · simp only [rGo, if_neg h1, if_pos h2, Nat.reduceAdd]
        rw [if_pos (by omega)]
      · simp only [rGo, if_neg h1, if_neg h2, Nat.reduceAdd]
        by_cases h3 : badV l (64 * (64 * v + b 1 - 128) + b 2 - 128)
        · rw [if_pos h3, if_pos (.inr (.inr (.inr (.inr (.inr h3)))))]
        · rw [if_neg h3, if_neg (by intro hh; simp only [h3, or_false] at hh; omega)]
theorem rFin4 (sz : Nat) (b : Nat → Nat) (l v : Nat) : rFin sz b 4 l v =
    if sz < 4 ∨ b 1 < 128 ∨ 192 ≤ b 1 ∨ b 2 < 128 ∨ 192 ≤ b 2 ∨ b 3 < 128 ∨ 192 ≤ b 3 ∨ badV l (64 * (64 * (64 * v + b 1 - 128) + b 2 - 128) + b 3 - 128) then (0, 0) else (64 * (64 * (64 * v + b 1 - 128) + b 2 - 128) + b 3 - 128, 4) := by
  unfold rFin
  by_cases h : sz < 4
  · rw [if_pos h, if_pos (.inl h)]
  · rw [if_neg h]
    by_cases h1 : b 1 < 128 ∨ 192 ≤ b 1
    · simp only [rGo, if_pos h1]
      rw [if_pos (by omega)]
    · by_cases h2 : b 2 < 128 ∨ 192 ≤ b 2
      · simp only [rGo, if_neg h1, if_pos h2, Nat.reduceAdd]
        rw [if_pos (by omega)]
      · by_cases h3 : b 3 < 128 ∨ 192 ≤ b 3
        · simp only [rGo, if_neg h1, if_neg h2, if_pos h3, Nat.reduceAdd]
          rw [if_pos (by omega)]
        · simp only [rGo, if_neg h1, if_neg h2, if_neg h3, Nat.reduceAdd]
          by_cases h4 : badV l (64 * (64 * (64 * v + b 1 - 128) + b 2 - 128) + b 3 - 128)
          · rw [if_pos h4, if_pos (.inr (.inr (.inr (.inr (.inr (.inr (.inr h4)))))))]
          · rw [if_neg h4, if_neg (by intro hh; simp only [h4, or_false] at hh; omega)]
theorem refRune_decodeN (sz : Nat) (b : Nat → Nat) (hb : ∀ k, b k < 256) (_hs : 0 < sz) :
    refRune sz b = if Lib.decodeN sz (b 0) (b 1) (b 2) (b 3) = (65533, 1) then (0, 0) else Lib.decodeN sz (b 0) (b 1) (b 2) (b 3) := by
  have h0 := hb 0
  have h1 := hb 1
  have h2 := hb 2
  have h3 := hb 3
  unfold refRune
  rw [rFin2, rFin3, rFin4]
  generalize b 0 = b0 at *
  generalize b 1 = b1 at *
  generalize b 2 = b2 at *
  generalize b 3 = b3 at *
  clear hb
  unfold badV Lib.decodeN
  by_cases c0 : b0 < 128
  · simp only [if_pos c0]
    rw [if_neg (by simp; omega)]
  by_cases c1 : 192 ≤ b0 ∧ b0 < 224
  · have k1 : b0 / 32 = 6 := by omega
    have k2 : ¬ b0 / 16 = 14 := by omega
    have k3 : ¬ b0 / 8 = 30 := by omega
    simp only [if_neg c0, if_pos c1, k1, k2, k3, true_and, false_and, if_false]
    repeat' split
    all_goals first | (exfalso; omega) | (simp only [Prod.mk.injEq, and_true] <;> omega) | (rename_i hh; injection hh with _ h9; omega) | (rename_i hh; exact absurd (Eq.refl (65533, 1)) hh)
  by_cases c2 : 224 ≤ b0 ∧ b0 < 240
  · have k1 : ¬ b0 / 32 = 6 := by omega
    have k2 : b0 / 16 = 14 := by omega
    have k3 : ¬ b0 / 8 = 30 := by omega
    simp only [if_neg c0, if_neg c1, if_pos c2, k1, k2, k3, true_and, false_and, if_false]
    repeat' split
    all_goals first | (exfalso; omega) | (simp only [Prod.mk.injEq, and_true] <;> omega) | (rename_i hh; injection hh with _ h9; omega) | (rename_i hh; exact absurd (Eq.refl (65533, 1)) hh)
  by_cases c3 : 240 ≤ b0 ∧ b0 < 248
  · have k1 : ¬ b0 / 32 = 6 := by omega
    have k2 : ¬ b0 / 16 = 14 := by omega
    have k3 : b0 / 8 = 30 := by omega
    simp only [if_neg c0, if_neg c1, if_neg c2, if_pos c3, k1, k2, k3, true_and, false_and, if_false]
    repeat' split
    all_goals first | (exfalso; omega) | (simp only [Prod.mk.injEq, and_true] <;> omega) | (rename_i hh; injection hh with _ h9; omega) | (rename_i hh; exact absurd (Eq.refl (65533, 1)) hh)
  · have k1 : ¬ b0 / 32 = 6 := by omega
    have k2 : ¬ b0 / 16 = 14 := by omega
    have k3 : ¬ b0 / 8 = 30 := by omega
    simp only [if_neg c0, if_neg c1, if_neg c2, if_neg c3, k1, k2, k3, false_and, if_false, if_true]
def byteAt (s : ByteArray) (i k : Nat) : Nat := (s.get! (i + k)).toNat
theorem byteAt_lt (s : ByteArray) (i k : Nat) : byteAt s i k < 256 := (s.get! (i + k)).toNat_lt
theorem byteAt_get (s : ByteArray) (i k : Nat) (h : i + k < s.size) : (s[i + k]'h).toNat = byteAt s i k := by
  unfold byteAt
  congr 1
  simp [ByteArray.get!, ByteArray.getElem_eq_getElem_data, h]
/-- What the document's Rune answers. -/
def runeOf (s : ByteArray) (i : Nat) : Nat × Nat := refRune (s.size - i) (byteAt s i)
def RuneAns (s : ByteArray) (i : Nat) (w : World) (e : Ending) (w' : World) : Prop :=
  e = .returned (.tuple #[.int .i64 (runeOf s i).1, .int .i64 (runeOf s i).2]) ∧ w' = w
def vBound (k v : Nat) : Prop := (k = 1 → v < 32) ∧ (k = 2 → v < 2048) ∧ (k = 3 → v < 131072) ∧ (k = 4 → v < 8388608)
set_option maxRecDepth 100000 in
theorem rune_low (s : ByteArray) (i : Nat) (w : World) (hi : i < s.size) (_hs : s.size ≤ 65536) (h : byteAt s i 0 < 128) : Calls Tryd.prog 39 #[.string s, .int .i64 i] w (RuneAns s i w) := by
  have E : Hid (runeOf s i = (byteAt s i 0, 1)) := by show runeOf s i = _; unfold runeOf refRune; rw [if_pos h]
  have hb := byteAt_get s i 0 hi
  rw [show s[i + 0] = s[i] from rfl] at hb
  have b256 := byteAt_lt s i 0
  obtain ⟨B, hB⟩ : ∃ B, B = byteAt s i 0 := ⟨_, rfl⟩
  rw [← hB] at hb h E b256
  clear hB
  go_enter Tryd.func39, Tryd.ntmps39
  go_wp2_with fail
  refine bodyPost_ret (v := .tuple #[.int .i64 B, .int .i64 1]) (by simp [results, Tryd.results39, go_sem]) rfl ?_
  unfold RuneAns
  rw [E.out]
  exact ⟨rfl, rfl⟩
set_option maxRecDepth 100000 in
set_option maxHeartbeats 4000000 in
theorem rune_2 (s : ByteArray) (i : Nat) (w : World) (hi : i < s.size) (hs : s.size ≤ 65536) (h : 192 ≤ byteAt s i 0) (h' : byteAt s i 0 < 224) : Calls Tryd.prog 39 #[.string s, .int .i64 i] w (RuneAns s i w) := by
  have E : Hid (runeOf s i = rFin (s.size - i) (byteAt s i) 2 128 (byteAt s i 0 - 192)) := by
    show runeOf s i = _
    unfold runeOf refRune
    rw [if_neg (by omega), if_pos ⟨h, h'⟩]
  have hb := byteAt_get s i 0 hi
  rw [show s[i + 0] = s[i] from rfl] at hb
  have HB := Lib.hid (byteAt_get s i)
  have HL := Lib.hid (byteAt_lt s i)
  obtain ⟨b, hB⟩ : ∃ b, b = byteAt s i := ⟨_, rfl⟩
  rw [← hB] at hb h h' E HB HL
  obtain ⟨B, hB2⟩ : ∃ B, B = b 0 := ⟨_, rfl⟩
  rw [← hB2] at hb h h' E
  have b256 : B < 256 := by rw [hB2]; exact HL.out 0
  clear hB hB2
  have n1 : ¬ B < 128 := by omega
  by_cases hsz : s.size < i + 2
  · have E2 : Hid (runeOf s i = (0, 0)) := by show runeOf s i = _; rw [E.out]; unfold rFin; rw [if_pos (by omega)]
    have hsz' : (s.size : Int) < i + 2 := by omega
    go_enter Tryd.func39, Tryd.ntmps39
    go_wp2_with fail
    refine bodyPost_ret (v := .tuple #[.int .i64 0, .int .i64 0]) (by simp [results, Tryd.results39, go_sem]) rfl ?_
    unfold RuneAns
    rw [E2.out]
    exact ⟨rfl, rfl⟩
  · have hsz' : ¬ (s.size : Int) < i + 2 := by omega
    have E2 : Hid (∀ o, rGo b (2 - 1) 1 (B - 192) = o → runeOf s i = match o with
        | none => (0, 0)
        | some v => if badV 128 v then (0, 0) else (v, 2)) := by
      intro o ho
      rw [E.out]
      unfold rFin
      rw [if_neg (by omega), ho]
    go_enter Tryd.func39, Tryd.ntmps39
    go_wp2_with fail
    go_loop [9, 10] (fun v k => ∃ kk vv : Nat, v = .int .i64 vv ∧ k = .int .i64 kk ∧ 1 ≤ kk ∧ kk ≤ 2 ∧ vBound kk vv ∧ rGo b (2 - 1) 1 (B - 192) = rGo b (2 - kk) kk vv) (fun _ k => (2 - intOf k).toNat)
    case atStart => exact ⟨1, B - 192, by go_num, rfl, by omega, by omega, by unfold vBound; omega, rfl⟩
    case round =>
      obtain ⟨kk, vv, rfl, rfl, hk1, hk2, hvb, hgo⟩ := hrel
      have HG := Lib.hid hgo
      clear hgo
      unfold vBound at hvb
      by_cases hlt : kk < 2
      · have hd := HB.out kk (by omega)
        obtain ⟨d, hd2⟩ : ∃ d, d = b kk := ⟨_, rfl⟩
        rw [← hd2] at hd
        have hstep : Hid (rGo b (2 - kk) kk vv = if d < 128 ∨ 192 ≤ d then none else rGo b (2 - (kk + 1)) (kk + 1) (64 * vv + d - 128)) := by
          show rGo _ _ _ _ = _
          rw [show 2 - kk = (2 - (kk + 1)) + 1 by omega, rGo, hd2]
        have hlt' : (kk : Int) < 2 := by omega
        have d256 : d < 256 := by rw [hd2]; exact HL.out kk
        clear hd2
        by_cases hbad : d < 128 ∨ 192 ≤ d
        · have E3 : Hid (runeOf s i = (0, 0)) := E2.out none (by rw [HG.out, hstep.out, if_pos hbad])
          have hbad' : d < 128 ∨ (¬ d < 128 ∧ 192 ≤ d) := by omega
          clear hbad
          rcases hbad' with c1 | ⟨c1, c2⟩
          all_goals
            go_wp2_with fail
            refine bodyPost_ret (v := .tuple #[.int .i64 0, .int .i64 0]) (by simp [results, Tryd.results39, go_sem]) rfl ?_
            unfold RuneAns
            rw [E3.out]
            exact ⟨rfl, rfl⟩
        · have E3 : Hid (rGo b (2 - 1) 1 (B - 192) = rGo b (2 - (kk + 1)) (kk + 1) (64 * vv + d - 128)) := by
            show rGo _ _ _ _ = _
            rw [HG.out, hstep.out, if_neg hbad]
          have c1 : ¬ d < 128 := by omega
          have c2 : ¬ 192 ≤ d := by omega
          clear hbad
          go_wp2_with fail
          exact ⟨⟨kk + 1, 64 * vv + d - 128, by go_num, by go_num, by omega, by omega, by unfold vBound; omega, E3.out⟩, by simp [intOf]; omega⟩
      · obtain rfl : kk = 2 := by omega
        have E3 := E2.out (some vv) (by rw [HG.out]; rfl)
        have hlt' : ¬ ((2 : Nat) : Int) < 2 := by omega
        by_cases hbad : badV 128 vv
        · have E4 : Hid (runeOf s i = (0, 0)) := by show runeOf s i = _; rw [E3]; exact if_pos hbad
          have hbad' : vv < 128 ∨ (¬ vv < 128 ∧ 55296 ≤ vv ∧ vv < 57344) ∨ (¬ vv < 128 ∧ ¬ 55296 ≤ vv ∧ 1114111 < vv) ∨ (¬ vv < 128 ∧ 55296 ≤ vv ∧ ¬ vv < 57344 ∧ 1114111 < vv) := by unfold badV at hbad; omega
          clear hbad E3
          rcases hbad' with c1 | ⟨c1, c2, c3⟩ | ⟨c1, c2, c3⟩ | ⟨c1, c2, c3, c4⟩
          all_goals
            try (exfalso; omega)
          all_goals
            go_wp2_with fail
            refine bodyPost_ret (v := .tuple #[.int .i64 0, .int .i64 0]) (by simp [results, Tryd.results39, go_sem]) rfl ?_
            unfold RuneAns
            rw [E4.out]
            exact ⟨rfl, rfl⟩
        · have E4 : Hid (runeOf s i = (vv, 2)) := by show runeOf s i = _; rw [E3]; exact if_neg hbad
          have hbad' : (¬ vv < 128 ∧ ¬ 55296 ≤ vv ∧ ¬ 1114111 < vv) ∨ (¬ vv < 128 ∧ 55296 ≤ vv ∧ ¬ vv < 57344 ∧ ¬ 1114111 < vv) := by unfold badV at hbad; omega
          clear hbad E3
          rcases hbad' with ⟨c1, c2, c3⟩ | ⟨c1, c2, c3, c4⟩
          all_goals
            try (exfalso; omega)
          all_goals
            go_wp2_with fail
            refine bodyPost_ret (v := .tuple #[.int .i64 vv, .int .i64 2]) (by simp [results, Tryd.results39, go_sem]) rfl ?_
            unfold RuneAns
            rw [E4.out]
            exact ⟨rfl, rfl⟩
set_option maxRecDepth 100000 in
set_option maxHeartbeats 4000000 in
theorem rune_3 (s : ByteArray) (i : Nat) (w : World) (hi : i < s.size) (hs : s.size ≤ 65536) (h : 224 ≤ byteAt s i 0) (h' : byteAt s i 0 < 240) : Calls Tryd.prog 39 #[.string s, .int .i64 i] w (RuneAns s i w) := by
  have E : Hid (runeOf s i = rFin (s.size - i) (byteAt s i) 3 2048 (byteAt s i 0 - 224)) := by
    show runeOf s i = _
    unfold runeOf refRune
    rw [if_neg (by omega), if_neg (by omega), if_pos ⟨h, h'⟩]
  have hb := byteAt_get s i 0 hi
  rw [show s[i + 0] = s[i] from rfl] at hb
  have HB := Lib.hid (byteAt_get s i)
  have HL := Lib.hid (byteAt_lt s i)
  obtain ⟨b, hB⟩ : ∃ b, b = byteAt s i := ⟨_, rfl⟩
  rw [← hB] at hb h h' E HB HL
  obtain ⟨B, hB2⟩ : ∃ B, B = b 0 := ⟨_, rfl⟩
  rw [← hB2] at hb h h' E
  have b256 : B < 256 := by rw [hB2]; exact HL.out 0
  clear hB hB2
  have n1 : ¬ B < 128 := by omega
  have n2 : ¬ B < 224 := by omega
  by_cases hsz : s.size < i + 3
  · have E2 : Hid (runeOf s i = (0, 0)) := by show runeOf s i = _; rw [E.out]; unfold rFin; rw [if_pos (by omega)]
    have hsz' : (s.size : Int) < i + 3 := by omega
    go_enter Tryd.func39, Tryd.ntmps39
    go_wp2_with fail
    refine bodyPost_ret (v := .tuple #[.int .i64 0, .int .i64 0]) (by simp [results, Tryd.results39, go_sem]) rfl ?_
    unfold RuneAns
    rw [E2.out]
    exact ⟨rfl, rfl⟩
  · have hsz' : ¬ (s.size : Int) < i + 3 := by omega
    have E2 : Hid (∀ o, rGo b (3 - 1) 1 (B - 224) = o → runeOf s i = match o with
        | none => (0, 0)
        | some v => if badV 2048 v then (0, 0) else (v, 3)) := by
      intro o ho
      rw [E.out]
      unfold rFin
      rw [if_neg (by omega), ho]
    go_enter Tryd.func39, Tryd.ntmps39
    go_wp2_with fail
    go_loop [9, 10] (fun v k => ∃ kk vv : Nat, v = .int .i64 vv ∧ k = .int .i64 kk ∧ 1 ≤ kk ∧ kk ≤ 3 ∧ vBound kk vv ∧ rGo b (3 - 1) 1 (B - 224) = rGo b (3 - kk) kk vv) (fun _ k => (3 - intOf k).toNat)
    case atStart => exact ⟨1, B - 224, by go_num, rfl, by omega, by omega, by unfold vBound; omega, rfl⟩
    case round =>
      obtain ⟨kk, vv, rfl, rfl, hk1, hk2, hvb, hgo⟩ := hrel
      have HG := Lib.hid hgo
      clear hgo
      unfold vBound at hvb
      by_cases hlt : kk < 3
      · have hd := HB.out kk (by omega)
        obtain ⟨d, hd2⟩ : ∃ d, d = b kk := ⟨_, rfl⟩
        rw [← hd2] at hd
        have hstep : Hid (rGo b (3 - kk) kk vv = if d < 128 ∨ 192 ≤ d then none else rGo b (3 - (kk + 1)) (kk + 1) (64 * vv + d - 128)) := by
          show rGo _ _ _ _ = _
          rw [show 3 - kk = (3 - (kk + 1)) + 1 by omega, rGo, hd2]
        have hlt' : (kk : Int) < 3 := by omega
        have d256 : d < 256 := by rw [hd2]; exact HL.out kk
        clear hd2
        by_cases hbad : d < 128 ∨ 192 ≤ d
        · have E3 : Hid (runeOf s i = (0, 0)) := E2.out none (by rw [HG.out, hstep.out, if_pos hbad])
          have hbad' : d < 128 ∨ (¬ d < 128 ∧ 192 ≤ d) := by omega
          clear hbad
          rcases hbad' with c1 | ⟨c1, c2⟩
          all_goals
            go_wp2_with fail
            refine bodyPost_ret (v := .tuple #[.int .i64 0, .int .i64 0]) (by simp [results, Tryd.results39, go_sem]) rfl ?_
            unfold RuneAns
            rw [E3.out]
            exact ⟨rfl, rfl⟩
        · have E3 : Hid (rGo b (3 - 1) 1 (B - 224) = rGo b (3 - (kk + 1)) (kk + 1) (64 * vv + d - 128)) := by
            show rGo _ _ _ _ = _
            rw [HG.out, hstep.out, if_neg hbad]
          have c1 : ¬ d < 128 := by omega
          have c2 : ¬ 192 ≤ d := by omega
          clear hbad
          go_wp2_with fail
          exact ⟨⟨kk + 1, 64 * vv + d - 128, by go_num, by go_num, by omega, by omega, by unfold vBound; omega, E3.out⟩, by simp [intOf]; omega⟩
      · obtain rfl : kk = 3 := by omega
        have E3 := E2.out (some vv) (by rw [HG.out]; rfl)
        have hlt' : ¬ ((3 : Nat) : Int) < 3 := by omega
        by_cases hbad : badV 2048 vv
        · have E4 : Hid (runeOf s i = (0, 0)) := by show runeOf s i = _; rw [E3]; exact if_pos hbad
          have hbad' : vv < 2048 ∨ (¬ vv < 2048 ∧ 55296 ≤ vv ∧ vv < 57344) ∨ (¬ vv < 2048 ∧ ¬ 55296 ≤ vv ∧ 1114111 < vv) ∨ (¬ vv < 2048 ∧ 55296 ≤ vv ∧ ¬ vv < 57344 ∧ 1114111 < vv) := by unfold badV at hbad; omega
          clear hbad E3
          rcases hbad' with c1 | ⟨c1, c2, c3⟩ | ⟨c1, c2, c3⟩ | ⟨c1, c2, c3, c4⟩
          all_goals
            try (exfalso; omega)
          all_goals
            go_wp2_with fail
            refine bodyPost_ret (v := .tuple #[.int .i64 0, .int .i64 0]) (by simp [results, Tryd.results39, go_sem]) rfl ?_
            unfold RuneAns
            rw [E4.out]
            exact ⟨rfl, rfl⟩
        · have E4 : Hid (runeOf s i = (vv, 3)) := by show runeOf s i = _; rw [E3]; exact if_neg hbad
          have hbad' : (¬ vv < 2048 ∧ ¬ 55296 ≤ vv ∧ ¬ 1114111 < vv) ∨ (¬ vv < 2048 ∧ 55296 ≤ vv ∧ ¬ vv < 57344 ∧ ¬ 1114111 < vv) := by unfold badV at hbad; omega
          clear hbad E3
          rcases hbad' with ⟨c1, c2, c3⟩ | ⟨c1, c2, c3, c4⟩
          all_goals
            try (exfalso; omega)
          all_goals
            go_wp2_with fail
            refine bodyPost_ret (v := .tuple #[.int .i64 vv, .int .i64 3]) (by simp [results, Tryd.results39, go_sem]) rfl ?_
            unfold RuneAns
            rw [E4.out]
            exact ⟨rfl, rfl⟩
set_option maxRecDepth 100000 in
set_option maxHeartbeats 4000000 in
theorem rune_4 (s : ByteArray) (i : Nat) (w : World) (hi : i < s.size) (hs : s.size ≤ 65536) (h : 240 ≤ byteAt s i 0) (h' : byteAt s i 0 < 248) : Calls Tryd.prog 39 #[.string s, .int .i64 i] w (RuneAns s i w) := by
  have E : Hid (runeOf s i = rFin (s.size - i) (byteAt s i) 4 65536 (byteAt s i 0 - 240)) := by
    show runeOf s i = _
    unfold runeOf refRune
    rw [if_neg (by omega), if_neg (by omega), if_neg (by omega), if_pos ⟨h, h'⟩]
  have hb := byteAt_get s i 0 hi
  rw [show s[i + 0] = s[i] from rfl] at hb
  have HB := Lib.hid (byteAt_get s i)
  have HL := Lib.hid (byteAt_lt s i)
  obtain ⟨b, hB⟩ : ∃ b, b = byteAt s i := ⟨_, rfl⟩
  rw [← hB] at hb h h' E HB HL
  obtain ⟨B, hB2⟩ : ∃ B, B = b 0 := ⟨_, rfl⟩
  rw [← hB2] at hb h h' E
  have b256 : B < 256 := by rw [hB2]; exact HL.out 0
  clear hB hB2
  have n1 : ¬ B < 128 := by omega
  have n2 : ¬ B < 224 := by omega
  have n3 : ¬ B < 240 := by omega
  by_cases hsz : s.size < i + 4
  · have E2 : Hid (runeOf s i = (0, 0)) := by show runeOf s i = _; rw [E.out]; unfold rFin; rw [if_pos (by omega)]
    have hsz' : (s.size : Int) < i + 4 := by omega
    go_enter Tryd.func39, Tryd.ntmps39
    go_wp2_with fail
    refine bodyPost_ret (v := .tuple #[.int .i64 0, .int .i64 0]) (by simp [results, Tryd.results39, go_sem]) rfl ?_
    unfold RuneAns
    rw [E2.out]
    exact ⟨rfl, rfl⟩
  · have hsz' : ¬ (s.size : Int) < i + 4 := by omega
    have E2 : Hid (∀ o, rGo b (4 - 1) 1 (B - 240) = o → runeOf s i = match o with
        | none => (0, 0)
        | some v => if badV 65536 v then (0, 0) else (v, 4)) := by
      intro o ho
      rw [E.out]
      unfold rFin
      rw [if_neg (by omega), ho]
    go_enter Tryd.func39, Tryd.ntmps39
    go_wp2_with fail
    go_loop [9, 10] (fun v k => ∃ kk vv : Nat, v = .int .i64 vv ∧ k = .int .i64 kk ∧ 1 ≤ kk ∧ kk ≤ 4 ∧ vBound kk vv ∧ rGo b (4 - 1) 1 (B - 240) = rGo b (4 - kk) kk vv) (fun _ k => (4 - intOf k).toNat)
    case atStart => exact ⟨1, B - 240, by go_num, rfl, by omega, by omega, by unfold vBound; omega, rfl⟩
    case round =>
      obtain ⟨kk, vv, rfl, rfl, hk1, hk2, hvb, hgo⟩ := hrel
      have HG := Lib.hid hgo
      clear hgo
      unfold vBound at hvb
      by_cases hlt : kk < 4
      · have hd := HB.out kk (by omega)
        obtain ⟨d, hd2⟩ : ∃ d, d = b kk := ⟨_, rfl⟩
        rw [← hd2] at hd
        have hstep : Hid (rGo b (4 - kk) kk vv = if d < 128 ∨ 192 ≤ d then none else rGo b (4 - (kk + 1)) (kk + 1) (64 * vv + d - 128)) := by
          show rGo _ _ _ _ = _
          rw [show 4 - kk = (4 - (kk + 1)) + 1 by omega, rGo, hd2]
        have hlt' : (kk : Int) < 4 := by omega
        have d256 : d < 256 := by rw [hd2]; exact HL.out kk
        clear hd2
        by_cases hbad : d < 128 ∨ 192 ≤ d
        · have E3 : Hid (runeOf s i = (0, 0)) := E2.out none (by rw [HG.out, hstep.out, if_pos hbad])
          have hbad' : d < 128 ∨ (¬ d < 128 ∧ 192 ≤ d) := by omega
          clear hbad
          rcases hbad' with c1 | ⟨c1, c2⟩
          all_goals
            go_wp2_with fail
            refine bodyPost_ret (v := .tuple #[.int .i64 0, .int .i64 0]) (by simp [results, Tryd.results39, go_sem]) rfl ?_
            unfold RuneAns
            rw [E3.out]
            exact ⟨rfl, rfl⟩
        · have E3 : Hid (rGo b (4 - 1) 1 (B - 240) = rGo b (4 - (kk + 1)) (kk + 1) (64 * vv + d - 128)) := by
            show rGo _ _ _ _ = _
            rw [HG.out, hstep.out, if_neg hbad]
          have c1 : ¬ d < 128 := by omega
          have c2 : ¬ 192 ≤ d := by omega
          clear hbad
          go_wp2_with fail
          exact ⟨⟨kk + 1, 64 * vv + d - 128, by go_num, by go_num, by omega, by omega, by unfold vBound; omega, E3.out⟩, by simp [intOf]; omega⟩
      · obtain rfl : kk = 4 := by omega
        have E3 := E2.out (some vv) (by rw [HG.out]; rfl)
        have hlt' : ¬ ((4 : Nat) : Int) < 4 := by omega
        by_cases hbad : badV 65536 vv
        · have E4 : Hid (runeOf s i = (0, 0)) := by show runeOf s i = _; rw [E3]; exact if_pos hbad
          have hbad' : vv < 65536 ∨ (¬ vv < 65536 ∧ 55296 ≤ vv ∧ vv < 57344) ∨ (¬ vv < 65536 ∧ ¬ 55296 ≤ vv ∧ 1114111 < vv) ∨ (¬ vv < 65536 ∧ 55296 ≤ vv ∧ ¬ vv < 57344 ∧ 1114111 < vv) := by unfold badV at hbad; omega
          clear hbad E3
          rcases hbad' with c1 | ⟨c1, c2, c3⟩ | ⟨c1, c2, c3⟩ | ⟨c1, c2, c3, c4⟩
          all_goals
            try (exfalso; omega)
          all_goals
            go_wp2_with fail
            refine bodyPost_ret (v := .tuple #[.int .i64 0, .int .i64 0]) (by simp [results, Tryd.results39, go_sem]) rfl ?_
            unfold RuneAns
            rw [E4.out]
            exact ⟨rfl, rfl⟩
        · have E4 : Hid (runeOf s i = (vv, 4)) := by show runeOf s i = _; rw [E3]; exact if_neg hbad
          have hbad' : (¬ vv < 65536 ∧ ¬ 55296 ≤ vv ∧ ¬ 1114111 < vv) ∨ (¬ vv < 65536 ∧ 55296 ≤ vv ∧ ¬ vv < 57344 ∧ ¬ 1114111 < vv) := by unfold badV at hbad; omega
          clear hbad E3
          rcases hbad' with ⟨c1, c2, c3⟩ | ⟨c1, c2, c3, c4⟩
          all_goals
            try (exfalso; omega)
          all_goals
            go_wp2_with fail
            refine bodyPost_ret (v := .tuple #[.int .i64 vv, .int .i64 4]) (by simp [results, Tryd.results39, go_sem]) rfl ?_
            unfold RuneAns
            rw [E4.out]
            exact ⟨rfl, rfl⟩
set_option maxRecDepth 100000 in
theorem rune_none (s : ByteArray) (i : Nat) (w : World) (hi : i < s.size) (_hs : s.size ≤ 65536) (h : (128 ≤ byteAt s i 0 ∧ byteAt s i 0 < 192) ∨ 248 ≤ byteAt s i 0) : Calls Tryd.prog 39 #[.string s, .int .i64 i] w (RuneAns s i w) := by
  have E : Hid (runeOf s i = (0, 0)) := by
    show runeOf s i = _
    unfold runeOf refRune
    rw [if_neg (by omega), if_neg (by omega), if_neg (by omega), if_neg (by omega)]
  have hb := byteAt_get s i 0 hi
  rw [show s[i + 0] = s[i] from rfl] at hb
  have b256 := byteAt_lt s i 0
  obtain ⟨B, hB⟩ : ∃ B, B = byteAt s i 0 := ⟨_, rfl⟩
  rw [← hB] at hb h b256
  clear hB
  have n1 : ¬ B < 128 := by omega
  rcases h with ⟨h1, h2⟩ | h1
  · go_enter Tryd.func39, Tryd.ntmps39
    go_wp2_with fail
    refine bodyPost_ret (v := .tuple #[.int .i64 0, .int .i64 0]) (by simp [results, Tryd.results39, go_sem]) rfl ?_
    unfold RuneAns
    rw [E.out]
    exact ⟨rfl, rfl⟩
  · have n2 : ¬ B < 224 := by omega
    have n3 : ¬ B < 240 := by omega
    have n4 : ¬ B < 248 := by omega
    go_enter Tryd.func39, Tryd.ntmps39
    go_wp2_with fail
    refine bodyPost_ret (v := .tuple #[.int .i64 0, .int .i64 0]) (by simp [results, Tryd.results39, go_sem]) rfl ?_
    unfold RuneAns
    rw [E.out]
    exact ⟨rfl, rfl⟩
theorem rune_any' (s : ByteArray) (i : Nat) (w : World) (hi : i < s.size) (hs : s.size ≤ 65536) : Calls Tryd.prog 39 #[.string s, .int .i64 i] w (RuneAns s i w) := by
  by_cases c0 : byteAt s i 0 < 128
  · exact rune_low s i w hi hs c0
  by_cases c1 : byteAt s i 0 < 192
  · exact rune_none s i w hi hs (.inl ⟨by omega, c1⟩)
  by_cases c2 : byteAt s i 0 < 224
  · exact rune_2 s i w hi hs (by omega) c2
  by_cases c3 : byteAt s i 0 < 240
  · exact rune_3 s i w hi hs (by omega) c3
  by_cases c4 : byteAt s i 0 < 248
  · exact rune_4 s i w hi hs (by omega) c4
  · exact rune_none s i w hi hs (.inr (by omega))
end Go.Proofs.YtoidmljhlekbkaaDoor
