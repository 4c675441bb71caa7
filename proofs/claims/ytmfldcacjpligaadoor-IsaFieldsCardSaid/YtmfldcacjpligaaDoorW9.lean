/-
  Numbers as texts; the document's Show: the walks.
-/
import Derived.Test.YtmfldcacjpligaaDoorW7
namespace Go.Proofs.YtmfldcacjpligaaDoor
open Go.RowKit
theorem decDigits_eq (u : Nat) : Lib.decDigits u = Is.digits u := by
  induction u using Nat.strongRecOn with
  | _ u ih =>
    rw [Lib.decDigits, Is.digits]
    by_cases h : u < 10
    · rw [dif_pos h, if_pos (by omega)]
    · rw [dif_neg h, if_neg (by omega), ih (u / 10) (by omega)]
theorem itoa_eq (n : Int) : Lib.itoa n = Is.numStr n := by
  unfold Lib.itoa Is.numStr
  by_cases h : n < 0
  · rw [if_pos h, if_pos h, decDigits_eq, show n.natAbs = (-n).toNat by omega]
  · rw [if_neg h, if_neg h, decDigits_eq]
/-- The given program's numbers. -/
theorem itoa_any (n : Int) (h0 : -524288 ≤ n) (h1 : n ≤ 1048576) (w : World) (ht : Tabs w) : Calls Tryd.prog 28 #[.int .i64 n] w fun e w' => e = .returned (strV (Is.numStr n)) ∧ Below w.heap.size w w' := by
  refine (Tryd.strconv_Itoa n (by omega) (by omega) w ht.pow).mono ?_
  rintro e w' ⟨rfl, k, os, rfl⟩
  rw [itoa_eq]
  exact ⟨rfl, Lib.below_grow _ _ (Nat.le_refl _) _ _⟩
theorem bytesOf_app (a b : ByteArray) : bytesOf (a ++ b) = bytesOf a ++ bytesOf b := by
  show (a ++ b).data.toList = _
  rw [ByteArray.data_append, Array.toList_append]
  rfl
theorem text_size {r : ByteArray} {l : List UInt8} (h : bytesOf r = l) {n : Nat} (hl : l.length ≤ n) : (r.size : Int) ≤ n := by
  have := bytesOf_len r
  rw [h] at this
  omega
theorem digits_len {n : Nat} (h : n ≤ 1048576) : (Is.digits n).length ≤ 7 := (Is.digits_law n).2.2.2 6 (by omega)
theorem numStr_len {n : Int} (h1 : -524288 ≤ n) (h2 : n ≤ 1048576) : (Is.numStr n).length ≤ 8 := by
  unfold Is.numStr
  split
  · have := digits_len (n := (-n).toNat) (by omega)
    simp
    omega
  · have := digits_len (n := n.toNat) (by omega)
    omega
def IsText (l : List UInt8) (w : World) (e : Ending) (w' : World) : Prop := ∃ r : ByteArray, e = .returned (.string r) ∧ bytesOf r = l ∧ w = w'
def tens : ByteArray := ⟨#[48, 49, 50, 51, 52, 53, 54, 55, 56, 57]⟩
theorem tens_at : ∀ d : Nat, d < 10 → bytesOf (tens.extract d (d + 1)) = [UInt8.ofNat (48 + d)] := by decide
set_option maxRecDepth 100000 in
theorem run_tens (d : Nat) (hd : d < 10) : ∀ W : World, (Instr.slice 9 (.string ⟨#[48, 49, 50, 51, 52, 53, 54, 55, 56, 57]⟩) (some (.int .i64 d)) (some (.int .i64 (d + 1))) none).run Tryd.prog W = .ok (.string (tens.extract d (d + 1))) W := by
  have hd' : d = 0 ∨ d = 1 ∨ d = 2 ∨ d = 3 ∨ d = 4 ∨ d = 5 ∨ d = 6 ∨ d = 7 ∨ d = 8 ∨ d = 9 := by omega
  rcases hd' with rfl | rfl | rfl | rfl | rfl | rfl | rfl | rfl | rfl | rfl <;> exact fun _ => by kernel_rfl
set_option maxRecDepth 100000 in
theorem rnumber_nat (n : Nat) : n ≤ 1048576 → ∀ w : World, Calls Tryd.prog 18 #[.int .i64 n] w (IsText (Is.digits n) w) := by
  induction n using Nat.strongRecOn with
  | _ n ih =>
    intro hn w
    obtain ⟨d, hd⟩ : ∃ d : Nat, d = n % 10 := ⟨_, rfl⟩
    have hd10 : d < 10 := by omega
    have e10 : (n : Int) % 10 = d := by omega
    have hr := run_tens d hd10
    have hb := Lib.hid (tens_at d hd10)
    have hsz := text_size (tens_at d hd10) (n := 1) (by simp)
    by_cases h : n ≤ 9
    · have E := Lib.hid (Is.digits_small h)
      have hdn : Hid (d = n) := by show d = n; omega
      clear hd
      go_enter Tryd.func18, Tryd.ntmps18
      go_wp2_with fail
      go_ret
      refine ⟨_, rfl, ?_, rfl⟩
      rw [hb.out, E.out, hdn.out]
    · have E := Lib.hid (Is.digits_great (n := n) (by omega))
      have IH := Lib.hid (ih (n / 10) (by omega) (by omega))
      have hdn := Lib.hid hd
      clear ih hd
      have hl := digits_len (n := n / 10) (by omega)
      go_enter Tryd.func18, Tryd.ntmps18
      go_wp2_with fail
      rw [show (n : Int) / 10 = ((n / 10 : Nat) : Int) by omega]
      refine (IH.out w).mono ?_
      rintro e w1 ⟨r, rfl, hr1, rfl⟩
      have hrs := text_size hr1 hl
      go_wp2_with fail
      go_ret
      refine ⟨_, rfl, ?_, rfl⟩
      rw [bytesOf_app, hr1, hb.out, E.out, hdn.out]
theorem rNum_any (n : Int) (h1 : -524288 ≤ n) (h2 : n ≤ 1048576) (w : World) : Calls Tryd.prog 18 #[.int .i64 n] w (IsText (Is.numStr n) w) := by
  by_cases h : n < 0
  · obtain ⟨m, rfl⟩ : ∃ m : Nat, n = -(m : Int) := ⟨(-n).toNat, by omega⟩
    have hm : m ≤ 1048576 := by omega
    have hm0 : (m : Int) ≤ 1048576 := by omega
    have E : Hid (Is.numStr (-(m : Int)) = 45 :: Is.digits m) := by show _ = _; unfold Is.numStr; rw [if_pos h]; simp
    have HM := Lib.hid hm
    have hl := digits_len hm
    go_enter Tryd.func18, Tryd.ntmps18
    go_wp2_with fail
    refine (rnumber_nat m HM.out w).mono ?_
    rintro e w1 ⟨r, rfl, hr1, rfl⟩
    have hrs := text_size hr1 hl
    go_wp2_with fail
    go_ret
    refine ⟨_, rfl, ?_, rfl⟩
    rw [bytesOf_app, hr1, E.out]
    rfl
  · obtain ⟨m, rfl⟩ : ∃ m : Nat, n = m := ⟨n.toNat, by omega⟩
    have e : Is.numStr m = Is.digits m := by
      unfold Is.numStr
      rw [if_neg h]
      rfl
    rw [e]
    exact rnumber_nat m (by omega) w
theorem IsText.of {l : List UInt8} {w w' : World} {e : Ending} {S : ByteArray} (hS : bytesOf S = l) (h : IsText l w e w') : e = .returned (.string S) ∧ w' = w := by
  obtain ⟨r, rfl, hr, rfl⟩ := h
  rw [bytesOf_inj (hr.trans hS.symm)]
  exact ⟨rfl, rfl⟩
theorem rNum_str (n : Int) (h1 : -524288 ≤ n) (h2 : n ≤ 1048576) : ∃ S : ByteArray, bytesOf S = Is.numStr n ∧ (S.size : Int) ≤ 8 ∧ ∀ w, Calls Tryd.prog 18 #[.int .i64 n] w fun e w' => e = .returned (.string S) ∧ w' = w :=
  ⟨⟨(Is.numStr n).toArray⟩, bytesOf_mk _, text_size (bytesOf_mk _) (numStr_len h1 h2), fun w => (rNum_any n h1 h2 w).mono fun _ _ h => h.of (bytesOf_mk _)⟩
/-- The answer is an instruction's text. -/
def ShowPost (i : Is.Ins) (w : World) (e : Ending) (w' : World) : Prop := ∃ r : ByteArray, e = .returned (.string r) ∧ bytesOf r = Is.text i ∧ Below w.heap.size w w'
theorem imm_bd {i : Is.Ins} (h2 : Is.regsOk i = true) (h3 : Is.immOk i = true) : -524288 ≤ i.imm ∧ i.imm ≤ 1048576 := by
  obtain ⟨_, _, _, h⟩ := Is.parts_of h2 h3
  rcases Is.form_cases i.op with f | f | f | f | f | f | f | f | f
  all_goals rw [f] at h
  · have e : Is.shapeOf 0 = ⟨0, 0, 0, 0⟩ := rfl
    rw [e] at h
    dsimp only at h
    omega
  · rw [Is.shape_R] at h; dsimp only at h; omega
  · rw [Is.shape_I] at h; dsimp only at h; omega
  · rw [Is.shape_U] at h; dsimp only at h; omega
  · rw [Is.shape_H] at h; dsimp only at h; omega
  · rw [Is.shape_L] at h; dsimp only at h; omega
  · rw [Is.shape_J] at h; dsimp only at h; omega
  · rw [Is.shape_C] at h; dsimp only at h; omega
  · rw [Is.shape_N] at h; dsimp only at h; omega

set_option maxRecDepth 100000 in
set_option maxHeartbeats 4000000 in
theorem rshow_R (op a b c n : Int) (f : Is.form op = 82) (he : (Is.enc ⟨op, a, b, c, n⟩).2 = 0) (w : World) : Calls Tryd.prog 21 #[insV ⟨op, a, b, c, n⟩] w (ShowPost ⟨op, a, b, c, n⟩ w) := by
  obtain ⟨i1, i2, i3, _⟩ := Is.enc_ok (Is.enc_form he)
  have hi := imm_bd i2 i3
  obtain ⟨pa, pb, pc, _⟩ := Is.parts_of i2 i3
  dsimp only at hi pa pb pc i1
  obtain ⟨A, hA, sA, CA⟩ := rNum_str a (by omega) (by omega)
  obtain ⟨B, hB, sB, CB⟩ := rNum_str b (by omega) (by omega)
  obtain ⟨C, hC, sC, CC⟩ := rNum_str c (by omega) (by omega)
  obtain ⟨N, hN, sN, CN⟩ := rNum_str n (by omega) (by omega)
  obtain ⟨_, _, _, nl⟩ := Is.opOf_name i1
  obtain ⟨M, eM⟩ : ∃ M : ByteArray, (⟨(Is.name op).toArray⟩ : ByteArray) = M := ⟨_, rfl⟩
  have hM : bytesOf M = Is.name op := by rw [← eM]; rfl
  have sM := text_size hM nl
  have C17 : ∀ W, Calls Tryd.prog 17 #[.int .i64 op] W fun e w' => e = .returned (.tuple #[.int .u8 82, .string M]) ∧ W = w' := by
    intro W
    have h := rform_any op W
    unfold nameV at h
    rw [f, eM] at h
    exact h
  have ET := Lib.hid (Is.text_eq he)
  have EP := Lib.hid (Is.parts_R (i := ⟨op, a, b, c, n⟩) f)
  have HA := Lib.hid hA
  have HB := Lib.hid hB
  have HC := Lib.hid hC
  have HN := Lib.hid hN
  have HM := Lib.hid hM
  have hb1 := (Below.refl w.heap.size w).alloc (Nat.le_refl _) (.cells #[.int .i64 op, .int .i64 a, .int .i64 b, .int .i64 c, .int .i64 n] 23)
  have wa := Whole.made w 23 #[.int .i64 op, .int .i64 a, .int .i64 b, .int .i64 c, .int .i64 n]
  have C15 : ∀ W, Calls Tryd.prog 15 #[.agg #[.int .i64 op, .int .i64 a, .int .i64 b, .int .i64 c, .int .i64 n]] W fun e w' => e = .returned (.tuple #[.int .i64 (Is.enc ⟨op, a, b, c, n⟩).1, .int .i64 0]) ∧ Below W.heap.size W w' := by
    intro W
    have h := renc_any ⟨op, a, b, c, n⟩ W
    unfold REnc at h
    rw [he] at h
    exact h
  generalize (Is.enc ⟨op, a, b, c, n⟩).1 = x at C15
  clear hA hB hC hN hM eM nl i1 i2 i3 hi pa pb pc he f
  unfold insV
  go_enter Tryd.func21, Tryd.ntmps21
  go_wp2_with fail
  refine (C15 _).mono ?_
  rintro e w2 ⟨rfl, hb2⟩
  have hb12 := hb1.trans (hb2.mono (by simp))
  have wa2 := wa.same (hb2.block _ (by simp))
  have k0 := wa2.cell 0
  have k1 := wa2.cell 1
  have k2 := wa2.cell 2
  have k3 := wa2.cell 3
  have k4 := wa2.cell 4
  simp at k0 k1 k2 k3 k4
  go_wp2_with fail
  refine (C17 _).mono ?_
  rintro e w' ⟨rfl, rfl⟩
  go_wp2_with fail
  refine (CA _).mono ?_
  rintro e w' ⟨rfl, rfl⟩
  go_wp2_with fail
  refine (CB _).mono ?_
  rintro e w' ⟨rfl, rfl⟩
  go_wp2_with fail
  refine (CN _).mono ?_
  rintro e w' ⟨rfl, rfl⟩
  go_wp2_with fail
  refine (CC _).mono ?_
  rintro e w' ⟨rfl, rfl⟩
  go_wp2_with fail
  go_ret
  refine ⟨_, rfl, ?_, hb12⟩
  rw [ET.out, EP.out]
  simp only [bytesOf_app, HA.out, HB.out, HC.out, HN.out, HM.out]
  simp [bytesOf, Is.joined]

set_option maxRecDepth 100000 in
set_option maxHeartbeats 4000000 in
theorem rshow_I (op a b c n : Int) (f : Is.form op = 73) (he : (Is.enc ⟨op, a, b, c, n⟩).2 = 0) (w : World) : Calls Tryd.prog 21 #[insV ⟨op, a, b, c, n⟩] w (ShowPost ⟨op, a, b, c, n⟩ w) := by
  obtain ⟨i1, i2, i3, _⟩ := Is.enc_ok (Is.enc_form he)
  have hi := imm_bd i2 i3
  obtain ⟨pa, pb, pc, _⟩ := Is.parts_of i2 i3
  dsimp only at hi pa pb pc i1
  obtain ⟨A, hA, sA, CA⟩ := rNum_str a (by omega) (by omega)
  obtain ⟨B, hB, sB, CB⟩ := rNum_str b (by omega) (by omega)
  obtain ⟨C, hC, sC, CC⟩ := rNum_str c (by omega) (by omega)
  obtain ⟨N, hN, sN, CN⟩ := rNum_str n (by omega) (by omega)
  obtain ⟨_, _, _, nl⟩ := Is.opOf_name i1
  obtain ⟨M, eM⟩ : ∃ M : ByteArray, (⟨(Is.name op).toArray⟩ : ByteArray) = M := ⟨_, rfl⟩
  have hM : bytesOf M = Is.name op := by rw [← eM]; rfl
  have sM := text_size hM nl
  have C17 : ∀ W, Calls Tryd.prog 17 #[.int .i64 op] W fun e w' => e = .returned (.tuple #[.int .u8 73, .string M]) ∧ W = w' := by
    intro W
    have h := rform_any op W
    unfold nameV at h
    rw [f, eM] at h
    exact h
  have ET := Lib.hid (Is.text_eq he)
  have EP := Lib.hid (Is.parts_2 (i := ⟨op, a, b, c, n⟩) (by simp [f]))
  have HA := Lib.hid hA
  have HB := Lib.hid hB
  have HC := Lib.hid hC
  have HN := Lib.hid hN
  have HM := Lib.hid hM
  have hb1 := (Below.refl w.heap.size w).alloc (Nat.le_refl _) (.cells #[.int .i64 op, .int .i64 a, .int .i64 b, .int .i64 c, .int .i64 n] 23)
  have wa := Whole.made w 23 #[.int .i64 op, .int .i64 a, .int .i64 b, .int .i64 c, .int .i64 n]
  have C15 : ∀ W, Calls Tryd.prog 15 #[.agg #[.int .i64 op, .int .i64 a, .int .i64 b, .int .i64 c, .int .i64 n]] W fun e w' => e = .returned (.tuple #[.int .i64 (Is.enc ⟨op, a, b, c, n⟩).1, .int .i64 0]) ∧ Below W.heap.size W w' := by
    intro W
    have h := renc_any ⟨op, a, b, c, n⟩ W
    unfold REnc at h
    rw [he] at h
    exact h
  generalize (Is.enc ⟨op, a, b, c, n⟩).1 = x at C15
  clear hA hB hC hN hM eM nl i1 i2 i3 hi pa pb pc he f
  unfold insV
  go_enter Tryd.func21, Tryd.ntmps21
  go_wp2_with fail
  refine (C15 _).mono ?_
  rintro e w2 ⟨rfl, hb2⟩
  have hb12 := hb1.trans (hb2.mono (by simp))
  have wa2 := wa.same (hb2.block _ (by simp))
  have k0 := wa2.cell 0
  have k1 := wa2.cell 1
  have k2 := wa2.cell 2
  have k3 := wa2.cell 3
  have k4 := wa2.cell 4
  simp at k0 k1 k2 k3 k4
  go_wp2_with fail
  refine (C17 _).mono ?_
  rintro e w' ⟨rfl, rfl⟩
  go_wp2_with fail
  refine (CA _).mono ?_
  rintro e w' ⟨rfl, rfl⟩
  go_wp2_with fail
  refine (CB _).mono ?_
  rintro e w' ⟨rfl, rfl⟩
  go_wp2_with fail
  refine (CN _).mono ?_
  rintro e w' ⟨rfl, rfl⟩
  go_wp2_with fail
  go_ret
  refine ⟨_, rfl, ?_, hb12⟩
  rw [ET.out, EP.out]
  simp only [bytesOf_app, HA.out, HB.out, HC.out, HN.out, HM.out]
  simp [bytesOf, Is.joined]

set_option maxRecDepth 100000 in
set_option maxHeartbeats 4000000 in
theorem rshow_U (op a b c n : Int) (f : Is.form op = 85) (he : (Is.enc ⟨op, a, b, c, n⟩).2 = 0) (w : World) : Calls Tryd.prog 21 #[insV ⟨op, a, b, c, n⟩] w (ShowPost ⟨op, a, b, c, n⟩ w) := by
  obtain ⟨i1, i2, i3, _⟩ := Is.enc_ok (Is.enc_form he)
  have hi := imm_bd i2 i3
  obtain ⟨pa, pb, pc, _⟩ := Is.parts_of i2 i3
  dsimp only at hi pa pb pc i1
  obtain ⟨A, hA, sA, CA⟩ := rNum_str a (by omega) (by omega)
  obtain ⟨B, hB, sB, CB⟩ := rNum_str b (by omega) (by omega)
  obtain ⟨C, hC, sC, CC⟩ := rNum_str c (by omega) (by omega)
  obtain ⟨N, hN, sN, CN⟩ := rNum_str n (by omega) (by omega)
  obtain ⟨_, _, _, nl⟩ := Is.opOf_name i1
  obtain ⟨M, eM⟩ : ∃ M : ByteArray, (⟨(Is.name op).toArray⟩ : ByteArray) = M := ⟨_, rfl⟩
  have hM : bytesOf M = Is.name op := by rw [← eM]; rfl
  have sM := text_size hM nl
  have C17 : ∀ W, Calls Tryd.prog 17 #[.int .i64 op] W fun e w' => e = .returned (.tuple #[.int .u8 85, .string M]) ∧ W = w' := by
    intro W
    have h := rform_any op W
    unfold nameV at h
    rw [f, eM] at h
    exact h
  have ET := Lib.hid (Is.text_eq he)
  have EP := Lib.hid (Is.parts_2 (i := ⟨op, a, b, c, n⟩) (by simp [f]))
  have HA := Lib.hid hA
  have HB := Lib.hid hB
  have HC := Lib.hid hC
  have HN := Lib.hid hN
  have HM := Lib.hid hM
  have hb1 := (Below.refl w.heap.size w).alloc (Nat.le_refl _) (.cells #[.int .i64 op, .int .i64 a, .int .i64 b, .int .i64 c, .int .i64 n] 23)
  have wa := Whole.made w 23 #[.int .i64 op, .int .i64 a, .int .i64 b, .int .i64 c, .int .i64 n]
  have C15 : ∀ W, Calls Tryd.prog 15 #[.agg #[.int .i64 op, .int .i64 a, .int .i64 b, .int .i64 c, .int .i64 n]] W fun e w' => e = .returned (.tuple #[.int .i64 (Is.enc ⟨op, a, b, c, n⟩).1, .int .i64 0]) ∧ Below W.heap.size W w' := by
    intro W
    have h := renc_any ⟨op, a, b, c, n⟩ W
    unfold REnc at h
    rw [he] at h
    exact h
  generalize (Is.enc ⟨op, a, b, c, n⟩).1 = x at C15
  clear hA hB hC hN hM eM nl i1 i2 i3 hi pa pb pc he f
  unfold insV
  go_enter Tryd.func21, Tryd.ntmps21
  go_wp2_with fail
  refine (C15 _).mono ?_
  rintro e w2 ⟨rfl, hb2⟩
  have hb12 := hb1.trans (hb2.mono (by simp))
  have wa2 := wa.same (hb2.block _ (by simp))
  have k0 := wa2.cell 0
  have k1 := wa2.cell 1
  have k2 := wa2.cell 2
  have k3 := wa2.cell 3
  have k4 := wa2.cell 4
  simp at k0 k1 k2 k3 k4
  go_wp2_with fail
  refine (C17 _).mono ?_
  rintro e w' ⟨rfl, rfl⟩
  go_wp2_with fail
  refine (CA _).mono ?_
  rintro e w' ⟨rfl, rfl⟩
  go_wp2_with fail
  refine (CB _).mono ?_
  rintro e w' ⟨rfl, rfl⟩
  go_wp2_with fail
  refine (CN _).mono ?_
  rintro e w' ⟨rfl, rfl⟩
  go_wp2_with fail
  go_ret
  refine ⟨_, rfl, ?_, hb12⟩
  rw [ET.out, EP.out]
  simp only [bytesOf_app, HA.out, HB.out, HC.out, HN.out, HM.out]
  simp [bytesOf, Is.joined]

set_option maxRecDepth 100000 in
set_option maxHeartbeats 4000000 in
theorem rshow_H (op a b c n : Int) (f : Is.form op = 72) (he : (Is.enc ⟨op, a, b, c, n⟩).2 = 0) (w : World) : Calls Tryd.prog 21 #[insV ⟨op, a, b, c, n⟩] w (ShowPost ⟨op, a, b, c, n⟩ w) := by
  obtain ⟨i1, i2, i3, _⟩ := Is.enc_ok (Is.enc_form he)
  have hi := imm_bd i2 i3
  obtain ⟨pa, pb, pc, _⟩ := Is.parts_of i2 i3
  dsimp only at hi pa pb pc i1
  obtain ⟨A, hA, sA, CA⟩ := rNum_str a (by omega) (by omega)
  obtain ⟨B, hB, sB, CB⟩ := rNum_str b (by omega) (by omega)
  obtain ⟨C, hC, sC, CC⟩ := rNum_str c (by omega) (by omega)
  obtain ⟨N, hN, sN, CN⟩ := rNum_str n (by omega) (by omega)
  obtain ⟨_, _, _, nl⟩ := Is.opOf_name i1
  obtain ⟨M, eM⟩ : ∃ M : ByteArray, (⟨(Is.name op).toArray⟩ : ByteArray) = M := ⟨_, rfl⟩
  have hM : bytesOf M = Is.name op := by rw [← eM]; rfl
  have sM := text_size hM nl
  have C17 : ∀ W, Calls Tryd.prog 17 #[.int .i64 op] W fun e w' => e = .returned (.tuple #[.int .u8 72, .string M]) ∧ W = w' := by
    intro W
    have h := rform_any op W
    unfold nameV at h
    rw [f, eM] at h
    exact h
  have ET := Lib.hid (Is.text_eq he)
  have EP := Lib.hid (Is.parts_2 (i := ⟨op, a, b, c, n⟩) (by simp [f]))
  have HA := Lib.hid hA
  have HB := Lib.hid hB
  have HC := Lib.hid hC
  have HN := Lib.hid hN
  have HM := Lib.hid hM
  have hb1 := (Below.refl w.heap.size w).alloc (Nat.le_refl _) (.cells #[.int .i64 op, .int .i64 a, .int .i64 b, .int .i64 c, .int .i64 n] 23)
  have wa := Whole.made w 23 #[.int .i64 op, .int .i64 a, .int .i64 b, .int .i64 c, .int .i64 n]
  have C15 : ∀ W, Calls Tryd.prog 15 #[.agg #[.int .i64 op, .int .i64 a, .int .i64 b, .int .i64 c, .int .i64 n]] W fun e w' => e = .returned (.tuple #[.int .i64 (Is.enc ⟨op, a, b, c, n⟩).1, .int .i64 0]) ∧ Below W.heap.size W w' := by
    intro W
    have h := renc_any ⟨op, a, b, c, n⟩ W
    unfold REnc at h
    rw [he] at h
    exact h
  generalize (Is.enc ⟨op, a, b, c, n⟩).1 = x at C15
  clear hA hB hC hN hM eM nl i1 i2 i3 hi pa pb pc he f
  unfold insV
  go_enter Tryd.func21, Tryd.ntmps21
  go_wp2_with fail
  refine (C15 _).mono ?_
  rintro e w2 ⟨rfl, hb2⟩
  have hb12 := hb1.trans (hb2.mono (by simp))
  have wa2 := wa.same (hb2.block _ (by simp))
  have k0 := wa2.cell 0
  have k1 := wa2.cell 1
  have k2 := wa2.cell 2
  have k3 := wa2.cell 3
  have k4 := wa2.cell 4
  simp at k0 k1 k2 k3 k4
  go_wp2_with fail
  refine (C17 _).mono ?_
  rintro e w' ⟨rfl, rfl⟩
  go_wp2_with fail
  refine (CA _).mono ?_
  rintro e w' ⟨rfl, rfl⟩
  go_wp2_with fail
  refine (CB _).mono ?_
  rintro e w' ⟨rfl, rfl⟩
  go_wp2_with fail
  refine (CN _).mono ?_
  rintro e w' ⟨rfl, rfl⟩
  go_wp2_with fail
  go_ret
  refine ⟨_, rfl, ?_, hb12⟩
  rw [ET.out, EP.out]
  simp only [bytesOf_app, HA.out, HB.out, HC.out, HN.out, HM.out]
  simp [bytesOf, Is.joined]

set_option maxRecDepth 100000 in
set_option maxHeartbeats 4000000 in
theorem rshow_L (op a b c n : Int) (f : Is.form op = 76) (he : (Is.enc ⟨op, a, b, c, n⟩).2 = 0) (w : World) : Calls Tryd.prog 21 #[insV ⟨op, a, b, c, n⟩] w (ShowPost ⟨op, a, b, c, n⟩ w) := by
  obtain ⟨i1, i2, i3, _⟩ := Is.enc_ok (Is.enc_form he)
  have hi := imm_bd i2 i3
  obtain ⟨pa, pb, pc, _⟩ := Is.parts_of i2 i3
  dsimp only at hi pa pb pc i1
  obtain ⟨A, hA, sA, CA⟩ := rNum_str a (by omega) (by omega)
  obtain ⟨B, hB, sB, CB⟩ := rNum_str b (by omega) (by omega)
  obtain ⟨C, hC, sC, CC⟩ := rNum_str c (by omega) (by omega)
  obtain ⟨N, hN, sN, CN⟩ := rNum_str n (by omega) (by omega)
  obtain ⟨_, _, _, nl⟩ := Is.opOf_name i1
  obtain ⟨M, eM⟩ : ∃ M : ByteArray, (⟨(Is.name op).toArray⟩ : ByteArray) = M := ⟨_, rfl⟩
  have hM : bytesOf M = Is.name op := by rw [← eM]; rfl
  have sM := text_size hM nl
  have C17 : ∀ W, Calls Tryd.prog 17 #[.int .i64 op] W fun e w' => e = .returned (.tuple #[.int .u8 76, .string M]) ∧ W = w' := by
    intro W
    have h := rform_any op W
    unfold nameV at h
    rw [f, eM] at h
    exact h
  have ET := Lib.hid (Is.text_eq he)
  have EP := Lib.hid (Is.parts_1 (i := ⟨op, a, b, c, n⟩) (by simp [f]))
  have HA := Lib.hid hA
  have HB := Lib.hid hB
  have HC := Lib.hid hC
  have HN := Lib.hid hN
  have HM := Lib.hid hM
  have hb1 := (Below.refl w.heap.size w).alloc (Nat.le_refl _) (.cells #[.int .i64 op, .int .i64 a, .int .i64 b, .int .i64 c, .int .i64 n] 23)
  have wa := Whole.made w 23 #[.int .i64 op, .int .i64 a, .int .i64 b, .int .i64 c, .int .i64 n]
  have C15 : ∀ W, Calls Tryd.prog 15 #[.agg #[.int .i64 op, .int .i64 a, .int .i64 b, .int .i64 c, .int .i64 n]] W fun e w' => e = .returned (.tuple #[.int .i64 (Is.enc ⟨op, a, b, c, n⟩).1, .int .i64 0]) ∧ Below W.heap.size W w' := by
    intro W
    have h := renc_any ⟨op, a, b, c, n⟩ W
    unfold REnc at h
    rw [he] at h
    exact h
  generalize (Is.enc ⟨op, a, b, c, n⟩).1 = x at C15
  clear hA hB hC hN hM eM nl i1 i2 i3 hi pa pb pc he f
  unfold insV
  go_enter Tryd.func21, Tryd.ntmps21
  go_wp2_with fail
  refine (C15 _).mono ?_
  rintro e w2 ⟨rfl, hb2⟩
  have hb12 := hb1.trans (hb2.mono (by simp))
  have wa2 := wa.same (hb2.block _ (by simp))
  have k0 := wa2.cell 0
  have k1 := wa2.cell 1
  have k2 := wa2.cell 2
  have k3 := wa2.cell 3
  have k4 := wa2.cell 4
  simp at k0 k1 k2 k3 k4
  go_wp2_with fail
  refine (C17 _).mono ?_
  rintro e w' ⟨rfl, rfl⟩
  go_wp2_with fail
  refine (CA _).mono ?_
  rintro e w' ⟨rfl, rfl⟩
  go_wp2_with fail
  refine (CB _).mono ?_
  rintro e w' ⟨rfl, rfl⟩
  go_wp2_with fail
  refine (CN _).mono ?_
  rintro e w' ⟨rfl, rfl⟩
  go_wp2_with fail
  go_ret
  refine ⟨_, rfl, ?_, hb12⟩
  rw [ET.out, EP.out]
  simp only [bytesOf_app, HA.out, HB.out, HC.out, HN.out, HM.out]
  simp [bytesOf, Is.joined]

set_option maxRecDepth 100000 in
set_option maxHeartbeats 4000000 in
theorem rshow_J (op a b c n : Int) (f : Is.form op = 74) (he : (Is.enc ⟨op, a, b, c, n⟩).2 = 0) (w : World) : Calls Tryd.prog 21 #[insV ⟨op, a, b, c, n⟩] w (ShowPost ⟨op, a, b, c, n⟩ w) := by
  obtain ⟨i1, i2, i3, _⟩ := Is.enc_ok (Is.enc_form he)
  have hi := imm_bd i2 i3
  obtain ⟨pa, pb, pc, _⟩ := Is.parts_of i2 i3
  dsimp only at hi pa pb pc i1
  obtain ⟨A, hA, sA, CA⟩ := rNum_str a (by omega) (by omega)
  obtain ⟨B, hB, sB, CB⟩ := rNum_str b (by omega) (by omega)
  obtain ⟨C, hC, sC, CC⟩ := rNum_str c (by omega) (by omega)
  obtain ⟨N, hN, sN, CN⟩ := rNum_str n (by omega) (by omega)
  obtain ⟨_, _, _, nl⟩ := Is.opOf_name i1
  obtain ⟨M, eM⟩ : ∃ M : ByteArray, (⟨(Is.name op).toArray⟩ : ByteArray) = M := ⟨_, rfl⟩
  have hM : bytesOf M = Is.name op := by rw [← eM]; rfl
  have sM := text_size hM nl
  have C17 : ∀ W, Calls Tryd.prog 17 #[.int .i64 op] W fun e w' => e = .returned (.tuple #[.int .u8 74, .string M]) ∧ W = w' := by
    intro W
    have h := rform_any op W
    unfold nameV at h
    rw [f, eM] at h
    exact h
  have ET := Lib.hid (Is.text_eq he)
  have EP := Lib.hid (Is.parts_1 (i := ⟨op, a, b, c, n⟩) (by simp [f]))
  have HA := Lib.hid hA
  have HB := Lib.hid hB
  have HC := Lib.hid hC
  have HN := Lib.hid hN
  have HM := Lib.hid hM
  have hb1 := (Below.refl w.heap.size w).alloc (Nat.le_refl _) (.cells #[.int .i64 op, .int .i64 a, .int .i64 b, .int .i64 c, .int .i64 n] 23)
  have wa := Whole.made w 23 #[.int .i64 op, .int .i64 a, .int .i64 b, .int .i64 c, .int .i64 n]
  have C15 : ∀ W, Calls Tryd.prog 15 #[.agg #[.int .i64 op, .int .i64 a, .int .i64 b, .int .i64 c, .int .i64 n]] W fun e w' => e = .returned (.tuple #[.int .i64 (Is.enc ⟨op, a, b, c, n⟩).1, .int .i64 0]) ∧ Below W.heap.size W w' := by
    intro W
    have h := renc_any ⟨op, a, b, c, n⟩ W
    unfold REnc at h
    rw [he] at h
    exact h
  generalize (Is.enc ⟨op, a, b, c, n⟩).1 = x at C15
  clear hA hB hC hN hM eM nl i1 i2 i3 hi pa pb pc he f
  unfold insV
  go_enter Tryd.func21, Tryd.ntmps21
  go_wp2_with fail
  refine (C15 _).mono ?_
  rintro e w2 ⟨rfl, hb2⟩
  have hb12 := hb1.trans (hb2.mono (by simp))
  have wa2 := wa.same (hb2.block _ (by simp))
  have k0 := wa2.cell 0
  have k1 := wa2.cell 1
  have k2 := wa2.cell 2
  have k3 := wa2.cell 3
  have k4 := wa2.cell 4
  simp at k0 k1 k2 k3 k4
  go_wp2_with fail
  refine (C17 _).mono ?_
  rintro e w' ⟨rfl, rfl⟩
  go_wp2_with fail
  refine (CA _).mono ?_
  rintro e w' ⟨rfl, rfl⟩
  go_wp2_with fail
  refine (CB _).mono ?_
  rintro e w' ⟨rfl, rfl⟩
  go_wp2_with fail
  refine (CN _).mono ?_
  rintro e w' ⟨rfl, rfl⟩
  go_wp2_with fail
  go_ret
  refine ⟨_, rfl, ?_, hb12⟩
  rw [ET.out, EP.out]
  simp only [bytesOf_app, HA.out, HB.out, HC.out, HN.out, HM.out]
  simp [bytesOf, Is.joined]

set_option maxRecDepth 100000 in
set_option maxHeartbeats 4000000 in
theorem rshow_C (op a b c n : Int) (f : Is.form op = 67) (he : (Is.enc ⟨op, a, b, c, n⟩).2 = 0) (w : World) : Calls Tryd.prog 21 #[insV ⟨op, a, b, c, n⟩] w (ShowPost ⟨op, a, b, c, n⟩ w) := by
  obtain ⟨i1, i2, i3, _⟩ := Is.enc_ok (Is.enc_form he)
  have hi := imm_bd i2 i3
  obtain ⟨pa, pb, pc, _⟩ := Is.parts_of i2 i3
  dsimp only at hi pa pb pc i1
  obtain ⟨A, hA, sA, CA⟩ := rNum_str a (by omega) (by omega)
  obtain ⟨B, hB, sB, CB⟩ := rNum_str b (by omega) (by omega)
  obtain ⟨C, hC, sC, CC⟩ := rNum_str c (by omega) (by omega)
  obtain ⟨N, hN, sN, CN⟩ := rNum_str n (by omega) (by omega)
  obtain ⟨_, _, _, nl⟩ := Is.opOf_name i1
  obtain ⟨M, eM⟩ : ∃ M : ByteArray, (⟨(Is.name op).toArray⟩ : ByteArray) = M := ⟨_, rfl⟩
  have hM : bytesOf M = Is.name op := by rw [← eM]; rfl
  have sM := text_size hM nl
  have C17 : ∀ W, Calls Tryd.prog 17 #[.int .i64 op] W fun e w' => e = .returned (.tuple #[.int .u8 67, .string M]) ∧ W = w' := by
    intro W
    have h := rform_any op W
    unfold nameV at h
    rw [f, eM] at h
    exact h
  have ET := Lib.hid (Is.text_eq he)
  have EP := Lib.hid (Is.parts_1 (i := ⟨op, a, b, c, n⟩) (by simp [f]))
  have HA := Lib.hid hA
  have HB := Lib.hid hB
  have HC := Lib.hid hC
  have HN := Lib.hid hN
  have HM := Lib.hid hM
  have hb1 := (Below.refl w.heap.size w).alloc (Nat.le_refl _) (.cells #[.int .i64 op, .int .i64 a, .int .i64 b, .int .i64 c, .int .i64 n] 23)
  have wa := Whole.made w 23 #[.int .i64 op, .int .i64 a, .int .i64 b, .int .i64 c, .int .i64 n]
  have C15 : ∀ W, Calls Tryd.prog 15 #[.agg #[.int .i64 op, .int .i64 a, .int .i64 b, .int .i64 c, .int .i64 n]] W fun e w' => e = .returned (.tuple #[.int .i64 (Is.enc ⟨op, a, b, c, n⟩).1, .int .i64 0]) ∧ Below W.heap.size W w' := by
    intro W
    have h := renc_any ⟨op, a, b, c, n⟩ W
    unfold REnc at h
    rw [he] at h
    exact h
  generalize (Is.enc ⟨op, a, b, c, n⟩).1 = x at C15
  clear hA hB hC hN hM eM nl i1 i2 i3 hi pa pb pc he f
  unfold insV
  go_enter Tryd.func21, Tryd.ntmps21
  go_wp2_with fail
  refine (C15 _).mono ?_
  rintro e w2 ⟨rfl, hb2⟩
  have hb12 := hb1.trans (hb2.mono (by simp))
  have wa2 := wa.same (hb2.block _ (by simp))
  have k0 := wa2.cell 0
  have k1 := wa2.cell 1
  have k2 := wa2.cell 2
  have k3 := wa2.cell 3
  have k4 := wa2.cell 4
  simp at k0 k1 k2 k3 k4
  go_wp2_with fail
  refine (C17 _).mono ?_
  rintro e w' ⟨rfl, rfl⟩
  go_wp2_with fail
  refine (CA _).mono ?_
  rintro e w' ⟨rfl, rfl⟩
  go_wp2_with fail
  refine (CB _).mono ?_
  rintro e w' ⟨rfl, rfl⟩
  go_wp2_with fail
  refine (CN _).mono ?_
  rintro e w' ⟨rfl, rfl⟩
  go_wp2_with fail
  go_ret
  refine ⟨_, rfl, ?_, hb12⟩
  rw [ET.out, EP.out]
  simp only [bytesOf_app, HA.out, HB.out, HC.out, HN.out, HM.out]
  simp [bytesOf, Is.joined]

set_option maxRecDepth 100000 in
set_option maxHeartbeats 4000000 in
theorem rshow_N (op a b c n : Int) (f : Is.form op = 78) (he : (Is.enc ⟨op, a, b, c, n⟩).2 = 0) (w : World) : Calls Tryd.prog 21 #[insV ⟨op, a, b, c, n⟩] w (ShowPost ⟨op, a, b, c, n⟩ w) := by
  obtain ⟨i1, i2, i3, _⟩ := Is.enc_ok (Is.enc_form he)
  have hi := imm_bd i2 i3
  obtain ⟨pa, pb, pc, _⟩ := Is.parts_of i2 i3
  dsimp only at hi pa pb pc i1
  obtain ⟨A, hA, sA, CA⟩ := rNum_str a (by omega) (by omega)
  obtain ⟨B, hB, sB, CB⟩ := rNum_str b (by omega) (by omega)
  obtain ⟨C, hC, sC, CC⟩ := rNum_str c (by omega) (by omega)
  obtain ⟨N, hN, sN, CN⟩ := rNum_str n (by omega) (by omega)
  obtain ⟨_, _, _, nl⟩ := Is.opOf_name i1
  obtain ⟨M, eM⟩ : ∃ M : ByteArray, (⟨(Is.name op).toArray⟩ : ByteArray) = M := ⟨_, rfl⟩
  have hM : bytesOf M = Is.name op := by rw [← eM]; rfl
  have sM := text_size hM nl
  have C17 : ∀ W, Calls Tryd.prog 17 #[.int .i64 op] W fun e w' => e = .returned (.tuple #[.int .u8 78, .string M]) ∧ W = w' := by
    intro W
    have h := rform_any op W
    unfold nameV at h
    rw [f, eM] at h
    exact h
  have ET := Lib.hid (Is.text_eq he)
  have EP := Lib.hid (Is.parts_N (i := ⟨op, a, b, c, n⟩) f)
  have HA := Lib.hid hA
  have HB := Lib.hid hB
  have HC := Lib.hid hC
  have HN := Lib.hid hN
  have HM := Lib.hid hM
  have hb1 := (Below.refl w.heap.size w).alloc (Nat.le_refl _) (.cells #[.int .i64 op, .int .i64 a, .int .i64 b, .int .i64 c, .int .i64 n] 23)
  have wa := Whole.made w 23 #[.int .i64 op, .int .i64 a, .int .i64 b, .int .i64 c, .int .i64 n]
  have C15 : ∀ W, Calls Tryd.prog 15 #[.agg #[.int .i64 op, .int .i64 a, .int .i64 b, .int .i64 c, .int .i64 n]] W fun e w' => e = .returned (.tuple #[.int .i64 (Is.enc ⟨op, a, b, c, n⟩).1, .int .i64 0]) ∧ Below W.heap.size W w' := by
    intro W
    have h := renc_any ⟨op, a, b, c, n⟩ W
    unfold REnc at h
    rw [he] at h
    exact h
  generalize (Is.enc ⟨op, a, b, c, n⟩).1 = x at C15
  clear hA hB hC hN hM eM nl i1 i2 i3 hi pa pb pc he f
  unfold insV
  go_enter Tryd.func21, Tryd.ntmps21
  go_wp2_with fail
  refine (C15 _).mono ?_
  rintro e w2 ⟨rfl, hb2⟩
  have hb12 := hb1.trans (hb2.mono (by simp))
  have wa2 := wa.same (hb2.block _ (by simp))
  have k0 := wa2.cell 0
  have k1 := wa2.cell 1
  have k2 := wa2.cell 2
  have k3 := wa2.cell 3
  have k4 := wa2.cell 4
  simp at k0 k1 k2 k3 k4
  go_wp2_with fail
  refine (C17 _).mono ?_
  rintro e w' ⟨rfl, rfl⟩
  go_wp2_with fail
  refine (CA _).mono ?_
  rintro e w' ⟨rfl, rfl⟩
  go_wp2_with fail
  refine (CB _).mono ?_
  rintro e w' ⟨rfl, rfl⟩
  go_wp2_with fail
  refine (CN _).mono ?_
  rintro e w' ⟨rfl, rfl⟩
  go_wp2_with fail
  go_ret
  refine ⟨_, rfl, ?_, hb12⟩
  rw [ET.out, EP.out]
  simp only [bytesOf_app, HA.out, HB.out, HC.out, HN.out, HM.out]
  simp [bytesOf, Is.joined]

set_option maxRecDepth 100000 in
theorem rshow_any (i : Is.Ins) (w : World) : Calls Tryd.prog 21 #[insV i] w (ShowPost i w) := by
  obtain ⟨op, a, b, c, n⟩ := i
  by_cases he : (Is.enc ⟨op, a, b, c, n⟩).2 = 0
  · obtain ⟨i1, _⟩ := Is.enc_ok (Is.enc_form he)
    rcases Is.form_cases op with f | f | f | f | f | f | f | f | f
    · exact absurd f i1
    · exact rshow_R _ _ _ _ _ f he w
    · exact rshow_I _ _ _ _ _ f he w
    · exact rshow_U _ _ _ _ _ f he w
    · exact rshow_H _ _ _ _ _ f he w
    · exact rshow_L _ _ _ _ _ f he w
    · exact rshow_J _ _ _ _ _ f he w
    · exact rshow_C _ _ _ _ _ f he w
    · exact rshow_N _ _ _ _ _ f he w
  · have E : Hid (Is.text ⟨op, a, b, c, n⟩ = []) := by show _ = _; unfold Is.text; rw [if_neg he]
    have hb1 := (Below.refl w.heap.size w).alloc (Nat.le_refl _) (.cells #[.int .i64 op, .int .i64 a, .int .i64 b, .int .i64 c, .int .i64 n] 23)
    obtain ⟨y, hy⟩ : ∃ y, (Is.enc ⟨op, a, b, c, n⟩).2 = y := ⟨_, rfl⟩
    have C15 : ∀ W, Calls Tryd.prog 15 #[.agg #[.int .i64 op, .int .i64 a, .int .i64 b, .int .i64 c, .int .i64 n]] W fun e w' => e = .returned (.tuple #[.int .i64 (Is.enc ⟨op, a, b, c, n⟩).1, .int .i64 y]) ∧ Below W.heap.size W w' := by
      intro W
      have h := renc_any ⟨op, a, b, c, n⟩ W
      unfold REnc at h
      rw [hy] at h
      exact h
    rw [hy] at he
    have e1 : (y == 0) = false := ne_eq he
    have e2 : (y != 0) = true := by rw [bne_iff_ne]; exact he
    generalize (Is.enc ⟨op, a, b, c, n⟩).1 = x at C15
    clear hy he
    unfold insV
    go_enter Tryd.func21, Tryd.ntmps21
    go_wp2_with fail
    refine (C15 _).mono ?_
    rintro e w2 ⟨rfl, hb2⟩
    have hb12 := hb1.trans (hb2.mono (by simp))
    go_wp2_with fail
    go_ret
    exact ⟨_, rfl, by rw [E.out]; rfl, hb12⟩
end Go.Proofs.YtmfldcacjpligaaDoor
