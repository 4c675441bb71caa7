/-
  Show of any instruction; the laws' first call: the examples of the document.
-/
import Derived.Test.YtmfldcacjpligaaDoorW10
import Derived.Test.YtmfldcacjpligaaDoorW8
namespace Go.Proofs.YtmfldcacjpligaaDoor
open Go.RowKit
set_option maxRecDepth 100000 in
theorem show_any (i : Is.Ins) (w : World) (ht : Tabs w) : Calls Tryd.prog 14 #[insV i] w (ShowPost i w) := by
  obtain ⟨op, a, b, c, n⟩ := i
  by_cases he : (Is.enc ⟨op, a, b, c, n⟩).2 = 0
  · exact show_ok _ _ _ _ _ he w ht
  · have E : Hid (Is.text ⟨op, a, b, c, n⟩ = []) := by show _ = _; unfold Is.text; rw [if_neg he]
    have hb1 := (Below.refl w.heap.size w).alloc (Nat.le_refl _) (.cells #[.int .i64 op, .int .i64 a, .int .i64 b, .int .i64 c, .int .i64 n] 23)
    obtain ⟨y, hy⟩ : ∃ y, (Is.enc ⟨op, a, b, c, n⟩).2 = y := ⟨_, rfl⟩
    have C12 : ∀ W, Calls Tryd.prog 12 #[.agg #[.int .i64 op, .int .i64 a, .int .i64 b, .int .i64 c, .int .i64 n]] W fun e w' => e = .returned (.tuple #[.int .i64 (Is.enc ⟨op, a, b, c, n⟩).1, .int .i64 y]) ∧ Below W.heap.size W w' := by
      intro W
      have h := enc_any ⟨op, a, b, c, n⟩ W
      unfold EncPost at h
      rw [hy] at h
      exact h
    rw [hy] at he
    have e1 : (y == 0) = false := ne_eq he
    have e2 : (y != 0) = true := by rw [bne_iff_ne]; exact he
    generalize (Is.enc ⟨op, a, b, c, n⟩).1 = x at C12
    clear hy he
    unfold insV
    go_enter Tryd.func14, Tryd.ntmps14
    go_wp2_with fail
    refine (C12 _).mono ?_
    rintro e w2 ⟨rfl, hb2⟩
    have hb12 := hb1.trans (hb2.mono (by simp))
    go_wp2_with fail
    go_ret
    exact ⟨_, rfl, by rw [E.out]; rfl, hb12⟩
theorem num_any (n : Int) (w : World) : Calls Tryd.prog 13 #[.int .i64 n] w fun e w' => e = .returned (.int .i64 n) ∧ w = w' := by
  go_enter Tryd.func13, Tryd.ntmps13
  go_wp2_with fail
  go_ret
  exact ⟨rfl, rfl⟩
theorem enc_1 : Is.enc ⟨1, 1, 2, 3, 0⟩ = (17969152, 0) := by decide
theorem enc_2 : Is.enc ⟨16, 1, 0, 0, -1⟩ = (269549567, 0) := by decide
theorem enc_3 : Is.enc ⟨56, 15, 0, 0, 2⟩ = (955252738, 0) := by decide
theorem text_2 : Is.text ⟨16, 1, 0, 0, -1⟩ = [97, 100, 100, 105, 32, 114, 49, 44, 32, 114, 48, 44, 32, 45, 49] := by
  have h1 : Is.digits 1 = [49] := Is.digits_small (by decide)
  have h0 : Is.digits 0 = [48] := Is.digits_small (by decide)
  have n1 : Is.numStr 1 = [49] := by unfold Is.numStr; rw [if_neg (by decide)]; exact h1
  have n0 : Is.numStr 0 = [48] := by unfold Is.numStr; rw [if_neg (by decide)]; exact h0
  have nm : Is.numStr (-1) = [45, 49] := by unfold Is.numStr; rw [if_pos (by decide)]; exact congrArg (45 :: ·) h1
  rw [Is.text_eq (by rw [enc_2]), Is.parts_2 (i := ⟨16, 1, 0, 0, -1⟩) (.inl (by decide)), if_neg (by simp)]
  dsimp only
  rw [n1, n0, nm]
  rfl
theorem enc_lit {i : Is.Ins} {x y : Int} (h : Is.enc i = (x, y)) (w : World) : Calls Tryd.prog 12 #[insV i] w fun e w' => e = .returned (.tuple #[.int .i64 x, .int .i64 y]) ∧ Below w.heap.size w w' := by
  have k := enc_any i w
  unfold EncPost at k
  rw [h] at k
  exact k
theorem renc_lit {i : Is.Ins} {x y : Int} (h : Is.enc i = (x, y)) (w : World) : Calls Tryd.prog 15 #[insV i] w fun e w' => e = .returned (.tuple #[.int .i64 x, .int .i64 y]) ∧ Below w.heap.size w w' := by
  have k := renc_any i w
  unfold REnc at k
  rw [h] at k
  exact k
set_option maxRecDepth 100000 in
set_option maxHeartbeats 4000000 in
theorem alive_any (w : World) (ht : Tabs w) : Calls Tryd.prog 11 #[] w fun e w' => e = .returned (.bool true) ∧ Below w.heap.size w w' := by
  have HT := Lib.hid ht
  clear ht
  go_enter Tryd.func11, Tryd.ntmps11
  go_wp2_with fail
  refine (enc_lit enc_1 w).mono ?_
  rintro e w1 ⟨rfl, hb1⟩
  go_wp2_with fail
  refine (enc_lit enc_2 w1).mono ?_
  rintro e w2 ⟨rfl, hb2⟩
  have hb12 := hb1.trans (hb2.mono hb1.size)
  go_wp2_with fail
  refine (enc_lit enc_3 w2).mono ?_
  rintro e w3 ⟨rfl, hb3⟩
  have hb13 := hb12.trans (hb3.mono hb12.size)
  have HT3 := Lib.hid (HT.out.below hb13)
  go_wp2_with fail
  refine (num_any _ _).mono ?_
  rintro e w' ⟨rfl, rfl⟩
  go_wp2_with fail
  refine (num_any _ _).mono ?_
  rintro e w' ⟨rfl, rfl⟩
  go_wp2_with fail
  refine (num_any _ _).mono ?_
  rintro e w' ⟨rfl, rfl⟩
  go_wp2_with fail
  refine (show_any ⟨16, 1, 0, 0, -1⟩ _ HT3.out).mono ?_
  rintro e w4 ⟨r, rfl, hr, hb4⟩
  rw [text_2] at hr
  obtain rfl : r = ⟨#[97, 100, 100, 105, 32, 114, 49, 44, 32, 114, 48, 44, 32, 45, 49]⟩ := bytesOf_inj (hr.trans rfl)
  clear hr
  go_wp2_with fail
  go_ret
  exact ⟨rfl, hb13.trans (hb4.mono hb13.size)⟩
end Go.Proofs.YtmfldcacjpligaaDoor
