/-
  IsaTexts: the walk of the law.
-/
import Derived.Test.YtmfldcacjpligaaDoorE0
namespace Go.Proofs.YtmfldcacjpligaaDoor
open Go.RowKit
theorem extract_head {T N : ByteArray} {r : List UInt8} (h : bytesOf T = bytesOf N ++ r) : T.extract 0 N.size = N := by
  apply bytesOf_inj
  show (T.extract 0 N.size).data.toList = _
  rw [ByteArray.data_extract, Array.toList_extract]
  show ((bytesOf T).take N.size).drop 0 = bytesOf N
  rw [List.drop_zero, h, ← bytesOf_len N, List.take_left]
theorem slice_head {T N : ByteArray} {r : List UInt8} (h : bytesOf T = bytesOf N ++ r) : (N.size ≤ T.size) ∧ ∀ W : World, (Instr.slice 9 (.string T) none (some (.int .i64 N.size)) none).run Tryd.prog W = .ok (.string N) W := by
  have hs : N.size ≤ T.size := by
    rw [← bytesOf_len, ← bytesOf_len, h, List.length_append]
    omega
  refine ⟨hs, fun W => ?_⟩
  have k := run_slice_string_h (P := Tryd.prog) (w := W) (t := 9) (s := T) Tryd.underlying9 .i64 N.size (by omega) (by omega)
  rw [k, show (N.size : Int).toNat = N.size from rfl, extract_head h]
set_option maxRecDepth 100000 in
set_option maxHeartbeats 8000000 in
theorem isaTexts_any (i : Is.Ins) (w : World) (ht : Tabs w) : Calls Tryd.prog 4 #[insV i] w (Yes w) := by
  obtain ⟨⟨x, y⟩, hxy⟩ : ∃ p, Is.enc i = p := ⟨_, rfl⟩
  have C15 := renc_lit hxy
  by_cases hy : y = 0
  rotate_left
  · have ey : (y == 0) = false := ne_eq hy
    have ey' : (y != 0) = true := by rw [bne_iff_ne]; exact hy
    clear hy hxy
    obtain ⟨op, a, b, c, n⟩ := i
    unfold insV at C15 ⊢
    have hb1 := (Below.refl w.heap.size w).alloc (Nat.le_refl _) (.cells #[.int .i64 op, .int .i64 a, .int .i64 b, .int .i64 c, .int .i64 n] 23)
    have wa := Whole.made w 23 #[.int .i64 op, .int .i64 a, .int .i64 b, .int .i64 c, .int .i64 n]
    have HT := Lib.hid (ht.below hb1)
    clear ht
    go_enter Tryd.func4, Tryd.ntmps4
    go_wp2_with fail
    refine (alive_any _ HT.out).mono ?_
    rintro e w2 ⟨rfl, hb2⟩
    have hb12 := hb1.trans (hb2.mono (by simp))
    have wa2 := wa.same (hb2.block _ (by simp))
    have k0 := wa2.cell 0
    have k1 := wa2.cell 1
    have k2 := wa2.cell 2
    have k3 := wa2.cell 3
    have k4 := wa2.cell 4
    simp at k0 k1 k2 k3 k4
    go_wp2_with fail
    refine (C15 _).mono ?_
    rintro e w3 ⟨rfl, hb3⟩
    go_wp2_with fail
    go_ret
    exact ⟨rfl, hb12.trans (hb3.mono hb12.size)⟩
  subst hy
  obtain ⟨i1, i2, i3, _⟩ := Is.enc_ok hxy
  have he : (Is.enc i).2 = 0 := by rw [hxy]
  obtain ⟨pa, _, _, _⟩ := Is.parts_of i2 i3
  obtain ⟨A, hA, sA, CA⟩ := rNum_str i.a (by omega) (by omega)
  obtain ⟨_, _, _, nl⟩ := Is.opOf_name i1
  have SH := fun W (h : Tabs W) => show_lit i W h
  obtain ⟨T, eT⟩ : ∃ T : ByteArray, (⟨(Is.text i).toArray⟩ : ByteArray) = T := ⟨_, rfl⟩
  have hT : bytesOf T = Is.text i := by rw [← eT]; rfl
  rw [eT] at SH
  clear eT
  obtain ⟨N, eN⟩ : ∃ N : ByteArray, (⟨(Is.name i.op).toArray⟩ : ByteArray) = N := ⟨_, rfl⟩
  have hN : bytesOf N = Is.name i.op := by rw [← eN]; rfl
  have sN := text_size hN nl
  have NM : ∀ W, Tabs W → Calls Tryd.prog 16 #[.int .i64 i.op] W fun e w' => e = .returned (.string N) ∧ Below W.heap.size W w' := by
    intro W hW
    have h := name_any i.op W hW
    unfold NamePost nameV at h
    rw [eN] at h
    exact h
  have C17 : ∀ W, Calls Tryd.prog 17 #[.int .i64 i.op] W fun e w' => e = .returned (.tuple #[.int .u8 ((Is.form i.op).toNat : Int), .string N]) ∧ W = w' := by
    intro W
    have h := rform_any i.op W
    unfold nameV at h
    rw [eN] at h
    exact h
  clear eN hxy
  by_cases hf : Is.form i.op = 78
  · have hTN : T = N := bytesOf_inj (by rw [hT, hN, Is.text_N he hf])
    subst hTN
    obtain ⟨_, hsl⟩ := slice_head (T := T) (N := T) (r := []) (by rw [List.append_nil])
    rw [hf] at C17
    have C17' : ∀ W, Calls Tryd.prog 17 #[.int .i64 i.op] W fun e w' => e = .returned (.tuple #[.int .u8 78, .string T]) ∧ W = w' := C17
    clear C17 hf he i1 i2 i3 pa hA CA hT hN nl sA
    obtain ⟨op, a, b, c, n⟩ := i
    dsimp only at NM C17'
    unfold insV at C15 SH ⊢
    have hb1 := (Below.refl w.heap.size w).alloc (Nat.le_refl _) (.cells #[.int .i64 op, .int .i64 a, .int .i64 b, .int .i64 c, .int .i64 n] 23)
    have wa := Whole.made w 23 #[.int .i64 op, .int .i64 a, .int .i64 b, .int .i64 c, .int .i64 n]
    have HT := Lib.hid (ht.below hb1)
    clear ht
    go_enter Tryd.func4, Tryd.ntmps4
    go_wp2_with fail
    refine (alive_any _ HT.out).mono ?_
    rintro e w2 ⟨rfl, hb2⟩
    have hb12 := hb1.trans (hb2.mono (by simp))
    have wa2 := wa.same (hb2.block _ (by simp))
    have k0 := wa2.cell 0
    have k1 := wa2.cell 1
    have k2 := wa2.cell 2
    have k3 := wa2.cell 3
    have k4 := wa2.cell 4
    simp at k0 k1 k2 k3 k4
    go_wp2_with fail
    refine (C15 _).mono ?_
    rintro e w3 ⟨rfl, hb3⟩
    have hb13 := hb12.trans (hb3.mono hb12.size)
    have wa3 := wa2.same (hb3.block _ wa2.lt)
    clear k0 k1 k2 k3 k4
    have k0 := wa3.cell 0
    have k1 := wa3.cell 1
    have k2 := wa3.cell 2
    have k3 := wa3.cell 3
    have k4 := wa3.cell 4
    simp at k0 k1 k2 k3 k4
    have T3 := HT.out.below (hb2.trans (hb3.mono hb2.size))
    have HT3 := Lib.hid T3
    go_wp2_with fail
    refine (SH _ HT3.out).mono ?_
    rintro e w4 ⟨rfl, hb4⟩
    have hb14 := hb13.trans (hb4.mono hb13.size)
    have wa4 := wa3.same (hb4.block _ wa3.lt)
    have HT4 := Lib.hid (HT3.out.below hb4)
    clear k0 k1 k2 k3 k4
    have k0 := wa4.cell 0
    have k1 := wa4.cell 1
    simp at k0 k1
    go_wp2_with fail
    refine (NM _ HT4.out).mono ?_
    rintro e w5 ⟨rfl, hb5⟩
    have hb15 := hb14.trans (hb5.mono hb14.size)
    have wa5 := wa4.same (hb5.block _ wa4.lt)
    clear k0 k1
    have k0 := wa5.cell 0
    have k1 := wa5.cell 1
    simp at k0 k1
    go_wp2_with fail
    refine (C17' _).mono ?_
    rintro e w' ⟨rfl, rfl⟩
    go_wp2_with fail
    go_ret
    exact ⟨rfl, hb15⟩
  · obtain ⟨r, hr, hTr⟩ := Is.text_head he hf
    obtain ⟨H, eH⟩ : ∃ H : ByteArray, N ++ ⟨#[32, 114]⟩ ++ A ++ ⟨#[44, 32]⟩ = H := ⟨_, rfl⟩
    have hH : bytesOf T = bytesOf H ++ r := by
      rw [← eH, hT, hTr]
      simp only [bytesOf_app, hN, hA]
      simp [bytesOf]
    have hN2 : bytesOf T = bytesOf N ++ ([32, 114] ++ Is.numStr i.a ++ [44, 32] ++ r) := by rw [hT, hTr, hN]; simp
    obtain ⟨n1, hsl1⟩ := slice_head hN2
    obtain ⟨n2, hsl2⟩ := slice_head hH
    have n3 : H.size < T.size := by
      rw [← bytesOf_len, ← bytesOf_len, hH, List.length_append]
      have : 0 < r.length := List.length_pos_iff.2 hr
      omega
    have g1 : decide (T.size < N.size) = false := decide_eq_false (by omega)
    have g1' : ¬ (T.size : Int) < N.size := by omega
    have g2 : decide (H.size < T.size) = true := decide_eq_true n3
    have g2' : (H.size : Int) < T.size := by omega
    obtain ⟨f, ef⟩ : ∃ f : Int, ((Is.form i.op).toNat : Int) = f := ⟨_, rfl⟩
    have gf : f ≠ 78 := by
      rw [← ef]
      intro h
      exact hf (UInt8.toNat_inj.1 (by show (Is.form i.op).toNat = 78; omega))
    have ef78 : (f == 78) = false := ne_eq gf
    simp only [ef] at C17
    have EH := Lib.hid eH
    clear eH gf ef hf he i1 i2 i3 pa hA hT hN nl hTr hH hN2 hr n1 n2 n3
    obtain ⟨op, a, b, c, n⟩ := i
    dsimp only at NM C17 CA
    unfold insV at C15 SH ⊢
    have hb1 := (Below.refl w.heap.size w).alloc (Nat.le_refl _) (.cells #[.int .i64 op, .int .i64 a, .int .i64 b, .int .i64 c, .int .i64 n] 23)
    have wa := Whole.made w 23 #[.int .i64 op, .int .i64 a, .int .i64 b, .int .i64 c, .int .i64 n]
    have HT := Lib.hid (ht.below hb1)
    clear ht
    go_enter Tryd.func4, Tryd.ntmps4
    go_wp2_with fail
    refine (alive_any _ HT.out).mono ?_
    rintro e w2 ⟨rfl, hb2⟩
    have hb12 := hb1.trans (hb2.mono (by simp))
    have wa2 := wa.same (hb2.block _ (by simp))
    have k0 := wa2.cell 0
    have k1 := wa2.cell 1
    have k2 := wa2.cell 2
    have k3 := wa2.cell 3
    have k4 := wa2.cell 4
    simp at k0 k1 k2 k3 k4
    go_wp2_with fail
    refine (C15 _).mono ?_
    rintro e w3 ⟨rfl, hb3⟩
    have hb13 := hb12.trans (hb3.mono hb12.size)
    have wa3 := wa2.same (hb3.block _ wa2.lt)
    clear k0 k1 k2 k3 k4
    have k0 := wa3.cell 0
    have k1 := wa3.cell 1
    have k2 := wa3.cell 2
    have k3 := wa3.cell 3
    have k4 := wa3.cell 4
    simp at k0 k1 k2 k3 k4
    have T3 := HT.out.below (hb2.trans (hb3.mono hb2.size))
    have HT3 := Lib.hid T3
    go_wp2_with fail
    refine (SH _ HT3.out).mono ?_
    rintro e w4 ⟨rfl, hb4⟩
    have hb14 := hb13.trans (hb4.mono hb13.size)
    have wa4 := wa3.same (hb4.block _ wa3.lt)
    have HT4 := Lib.hid (HT3.out.below hb4)
    clear k0 k1 k2 k3 k4
    have k0 := wa4.cell 0
    have k1 := wa4.cell 1
    simp at k0 k1
    go_wp2_with fail
    refine (NM _ HT4.out).mono ?_
    rintro e w5 ⟨rfl, hb5⟩
    have hb15 := hb14.trans (hb5.mono hb14.size)
    have wa5 := wa4.same (hb5.block _ wa4.lt)
    clear k0 k1
    have k0 := wa5.cell 0
    have k1 := wa5.cell 1
    simp at k0 k1
    go_wp2_with fail
    refine (C17 _).mono ?_
    rintro e w' ⟨rfl, rfl⟩
    go_wp2_with fail
    refine (CA _).mono ?_
    rintro e w' ⟨rfl, rfl⟩
    go_upto_region 13 with (fail)
    rw [EH.out]
    go_wp2_with fail
    go_ret
    exact ⟨rfl, hb15⟩
end Go.Proofs.YtmfldcacjpligaaDoor
