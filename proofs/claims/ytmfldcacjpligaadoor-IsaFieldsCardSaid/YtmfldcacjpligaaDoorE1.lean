/-
  IsaEncodes, IsaDecodes: the walks of the laws.
-/
import Derived.Test.YtmfldcacjpligaaDoorW11
namespace Go.Proofs.YtmfldcacjpligaaDoor
open Go.RowKit
def Yes (w : World) (e : Ending) (w' : World) : Prop := e = .returned (.bool true) ∧ Below w.heap.size w w'
theorem dec_of_enc {i : Is.Ins} {x : Int} (h : Is.enc i = (x, 0)) : decR x = (i, 0) := by
  obtain ⟨h1, h2, h3, _⟩ := Is.dec_enc h
  exact decR_some (by rw [show x % 4294967296 = x by omega]; exact h1)
theorem decode_lit {n : Int} {i : Is.Ins} {y : Int} (h : decR n = (i, y)) (w : World) : Calls Tryd.prog 22 #[.int .i64 n] w fun e w' => e = .returned (.tuple #[insV i, .int .i64 y]) ∧ Below w.heap.size w w' := by
  have k := decode_any n w
  unfold DecPost at k
  rw [h] at k
  exact k
theorem rdecode_lit {n : Int} {i : Is.Ins} {y : Int} (h : decR n = (i, y)) (w : World) : Calls Tryd.prog 23 #[.int .i64 n] w fun e w' => e = .returned (.tuple #[insV i, .int .i64 y]) ∧ Below w.heap.size w w' := by
  have k := rdec_any n w
  unfold DecPost at k
  rw [h] at k
  exact k
set_option maxRecDepth 100000 in
set_option maxHeartbeats 4000000 in
theorem isaEncodes_any (i : Is.Ins) (w : World) (ht : Tabs w) : Calls Tryd.prog 7 #[insV i] w (Yes w) := by
  obtain ⟨⟨x, y⟩, hxy⟩ : ∃ p, Is.enc i = p := ⟨_, rfl⟩
  have C12 := enc_lit hxy
  have C15 := renc_lit hxy
  have HXY := Lib.hid hxy
  clear hxy
  obtain ⟨op, a, b, c, n⟩ := i
  unfold insV at C12 C15 ⊢
  have hb1 := (Below.refl w.heap.size w).alloc (Nat.le_refl _) (.cells #[.int .i64 op, .int .i64 a, .int .i64 b, .int .i64 c, .int .i64 n] 23)
  have wa := Whole.made w 23 #[.int .i64 op, .int .i64 a, .int .i64 b, .int .i64 c, .int .i64 n]
  have HT := Lib.hid (ht.below hb1)
  clear ht
  go_enter Tryd.func7, Tryd.ntmps7
  go_wp2_with fail
  refine (alive_any _ HT.out).mono ?_
  rintro e w2 ⟨rfl, hb2⟩
  have hb12 := hb1.trans (hb2.mono (by simp))
  have hz2 := hb12.size
  have wa2 := wa.same (hb2.block _ (by simp))
  have k0 := wa2.cell 0
  have k1 := wa2.cell 1
  have k2 := wa2.cell 2
  have k3 := wa2.cell 3
  have k4 := wa2.cell 4
  simp at k0 k1 k2 k3 k4
  go_wp2_with fail
  refine (C12 _).mono ?_
  rintro e w3 ⟨rfl, hb3⟩
  have hb13 := hb12.trans (hb3.mono hz2)
  have hz3 := hb13.size
  have wa3 := wa2.same (hb3.block _ wa2.lt)
  clear k0 k1 k2 k3 k4
  have k0 := wa3.cell 0
  have k1 := wa3.cell 1
  have k2 := wa3.cell 2
  have k3 := wa3.cell 3
  have k4 := wa3.cell 4
  simp at k0 k1 k2 k3 k4
  go_wp2_with fail
  refine (C15 _).mono ?_
  rintro e w4 ⟨rfl, hb4⟩
  have hb14 := hb13.trans (hb4.mono hz3)
  have hz4 := hb14.size
  have wa4 := wa3.same (hb4.block _ wa3.lt)
  clear k0 k1 k2 k3 k4
  have k0 := wa4.cell 0
  have k1 := wa4.cell 1
  have k2 := wa4.cell 2
  have k3 := wa4.cell 3
  have k4 := wa4.cell 4
  simp at k0 k1 k2 k3 k4
  go_wp2_with fail
  refine (num_any _ _).mono ?_
  rintro e w' ⟨rfl, rfl⟩
  have exx : (x == x) = true := by simp
  have eyy : (y == y) = true := by simp
  have nxx : (x != x) = false := by simp
  have nyy : (y != y) = false := by simp
  by_cases hy : y = 0
  · subst hy
    have C22 := decode_lit (dec_of_enc HXY.out)
    unfold insV at C22
    go_wp2_with fail
    refine (C22 _).mono ?_
    rintro e w5 ⟨rfl, hb5⟩
    have hb15 := hb14.trans (hb5.mono hz4)
    have wa5 := wa4.same (hb5.block _ wa4.lt)
    have hne : ¬ w.heap.size = w5.heap.size := by have := wa5.lt; omega
    clear k0 k1 k2 k3 k4
    have k0 := wa5.cell 0
    have k1 := wa5.cell 1
    have k2 := wa5.cell 2
    have k3 := wa5.cell 3
    have k4 := wa5.cell 4
    simp at k0 k1 k2 k3 k4
    have hlt5 : w.heap.size < w5.heap.size := wa5.lt
    have n0 := World.new_ne w5 ⟨w.heap.size, 0, none⟩ k0
    have n1 := World.new_ne w5 ⟨w.heap.size, 1, none⟩ k1
    have n2 := World.new_ne w5 ⟨w.heap.size, 2, none⟩ k2
    have n3 := World.new_ne w5 ⟨w.heap.size, 3, none⟩ k3
    have n4 := World.new_ne w5 ⟨w.heap.size, 4, none⟩ k4
    go_wp2_with fail
    refine (num_any _ _).mono ?_
    rintro e w' ⟨rfl, rfl⟩
    go_wp2_with fail
    go_ret
    exact ⟨rfl, hb15.alloc hb15.size _⟩
  · have ey : (y == 0) = false := ne_eq hy
    have ey' : (y != 0) = true := by rw [bne_iff_ne]; exact hy
    clear hy
    go_wp2_with fail
    go_ret
    exact ⟨rfl, hb14⟩
theorem decR_zero {n : Int} {i : Is.Ins} (h : decR n = (i, 0)) : Is.enc i = (n % 4294967296, 0) := by
  unfold decR Is.dec at h
  rcases hd : Is.decW (n % 4294967296) with _ | j
  · rw [hd] at h
    injection h with _ h
    exact absurd h (by decide)
  · rw [hd] at h
    injection h with h _
    subst h
    exact (Is.enc_dec (by omega) (by omega) hd).2
set_option maxRecDepth 100000 in
set_option maxHeartbeats 4000000 in
theorem isaDecodes_any (n : Int) (w : World) (ht : Tabs w) : Calls Tryd.prog 8 #[.int .i64 n] w (Yes w) := by
  obtain ⟨⟨i, y⟩, hxy⟩ : ∃ p, decR n = p := ⟨_, rfl⟩
  have C22 := decode_lit hxy
  have C23 := rdecode_lit hxy
  have HXY := Lib.hid hxy
  clear hxy
  have HT := Lib.hid ht
  clear ht
  obtain ⟨op, a, b, c, m⟩ := i
  unfold insV at C22 C23
  go_enter Tryd.func8, Tryd.ntmps8
  go_wp2_with fail
  refine (alive_any _ HT.out).mono ?_
  rintro e w1 ⟨rfl, hb1⟩
  have hz1 := hb1.size
  go_wp2_with fail
  refine (C22 _).mono ?_
  rintro e w2 ⟨rfl, hb2⟩
  have hb12 := hb1.trans (hb2.mono hz1)
  have hz2 := hb12.size
  go_wp2_with fail
  refine (C23 _).mono ?_
  rintro e w3 ⟨rfl, hb3⟩
  have wa3 := (Whole.made w2 23 #[.int .i64 op, .int .i64 a, .int .i64 b, .int .i64 c, .int .i64 m]).same (hb3.block _ (by simp))
  have hb13 := hb12.trans (((Below.refl w2.heap.size w2).alloc (Nat.le_refl _) (.cells #[.int .i64 op, .int .i64 a, .int .i64 b, .int .i64 c, .int .i64 m] 23)).trans (hb3.mono (by simp)) |>.mono hz2)
  have hz3 := hb13.size
  have hlt3 := wa3.lt
  have hne3 : ¬ w2.heap.size = w3.heap.size := by omega
  have k0 := wa3.cell 0
  have k1 := wa3.cell 1
  have k2 := wa3.cell 2
  have k3 := wa3.cell 3
  have k4 := wa3.cell 4
  simp at k0 k1 k2 k3 k4
  have n0 := World.new_ne w3 ⟨w2.heap.size, 0, none⟩ k0
  have n1 := World.new_ne w3 ⟨w2.heap.size, 1, none⟩ k1
  have n2 := World.new_ne w3 ⟨w2.heap.size, 2, none⟩ k2
  have n3 := World.new_ne w3 ⟨w2.heap.size, 3, none⟩ k3
  have n4 := World.new_ne w3 ⟨w2.heap.size, 4, none⟩ k4
  have eyy : (y == y) = true := by simp
  have nyy : (y != y) = false := by simp
  go_wp2_with fail
  refine (num_any _ _).mono ?_
  rintro e w' ⟨rfl, rfl⟩
  by_cases hy : y = 0
  · subst hy
    have C12 := enc_lit (decR_zero HXY.out)
    unfold insV at C12
    have C24 := rW_any n
    obtain ⟨v, ev⟩ : ∃ v, n % 4294967296 = v := ⟨_, rfl⟩
    rw [ev] at C12
    have C24' : ∀ W, Calls Tryd.prog 24 #[.int .i64 n] W fun e w' => e = .returned (.int .i64 v) ∧ W = w' := fun W => by
      have h := C24 W
      rw [ev] at h
      exact h
    have evv : (v == v) = true := by simp
    clear C24 ev
    go_wp2_with fail
    refine (C12 _).mono ?_
    rintro e w5 ⟨rfl, hb5⟩
    go_wp2_with fail
    refine (num_any _ _).mono ?_
    rintro e w' ⟨rfl, rfl⟩
    go_wp2_with fail
    refine (C24' _).mono ?_
    rintro e w' ⟨rfl, rfl⟩
    go_wp2_with fail
    go_ret
    exact ⟨rfl, (hb13.alloc hz3 _).trans (hb5.mono (by simp; omega))⟩
  · have ey : (y == 0) = false := ne_eq hy
    have ey' : (y != 0) = true := by rw [bne_iff_ne]; exact hy
    clear hy
    go_wp2_with fail
    go_ret
    exact ⟨rfl, hb13.alloc hz3 _⟩
end Go.Proofs.YtmfldcacjpligaaDoor
