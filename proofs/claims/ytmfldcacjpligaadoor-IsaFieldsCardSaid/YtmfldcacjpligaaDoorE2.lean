/-
  IsaSigns, IsaAll: the walks of the laws.
-/
import Derived.Test.YtmfldcacjpligaaDoorE1
namespace Go.Proofs.YtmfldcacjpligaaDoor
open Go.RowKit
theorem form_lit {op : Int} {cd : UInt8} (f : Is.form op = cd) (w : World) : Calls Tryd.prog 17 #[.int .i64 op] w fun e w' => e = .returned (.tuple #[.int .u8 (cd.toNat : Int), nameV op]) ∧ w = w' := by
  have h := rform_any op w
  rw [f] at h
  exact h
theorem sign_law {op n half m2 : Int} {cd : UInt8} (hc : cd = 73 ∧ half = 32768 ∧ m2 = 65536 ∨ cd = 74 ∧ half = 524288 ∧ m2 = 1048576) (f : Is.form op = cd) :
    (n < -half ∨ half ≤ n → Is.enc ⟨op, 0, 0, 0, n⟩ = (0, 6)) ∧ (-half ≤ n → n < half → Is.enc ⟨op, 0, 0, 0, n⟩ = (op * 16777216 + n % m2, 0)) := by
  rcases hc with ⟨rfl, rfl, rfl⟩ | ⟨rfl, rfl, rfl⟩
  · have e := Is.enc_sign (n := n) (.inl f)
    rw [f, Is.shape_I] at e
    dsimp only at e
    rw [Is.p16] at e
    constructor
    · intro h
      rw [e, if_pos (by omega)]
    · intro h1 h2
      rw [e, if_neg (by omega)]
  · have e := Is.enc_sign (n := n) (.inr f)
    rw [f, Is.shape_J] at e
    dsimp only at e
    rw [Is.p20] at e
    constructor
    · intro h
      rw [e, if_pos (by omega)]
    · intro h1 h2
      rw [e, if_neg (by omega)]
set_option maxRecDepth 100000 in
set_option maxHeartbeats 4000000 in
theorem signs_I (op n : Int) (w : World) (ht : Tabs w) (f : Is.form op = 73) : Calls Tryd.prog 10 #[.int .i64 op, .int .i64 n] w (Yes w) := by
  have hr := Is.form_range (op := op) (by rw [f]; decide)
  obtain ⟨L1, L2⟩ := sign_law (n := n) (half := 32768) (m2 := 65536) (by decide) f
  have C17 : ∀ W, Calls Tryd.prog 17 #[.int .i64 op] W fun e w' => e = .returned (.tuple #[.int .u8 73, nameV op]) ∧ W = w' := fun W => form_lit f W
  have HT := Lib.hid ht
  have HL1 := Lib.hid L1
  have HL2 := Lib.hid L2
  have hr0 := hr.1
  have hr1 := hr.2
  clear L1 L2 hr f ht
  by_cases h1 : n < -32768
  · have C12 := enc_lit (HL1.out (.inl h1))
    unfold insV at C12
    have d1 : decide (n < -32768) = true := decide_eq_true h1
    go_enter Tryd.func10, Tryd.ntmps10
    go_wp2_with fail
    refine (alive_any _ HT.out).mono ?_
    rintro e w1 ⟨rfl, hb1⟩
    go_wp2_with fail
    refine (C17 _).mono ?_
    rintro e w' ⟨rfl, rfl⟩
    go_wp2_with fail
    refine (C12 _).mono ?_
    rintro e w2 ⟨rfl, hb2⟩
    go_wp2_with fail
    refine (num_any _ _).mono ?_
    rintro e w' ⟨rfl, rfl⟩
    go_wp2_with fail
    go_ret
    exact ⟨rfl, hb1.trans (hb2.mono hb1.size)⟩
  have d1 : decide (n < -32768) = false := decide_eq_false h1
  by_cases h2 : 32768 ≤ n
  · have C12 := enc_lit (HL1.out (.inr h2))
    unfold insV at C12
    have d2 : decide (32768 ≤ n) = true := decide_eq_true h2
    go_enter Tryd.func10, Tryd.ntmps10
    go_wp2_with fail
    refine (alive_any _ HT.out).mono ?_
    rintro e w1 ⟨rfl, hb1⟩
    go_wp2_with fail
    refine (C17 _).mono ?_
    rintro e w' ⟨rfl, rfl⟩
    go_wp2_with fail
    refine (C12 _).mono ?_
    rintro e w2 ⟨rfl, hb2⟩
    go_wp2_with fail
    refine (num_any _ _).mono ?_
    rintro e w' ⟨rfl, rfl⟩
    go_wp2_with fail
    go_ret
    exact ⟨rfl, hb1.trans (hb2.mono hb1.size)⟩
  have d2 : decide (32768 ≤ n) = false := decide_eq_false h2
  have hb1' : -32768 ≤ n := by omega
  have hb2' : n < 32768 := by omega
  have hE := HL2.out hb1' hb2'
  have D := dec_of_enc hE
  have e1 : bits .and .i64 n 65535 = n % 65536 := land16 n
  obtain ⟨m, em⟩ : ∃ m, n % 65536 = m := ⟨_, rfl⟩
  have e2 : bits .or .i64 (op * 16777216) (n % 65536) = op * 16777216 + n % 65536 := lor_sum _ _ 24 (by decide) (by omega) (by omega) (by omega) (by omega) (by omega)
  rw [em] at hE D e1 e2
  have hm0 : 0 ≤ m := by omega
  have hm1 : m < 65536 := by omega
  clear em
  obtain ⟨X, eX⟩ : ∃ X, op * 16777216 + m = X := ⟨_, rfl⟩
  rw [eX] at hE D e2
  have C12 := enc_lit hE
  have C22 := decode_lit D
  unfold insV at C12 C22
  have exx : (X == X) = true := by simp
  have enn : (n == n) = true := by simp
  clear hE D eX
  go_enter Tryd.func10, Tryd.ntmps10
  go_wp2_with fail
  refine (alive_any _ HT.out).mono ?_
  rintro e w1 ⟨rfl, hb1⟩
  go_wp2_with fail
  refine (C17 _).mono ?_
  rintro e w' ⟨rfl, rfl⟩
  go_wp2_with fail
  refine (C12 _).mono ?_
  rintro e w2 ⟨rfl, hb2⟩
  have hb12 := hb1.trans (hb2.mono hb1.size)
  go_wp2_with fail
  refine (C22 _).mono ?_
  rintro e w3 ⟨rfl, hb3⟩
  have hb13 := hb12.trans (hb3.mono hb12.size)
  go_wp2_with fail
  refine (num_any _ _).mono ?_
  rintro e w' ⟨rfl, rfl⟩
  go_wp2_with fail
  refine (num_any _ _).mono ?_
  rintro e w' ⟨rfl, rfl⟩
  go_wp2_with fail
  go_ret
  exact ⟨rfl, hb13.alloc hb13.size _⟩
set_option maxRecDepth 100000 in
set_option maxHeartbeats 4000000 in
theorem signs_J (op n : Int) (w : World) (ht : Tabs w) (f : Is.form op = 74) : Calls Tryd.prog 10 #[.int .i64 op, .int .i64 n] w (Yes w) := by
  have hr := Is.form_range (op := op) (by rw [f]; decide)
  obtain ⟨L1, L2⟩ := sign_law (n := n) (half := 524288) (m2 := 1048576) (by decide) f
  have C17 : ∀ W, Calls Tryd.prog 17 #[.int .i64 op] W fun e w' => e = .returned (.tuple #[.int .u8 74, nameV op]) ∧ W = w' := fun W => form_lit f W
  have HT := Lib.hid ht
  have HL1 := Lib.hid L1
  have HL2 := Lib.hid L2
  have hr0 := hr.1
  have hr1 := hr.2
  clear L1 L2 hr f ht
  by_cases h1 : n < -524288
  · have C12 := enc_lit (HL1.out (.inl h1))
    unfold insV at C12
    have d1 : decide (n < -524288) = true := decide_eq_true h1
    go_enter Tryd.func10, Tryd.ntmps10
    go_wp2_with fail
    refine (alive_any _ HT.out).mono ?_
    rintro e w1 ⟨rfl, hb1⟩
    go_wp2_with fail
    refine (C17 _).mono ?_
    rintro e w' ⟨rfl, rfl⟩
    go_wp2_with fail
    refine (C12 _).mono ?_
    rintro e w2 ⟨rfl, hb2⟩
    go_wp2_with fail
    refine (num_any _ _).mono ?_
    rintro e w' ⟨rfl, rfl⟩
    go_wp2_with fail
    go_ret
    exact ⟨rfl, hb1.trans (hb2.mono hb1.size)⟩
  have d1 : decide (n < -524288) = false := decide_eq_false h1
  by_cases h2 : 524288 ≤ n
  · have C12 := enc_lit (HL1.out (.inr h2))
    unfold insV at C12
    have d2 : decide (524288 ≤ n) = true := decide_eq_true h2
    go_enter Tryd.func10, Tryd.ntmps10
    go_wp2_with fail
    refine (alive_any _ HT.out).mono ?_
    rintro e w1 ⟨rfl, hb1⟩
    go_wp2_with fail
    refine (C17 _).mono ?_
    rintro e w' ⟨rfl, rfl⟩
    go_wp2_with fail
    refine (C12 _).mono ?_
    rintro e w2 ⟨rfl, hb2⟩
    go_wp2_with fail
    refine (num_any _ _).mono ?_
    rintro e w' ⟨rfl, rfl⟩
    go_wp2_with fail
    go_ret
    exact ⟨rfl, hb1.trans (hb2.mono hb1.size)⟩
  have d2 : decide (524288 ≤ n) = false := decide_eq_false h2
  have hb1' : -524288 ≤ n := by omega
  have hb2' : n < 524288 := by omega
  have hE := HL2.out hb1' hb2'
  have D := dec_of_enc hE
  have e1 : bits .and .i64 n 1048575 = n % 1048576 := land20 n
  obtain ⟨m, em⟩ : ∃ m, n % 1048576 = m := ⟨_, rfl⟩
  have e2 : bits .or .i64 (op * 16777216) (n % 1048576) = op * 16777216 + n % 1048576 := lor_sum _ _ 24 (by decide) (by omega) (by omega) (by omega) (by omega) (by omega)
  rw [em] at hE D e1 e2
  have hm0 : 0 ≤ m := by omega
  have hm1 : m < 1048576 := by omega
  clear em
  obtain ⟨X, eX⟩ : ∃ X, op * 16777216 + m = X := ⟨_, rfl⟩
  rw [eX] at hE D e2
  have C12 := enc_lit hE
  have C22 := decode_lit D
  unfold insV at C12 C22
  have exx : (X == X) = true := by simp
  have enn : (n == n) = true := by simp
  clear hE D eX
  go_enter Tryd.func10, Tryd.ntmps10
  go_wp2_with fail
  refine (alive_any _ HT.out).mono ?_
  rintro e w1 ⟨rfl, hb1⟩
  go_wp2_with fail
  refine (C17 _).mono ?_
  rintro e w' ⟨rfl, rfl⟩
  go_wp2_with fail
  refine (C12 _).mono ?_
  rintro e w2 ⟨rfl, hb2⟩
  have hb12 := hb1.trans (hb2.mono hb1.size)
  go_wp2_with fail
  refine (C22 _).mono ?_
  rintro e w3 ⟨rfl, hb3⟩
  have hb13 := hb12.trans (hb3.mono hb12.size)
  go_wp2_with fail
  refine (num_any _ _).mono ?_
  rintro e w' ⟨rfl, rfl⟩
  go_wp2_with fail
  refine (num_any _ _).mono ?_
  rintro e w' ⟨rfl, rfl⟩
  go_wp2_with fail
  go_ret
  exact ⟨rfl, hb13.alloc hb13.size _⟩
set_option maxRecDepth 100000 in
set_option maxHeartbeats 4000000 in
theorem isaSigns_any (op n : Int) (w : World) (ht : Tabs w) : Calls Tryd.prog 10 #[.int .i64 op, .int .i64 n] w (Yes w) := by
  by_cases h1 : Is.form op = 73
  · exact signs_I op n w ht h1
  by_cases h2 : Is.form op = 74
  · exact signs_J op n w ht h2
  have C17 := rform_any op
  obtain ⟨f, ef⟩ : ∃ f : Int, ((Is.form op).toNat : Int) = f := ⟨_, rfl⟩
  have g1 : f ≠ 73 := by
    rw [← ef]
    intro h
    exact h1 (UInt8.toNat_inj.1 (by show (Is.form op).toNat = 73; omega))
  have g2 : f ≠ 74 := by
    rw [← ef]
    intro h
    exact h2 (UInt8.toNat_inj.1 (by show (Is.form op).toNat = 74; omega))
  have e1 : (f == 73) = false := ne_eq g1
  have e2 : (f == 74) = false := ne_eq g2
  have n1 : (f != 73) = true := by rw [bne_iff_ne]; exact g1
  have n2 : (f != 74) = true := by rw [bne_iff_ne]; exact g2
  simp only [ef] at C17
  have HT := Lib.hid ht
  clear h1 h2 ef g1 g2 ht
  go_enter Tryd.func10, Tryd.ntmps10
  go_wp2_with fail
  refine (alive_any _ HT.out).mono ?_
  rintro e w1 ⟨rfl, hb1⟩
  go_wp2_with fail
  refine (C17 _).mono ?_
  rintro e w' ⟨rfl, rfl⟩
  go_wp2_with fail
  go_ret
  exact ⟨rfl, hb1⟩
/-! All. -/
/-- How many operations there are below a number. -/
def cntI (z : Int) : Nat := if z ≤ 0 then 0 else if 71 ≤ z then 44 else Is.cnt z.toNat
theorem cntI_succ (z : Int) : cntI (z + 1) = cntI z + (if Is.form z = 0 then 0 else 1) := by
  by_cases h0 : z < 0
  · have hf : Is.form z = 0 := by unfold Is.form; rw [Is.rowOf_none (by omega)]
    unfold cntI
    rw [if_pos (by omega), if_pos (by omega), if_pos hf]
  · obtain ⟨k, rfl⟩ : ∃ k : Nat, z = k := ⟨z.toNat, by omega⟩
    by_cases h1 : k < 71
    · have hs := Is.cnt_succ h1
      have e1 : cntI k = Is.cnt k := by
        unfold cntI
        by_cases hk : k = 0
        · subst hk
          rw [if_pos (by decide)]
          rfl
        · rw [if_neg (by omega), if_neg (by omega), Int.toNat_natCast]
      have e2 : cntI ((k : Int) + 1) = Is.cnt (k + 1) := by
        unfold cntI
        by_cases hk : k = 70
        · subst hk
          rw [if_neg (by decide), if_pos (by decide)]
          exact Is.cnt_all.symm
        · rw [if_neg (by omega), if_neg (by omega)]
          rfl
      rw [e1, e2, hs]
    · have hf : Is.form k = 0 := by unfold Is.form; rw [Is.rowOf_none (by omega)]
      unfold cntI
      rw [if_neg (by omega), if_pos (by omega), if_neg (by omega), if_pos (by omega), if_pos hf]
theorem cntI_le (z : Int) : cntI z ≤ 71 := by
  unfold cntI
  split
  · omega
  · split
    · omega
    · have := Is.cnt_le z.toNat
      omega
theorem cntI_all {from_ : Int} (h1 : -185 ≤ from_) (h2 : from_ ≤ 1) : cntI (from_ + 256) = 44 ∧ cntI from_ = 0 := by
  constructor
  · unfold cntI
    rw [if_neg (by omega), if_pos (by omega)]
  · unfold cntI
    by_cases h : from_ ≤ 0
    · rw [if_pos h]
    · obtain rfl : from_ = 1 := by omega
      rfl
set_option maxRecDepth 100000 in
set_option maxHeartbeats 4000000 in
theorem isaAll_any (a : Int) (w : World) (ht : Tabs w) : Calls Tryd.prog 6 #[.int .i64 a] w (Yes w) := by
  have HT := Lib.hid ht
  clear ht
  by_cases h1 : a < -1000
  · have d1 : decide (a < -1000) = true := decide_eq_true h1
    go_enter Tryd.func6, Tryd.ntmps6
    go_wp2_with fail
    refine (alive_any _ HT.out).mono ?_
    rintro e w1 ⟨rfl, hb1⟩
    go_wp2_with fail
    go_ret
    exact ⟨rfl, hb1⟩
  have d1 : decide (a < -1000) = false := decide_eq_false h1
  by_cases h2 : 1000 < a
  · have d2 : decide (1000 < a) = true := decide_eq_true h2
    go_enter Tryd.func6, Tryd.ntmps6
    go_wp2_with fail
    refine (alive_any _ HT.out).mono ?_
    rintro e w1 ⟨rfl, hb1⟩
    go_wp2_with fail
    go_ret
    exact ⟨rfl, hb1⟩
  have d2 : decide (1000 < a) = false := decide_eq_false h2
  have b1 : -1000 ≤ a := by omega
  have b2 : a ≤ 1000 := by omega
  go_enter Tryd.func6, Tryd.ntmps6
  go_wp2_with fail
  refine (alive_any _ HT.out).mono ?_
  rintro e w1 ⟨rfl, hb1⟩
  have HT1 := Lib.hid (HT.out.below hb1)
  go_wp2_with fail
  go_loopg [5, 4] 256 (fun kk ov nv wr => ∃ (k : Nat) (c : Int), k ≤ 256 ∧ ov = .int .i64 (a + k) ∧ nv = .int .i64 c ∧ c = (cntI (a + k) : Int) - cntI a ∧ Below w1.heap.size w1 wr ∧ 256 - k ≤ kk)
  case atStart => exact ⟨0, 0, Nat.zero_le _, by rw [show a + ((0 : Nat) : Int) = a by omega], rfl, by rw [show a + ((0 : Nat) : Int) = a by omega]; omega, Below.refl _ _, by omega⟩
  case round =>
    obtain ⟨k, c, hk, rfl, rfl, hc, hbr, hkk⟩ := hrel
    obtain ⟨wo, rfl⟩ : ∃ wo : World, wo = wr := ⟨_, rfl⟩
    have hzo := hbr.size
    have hc1 := cntI_le (a + k)
    have hc2 := cntI_le a
    have hcb1 : -71 ≤ c := by omega
    have hcb2 : c ≤ 71 := by omega
    have HC := Lib.hid hc
    clear hc hc1 hc2
    by_cases hlt : k < 256
    · have hlt' : a + (k : Int) < a + 256 := by omega
      have HS := Lib.hid (cntI_succ (a + k))
      have HTO := Lib.hid (HT1.out.below hbr)
      obtain ⟨o, eo⟩ : ∃ o : Int, a + k = o := ⟨_, rfl⟩
      have ob1 : -1000 ≤ o := by omega
      have ob2 : o ≤ 1256 := by omega
      have hoa : o < a + 256 := by omega
      have HO := Lib.hid eo
      rw [eo] at HS HC ⊢
      clear eo hlt'
      obtain ⟨S, eS⟩ : ∃ S : ByteArray, (⟨(Is.name o).toArray⟩ : ByteArray) = S := ⟨_, rfl⟩
      have hS : bytesOf S = Is.name o := by rw [← eS]; rfl
      have C16 := name_any o wo HTO.out
      unfold NamePost nameV at C16
      rw [eS] at C16
      have HBS := Lib.hid hS
      clear eS hS
      by_cases hf : Is.form o = 0
      · obtain rfl : S = ⟨#[]⟩ := bytesOf_inj (HBS.out.trans (Is.name_none hf))
        have HF := Lib.hid hf
        clear hf
        go_wp2_with fail
        refine C16.mono ?_
        rintro e w2 ⟨rfl, hb2⟩
        go_wp2_with fail
        go_roundg (256 - (k + 1))
        case measure => omega
        case rel => exact ⟨k + 1, c, by omega, by have := HO.out; congr 1; omega, rfl, by rw [show a + ((k + 1 : Nat) : Int) = o + 1 by have := HO.out; omega, HS.out, if_pos HF.out]; exact HC.out, hbr.trans (hb2.mono hzo), Nat.le_refl _⟩
      · have hne : bytesOf S ≠ [] := by rw [HBS.out]; exact (Is.opOf_name hf).2.1
        have e0 : S.toList.isEmpty = false := by
          rw [ByteArray.toList_eq]
          exact List.isEmpty_eq_false_iff.2 hne
        have e0' : (!S.toList.isEmpty) = true := by rw [e0]; rfl
        have e0'' : ¬ S.toList = [] := by rw [ByteArray.toList_eq]; exact hne
        have HOP : Hid (Is.opOf (bytesOf S) = o) := by show _ = _; rw [HBS.out]; exact (Is.opOf_name hf).1
        have HF := Lib.hid hf
        have eoo : (o == o) = true := by simp
        have noo : (o != o) = false := by simp
        clear hf hne
        go_wp2_with fail
        refine C16.mono ?_
        rintro e w2 ⟨rfl, hb2⟩
        have hbr2 := hbr.trans (hb2.mono hzo)
        have C19 := op_any S w2 (HT1.out.below hbr2)
        unfold OpPost at C19
        rw [HOP.out] at C19
        go_wp2_with fail
        refine C19.mono ?_
        rintro e w3 ⟨rfl, hb3⟩
        go_wp2_with fail
        go_roundg (256 - (k + 1))
        case measure => omega
        case rel => exact ⟨k + 1, c + 1, by omega, by have := HO.out; congr 1; omega, by go_num, by rw [show a + ((k + 1 : Nat) : Int) = o + 1 by have := HO.out; omega, HS.out, if_neg HF.out]; have := HC.out; omega, hbr2.trans (hb3.mono hbr2.size), Nat.le_refl _⟩
    · have hge : ¬ a + (k : Int) < a + 256 := by omega
      obtain rfl : k = 256 := by omega
      have hb := hb1.trans (hbr.mono hb1.size)
      by_cases h3 : 1 < a
      · have d3 : decide (1 < a) = true := decide_eq_true h3
        go_wp2_with fail
        go_ret
        exact ⟨rfl, hb⟩
      have d3 : decide (1 < a) = false := decide_eq_false h3
      by_cases h4 : a < -185
      · have d4 : decide (a < -185) = true := decide_eq_true h4
        go_wp2_with fail
        go_ret
        exact ⟨rfl, hb⟩
      have d4 : decide (a < -185) = false := decide_eq_false h4
      obtain ⟨q1, q2⟩ := cntI_all (from_ := a) (by omega) (by omega)
      have hc44 : c = 44 := by
        have h := HC.out
        rw [show a + ((256 : Nat) : Int) = a + 256 by omega, q1, q2] at h
        omega
      subst hc44
      clear q1 q2
      go_wp2_with fail
      go_ret
      exact ⟨rfl, hb⟩
end Go.Proofs.YtmfldcacjpligaaDoor
