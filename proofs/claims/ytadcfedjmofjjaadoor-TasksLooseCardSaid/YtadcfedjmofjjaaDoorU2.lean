/-
  TasksLoose: the walk of the law.
-/
import Derived.Test.YtadcfedjmofjjaaDoorT2
import Derived.Test.YtadcfedjmofjjaaDoorU1
import Derived.Test.YtadcfedjmofjjaaDoorNoise
import Derived.Test.YtadcfedjmofjjaaDoorA2
namespace Go.Proofs.YtadcfedjmofjjaaDoor
open Go.RowKit
/-- What has been written and what is left make the whole. -/
def NState (l : List UInt8) (pick : Nat → Int) (i k : Nat) (out : ByteArray) (bg : Bool) : Prop :=
  bytesOf out ++ Tk.noise pick (l.drop i) k bg = Tk.noise pick l 0 true ∧ (out.size : Int) ≤ 9 * i
theorem nstep {l : List UInt8} {pick : Nat → Int} {i k k' : Nat} {out X Y : ByteArray} {bg bg' : Bool} {c : UInt8} (h : NState l pick i k out bg) (hi : i < l.length) (hc : l[i] = c)
    (hX : bytesOf X = Tk.pre bg (pick k) c) (hY : bytesOf Y = [c]) (hd : ¬ (bg = true ∧ pick k = 3 ∧ c = 32)) (hk : k' = if bg = true ∨ c = 32 ∨ c = 10 then k + 1 else k) (hb : bg' = decide (c = 10)) :
    NState l pick (i + 1) k' (out ++ X ++ Y) bg' := by
  obtain ⟨h1, h2⟩ := h
  constructor
  · rw [List.drop_eq_getElem_cons hi, hc, Tk.noise, if_neg hd, ← hX, ← hk, ← hb] at h1
    rw [bytesOf_app, bytesOf_app, hY, ← h1]
    simp
  · have hx : X.size ≤ 8 := by
      rw [← bytesOf_len, hX]
      unfold Tk.pre
      repeat' split
      all_goals decide
    have hy : Y.size = 1 := by rw [← bytesOf_len, hY]; rfl
    simp only [ByteArray.size_append]
    omega
theorem nstep0 {l : List UInt8} {pick : Nat → Int} {i k k' : Nat} {out Y : ByteArray} {bg bg' : Bool} {c : UInt8} (h : NState l pick i k out bg) (hi : i < l.length) (hc : l[i] = c)
    (hX : Tk.pre bg (pick k) c = []) (hY : bytesOf Y = [c]) (hd : ¬ (bg = true ∧ pick k = 3 ∧ c = 32)) (hk : k' = if bg = true ∨ c = 32 ∨ c = 10 then k + 1 else k) (hb : bg' = decide (c = 10)) :
    NState l pick (i + 1) k' (out ++ Y) bg' := by
  obtain ⟨h1, h2⟩ := h
  constructor
  · rw [List.drop_eq_getElem_cons hi, hc, Tk.noise, if_neg hd, hX, ← hk, ← hb] at h1
    rw [bytesOf_app, hY, ← h1]
    simp
  · have hy : Y.size = 1 := by rw [← bytesOf_len, hY]; rfl
    simp only [ByteArray.size_append]
    omega
theorem ndot {l : List UInt8} {pick : Nat → Int} {i k : Nat} {out : ByteArray} (h : NState l pick i k out true) (hi : i < l.length) (hc : l[i] = 32) (hp : pick k = 3) :
    NState l pick (i + 1) (k + 1) (out ++ ⟨#[194, 183]⟩) false := by
  obtain ⟨h1, h2⟩ := h
  constructor
  · rw [List.drop_eq_getElem_cons hi, hc, Tk.noise, if_pos ⟨rfl, hp, rfl⟩] at h1
    rw [bytesOf_app, ← h1]
    simp [bytesOf]
  · simp only [ByteArray.size_append]
    have : (⟨#[194, 183]⟩ : ByteArray).size = 2 := rfl
    omega
def noiseP (z : List Int) (k : Nat) : Int := if k < z.length then bits .and .i64 (z.getD k 0) 7 else 0
def NRel (S : ByteArray) (z : List Int) (w1 : World) (kk : Nat) (iv ov kv bv : Value) (wr : World) : Prop :=
  ∃ (i k : Nat) (out : ByteArray) (bg : Bool), i ≤ S.size ∧ k ≤ i ∧ iv = .int .i64 i ∧ ov = .string out ∧ kv = .int .i64 k ∧ bv = .bool bg ∧ NState (bytesOf S) (noiseP z) i k out bg ∧ Below w1.heap.size w1 wr ∧ S.size - i ≤ kk
theorem u8_ne {c : UInt8} {n : Nat} [OfNat UInt8 n] (h : c ≠ OfNat.ofNat n) (hn : (OfNat.ofNat n : UInt8).toNat = n := by rfl) : ((c.toNat : Int) == (n : Int)) = false := by
  rw [beq_eq_false_iff_ne]
  intro e
  exact h (UInt8.toNat_inj.1 (by rw [hn]; omega))
theorem pick_cases (n : Int) : n = 1 ∨ n = 2 ∨ n = 3 ∨ n = 4 ∨ n = 5 ∨ (n ≠ 1 ∧ n ≠ 2 ∧ n ≠ 3 ∧ n ≠ 4 ∧ n ≠ 5) := by omega
theorem pick_cases2 (n : Int) : n = 4 ∨ n = 5 ∨ (n ≠ 4 ∧ n ≠ 5) := by omega
theorem byte_cases (c : UInt8) : c = 32 ∨ c = 10 ∨ (c ≠ 32 ∧ c ≠ 10) := by
  by_cases h : c = 32
  · exact .inl h
  · by_cases h2 : c = 10
    · exact .inr (.inl h2)
    · exact .inr (.inr ⟨h, h2⟩)
theorem one_byte (S : ByteArray) {i : Nat} (h : i < (bytesOf S).length) : bytesOf (S.extract i (i + 1)) = [(bytesOf S)[i]] := by
  rw [extract_eq]
  show ((bytesOf S).take (i + 1)).drop i = _
  rw [List.take_succ_eq_append_getElem h, List.drop_append_of_le_length (by rw [List.length_take]; omega), List.drop_of_length_le (by rw [List.length_take]; omega), List.nil_append]

set_option maxRecDepth 100000 in
set_option maxHeartbeats 8000000 in
theorem tasksLoose_any {w : World} {A1 A2 A3 A4 : Option Addr} {c1 c2 c3 c4 : Nat} {t : Tk.Table} (hr : TabRd w w.heap.size A1 A2 A3 t) (hbd : ∀ x ∈ t.tasks, (x.ops.length : Int) ≤ 140737488355328)
    {z : List Int} (hz : Reads w w.heap.size 1 A4 z.length (intV z)) (hzl : z.length ≤ maxLen) (m0 : Int) (hm : w.cell? ⟨0, 0, none⟩ = some (.int .i64 m0)) :
    Calls Tryd.prog 4 #[.agg #[.slice A1 t.tasks.length c1, .slice A2 t.sems.length c2, .int .i64 t.mutexes, .slice A3 t.queues.length c3], .slice A4 z.length c4] w
      fun e w' => e = .returned (.bool true) ∧ Below w.heap.size w w' := by
  have hz0 : 0 < w.heap.size := block_lt_of_cell hm
  unfold maxLen at hzl
  obtain ⟨T, hT⟩ : ∃ T, T = Obj.cells #[.slice A1 t.tasks.length c1, .slice A2 t.sems.length c2, .int .i64 t.mutexes, .slice A3 t.queues.length c3] 26 := ⟨_, rfl⟩
  have hb1 := (Below.refl w.heap.size w).alloc (Nat.le_refl _) T
  have wh1 : Whole (w.alloc T) w.heap.size 26 #[.slice A1 t.tasks.length c1, .slice A2 t.sems.length c2, .int .i64 t.mutexes, .slice A3 t.queues.length c3] := by rw [hT]; exact Whole.made _ _ _
  have hm1 := (hb1.cell (p := ⟨0, 0, none⟩) hz0).trans hm
  have HM := Lib.hid hm
  have HM1 := Lib.hid hm1
  have HR := Lib.hid hr
  have HB := Lib.hid hbd
  have HZ := Lib.hid hz
  have WH1 := Lib.hid wh1
  have HB1 := Lib.hid hb1
  have HT := Lib.hid hT
  clear hr hbd hz hm hm1 wh1 hb1 hT
  go_enter Tryd.func4, Tryd.ntmps4
  go_wp2_with fail
  rw [← HT.out]
  refine (alive_any _ m0 HM1.out).mono ?_
  rintro e w2 ⟨rfl, hb2⟩
  have hb02 := HB1.out.trans (hb2.mono (by simp))
  have z2 := hb02.size
  have z12 := hb2.size
  simp at z12
  have wh2 := WH1.out.same (hb2.block _ WH1.out.lt)
  have q0 := wh2.cell 0
  have q1 := wh2.cell 1
  have q2 := wh2.cell 2
  have q3 := wh2.cell 3
  simp at q0 q1 q2 q3
  have WH2 := Lib.hid wh2
  clear wh2
  go_wp2_with fail
  refine (big_any ((HR.out.below hb02 (Nat.le_refl _)).more z2) HB.out).mono ?_
  rintro e w3 ⟨rfl, hb3⟩
  have hb03 := hb02.trans (hb3.mono z2)
  have z3 := hb03.size
  have z23 := hb3.size
  have wh3 := WH2.out.same (hb3.block _ (by omega))
  have WH3 := Lib.hid wh3
  clear q0 q1 q2 q3
  have q0 := wh3.cell 0
  have q1 := wh3.cell 1
  have q2 := wh3.cell 2
  have q3 := wh3.cell 3
  simp at q0 q1 q2 q3
  clear wh3
  rcases hbig : big t with _ | _
  rotate_left
  · go_wp2_with fail
    go_ret
    exact ⟨rfl, hb03⟩
  clear hbig
  go_wp2_with fail
  refine (rcheck_any ((HR.out.below hb03 (Nat.le_refl _)).more z3)).mono ?_
  rintro e w4 ⟨rfl, hb4⟩
  have hb04 := hb03.trans (hb4.mono z3)
  have z4 := hb04.size
  have z34 := hb4.size
  have wh4 := WH3.out.same (hb4.block _ (by omega))
  have WH4 := Lib.hid wh4
  clear q0 q1 q2 q3
  have q0 := wh4.cell 0
  have q1 := wh4.cell 1
  have q2 := wh4.cell 2
  have q3 := wh4.cell 3
  simp at q0 q1 q2 q3
  clear wh4
  rcases hf : t.fits with _ | _
  · rw [chk_no hf]
    clear hf
    go_wp2_with fail
    go_ret
    exact ⟨rfl, hb04⟩
  rw [chk_yes hf]
  have HF := Lib.hid hf
  clear hf
  by_cases hz4 : 400 < z.length
  · have hz4' : (400 : Int) < z.length := by omega
    go_wp2_with fail
    go_ret
    exact ⟨rfl, hb04⟩
  have hz4' : ¬ (400 : Int) < z.length := by omega
  go_wp2_with fail
  refine (rtext_any ((HR.out.below hb04 (Nat.le_refl _)).more z4)).mono ?_
  rintro e w5 ⟨S, rfl, hS, hSz, hb5⟩
  have hb05 := hb04.trans (hb5.mono z4)
  have z5 := hb05.size
  have z45 := hb5.size
  have wh5 := WH4.out.same (hb5.block _ (by omega))
  have WH5 := Lib.hid wh5
  have HS := Lib.hid hS
  have hlen := Lib.hid (bytesOf_len S)
  clear q0 q1 q2 q3 wh5 hS
  go_wp2_with fail
  go_loopg [11, 8, 9, 10] S.size (fun kk iv ov kv bv wr => NRel S z w5 kk iv ov kv bv wr)
  case atStart => exact ⟨0, 0, _, true, Nat.zero_le _, Nat.le_refl _, rfl, rfl, rfl, rfl, ⟨by simp [bytesOf], by decide⟩, Below.refl _ _, by omega⟩
  case round =>
    obtain ⟨i, k, out, bg, hi, hki, rfl, rfl, rfl, rfl, hn, hbb, hkk⟩ := hrel
    obtain ⟨wo, rfl⟩ : ∃ wo : World, wo = wr := ⟨_, rfl⟩
    have hos := hn.2
    have HN := Lib.hid hn
    clear hn
    by_cases hp : i < S.size
    · have hp' : (i : Int) < S.size := by omega
      have hp2 : (i : Int) + 1 ≤ S.size := by omega
      have hiL : i < (bytesOf S).length := by have := hlen.out; omega
      have HY := Lib.hid (one_byte S hiL)
      obtain ⟨c, hgc⟩ : ∃ c, S[i]'hp = c := ⟨_, rfl⟩
      have HL : Hid ((bytesOf S)[i] = c) := hgc
      have hsl0 : ∀ W : World, (Instr.slice 9 (.string S) (some (.int .i64 i)) (some (.int .i64 (i + 1))) none).run Tryd.prog W = .ok (.string (S.extract i (i + 1))) W := fun W => run_slice_string (P := Tryd.prog) (w := W) 9 S .i64 .i64 i (i + 1) Tryd.underlying9 (by omega) (by omega) (by omega)
      obtain ⟨Y, hY⟩ : ∃ Y, S.extract i (i + 1) = Y := ⟨_, rfl⟩
      have hsl : ∀ W : World, (Instr.slice 9 (.string S) (some (.int .i64 i)) (some (.int .i64 (i + 1))) none).run Tryd.prog W = .ok (.string Y) W := by rw [← hY]; exact hsl0
      have HY : Hid (bytesOf Y = [c]) := by show _ = _; rw [← hY, HY.out, HL.out]
      have hys : (Y.size : Int) ≤ 1 := text_size HY.out (by simp)
      clear hsl0 hY
      by_cases hkz : k < z.length
      · have hkz' : (k : Int) < z.length := by omega
        have hb0o := hb05.trans (hbb.mono z5)
        obtain ⟨ad, eA, had, hcz⟩ := (HZ.out.below hb0o (Nat.le_refl _)).int hkz
        subst eA
        obtain ⟨n, hn⟩ : ∃ n, bits .and .i64 z[k] 7 = n := ⟨_, rfl⟩
        have HP : Hid (noiseP z k = n) := by show _ = _; rw [← hn]; unfold noiseP; rw [if_pos hkz, List.getD_eq_getElem?_getD, List.getElem?_eq_getElem hkz]; rfl
        generalize z[k] = zk at *
        rcases bg with _ | _
        · rcases pick_cases2 n with hnn | hnn | hnn
          · obtain rfl := hnn
            rcases byte_cases c with hcc | hcc | hcc
            · obtain rfl := hcc
              have hg : (S[i]'hp).toNat = 32 := by rw [hgc]; rfl
              clear hgc
              go_wp2_with fail
              go_roundg (S.size - (i + 1))
              case measure => omega
              case rel => exact ⟨i + 1, k + 1, _, false, by omega, by omega, by go_num, rfl, by go_num, rfl, nstep HN.out hiL HL.out (by rw [HP.out]; simp [Tk.pre, Tk.hash, Tk.blanks, bytesOf]) HY.out (by rw [HP.out]; simp) (by simp) (by simp), hbb, Nat.le_refl _⟩
            · obtain rfl := hcc
              have hg : (S[i]'hp).toNat = 10 := by rw [hgc]; rfl
              clear hgc
              go_wp2_with fail
              go_roundg (S.size - (i + 1))
              case measure => omega
              case rel => exact ⟨i + 1, k + 1, _, true, by omega, by omega, by go_num, rfl, by go_num, rfl, nstep0 HN.out hiL HL.out (by rw [HP.out]; simp [Tk.pre]) HY.out (by rw [HP.out]; simp) (by simp) (by simp), hbb, Nat.le_refl _⟩
            · have e32 : ((c.toNat : Int) == 32) = false := u8_ne hcc.1
              have e10 : ((c.toNat : Int) == 10) = false := u8_ne hcc.2
              have HC := Lib.hid hcc
              clear hcc
              have hg : (S[i]'hp).toNat = c.toNat := by rw [hgc]
              clear hgc
              go_wp2_with fail
              go_roundg (S.size - (i + 1))
              case measure => omega
              case rel => exact ⟨i + 1, k, _, false, by omega, by omega, by go_num, rfl, rfl, rfl, nstep0 HN.out hiL HL.out (by rw [HP.out]; simp [Tk.pre, HC.out]) HY.out (by rw [HP.out]; simp [HC.out]) (by simp [HC.out]) (by simp [HC.out]), hbb, Nat.le_refl _⟩
          · obtain rfl := hnn
            rcases byte_cases c with hcc | hcc | hcc
            · obtain rfl := hcc
              have hg : (S[i]'hp).toNat = 32 := by rw [hgc]; rfl
              clear hgc
              go_wp2_with fail
              go_roundg (S.size - (i + 1))
              case measure => omega
              case rel => exact ⟨i + 1, k + 1, _, false, by omega, by omega, by go_num, rfl, by go_num, rfl, nstep0 HN.out hiL HL.out (by rw [HP.out]; simp [Tk.pre]) HY.out (by rw [HP.out]; simp) (by simp) (by simp), hbb, Nat.le_refl _⟩
            · obtain rfl := hcc
              have hg : (S[i]'hp).toNat = 10 := by rw [hgc]; rfl
              clear hgc
              go_wp2_with fail
              go_roundg (S.size - (i + 1))
              case measure => omega
              case rel => exact ⟨i + 1, k + 1, _, true, by omega, by omega, by go_num, rfl, by go_num, rfl, nstep HN.out hiL HL.out (by rw [HP.out]; simp [Tk.pre, Tk.hash, Tk.blanks, bytesOf]) HY.out (by rw [HP.out]; simp) (by simp) (by simp), hbb, Nat.le_refl _⟩
            · have e32 : ((c.toNat : Int) == 32) = false := u8_ne hcc.1
              have e10 : ((c.toNat : Int) == 10) = false := u8_ne hcc.2
              have HC := Lib.hid hcc
              clear hcc
              have hg : (S[i]'hp).toNat = c.toNat := by rw [hgc]
              clear hgc
              go_wp2_with fail
              go_roundg (S.size - (i + 1))
              case measure => omega
              case rel => exact ⟨i + 1, k, _, false, by omega, by omega, by go_num, rfl, rfl, rfl, nstep0 HN.out hiL HL.out (by rw [HP.out]; simp [Tk.pre, HC.out]) HY.out (by rw [HP.out]; simp [HC.out]) (by simp [HC.out]) (by simp [HC.out]), hbb, Nat.le_refl _⟩
          · have b4 : (n == 4) = false := beq_eq_false_iff_ne.2 hnn.1
            have b5 : (n == 5) = false := beq_eq_false_iff_ne.2 hnn.2
            have HO0 := Lib.hid hnn
            clear hnn
            have HO : Hid (noiseP z k ≠ 4 ∧ noiseP z k ≠ 5) := by show _ ∧ _; rw [HP.out]; exact HO0.out
            rcases byte_cases c with hcc | hcc | hcc
            · obtain rfl := hcc
              have hg : (S[i]'hp).toNat = 32 := by rw [hgc]; rfl
              clear hgc
              go_wp2_with fail
              go_roundg (S.size - (i + 1))
              case measure => omega
              case rel => exact ⟨i + 1, k + 1, _, false, by omega, by omega, by go_num, rfl, by go_num, rfl, nstep0 HN.out hiL HL.out (by simp [Tk.pre, HO.out]) HY.out (by simp [HO.out]) (by simp) (by simp), hbb, Nat.le_refl _⟩
            · obtain rfl := hcc
              have hg : (S[i]'hp).toNat = 10 := by rw [hgc]; rfl
              clear hgc
              go_wp2_with fail
              go_roundg (S.size - (i + 1))
              case measure => omega
              case rel => exact ⟨i + 1, k + 1, _, true, by omega, by omega, by go_num, rfl, by go_num, rfl, nstep0 HN.out hiL HL.out (by simp [Tk.pre, HO.out]) HY.out (by simp [HO.out]) (by simp) (by simp), hbb, Nat.le_refl _⟩
            · have e32 : ((c.toNat : Int) == 32) = false := u8_ne hcc.1
              have e10 : ((c.toNat : Int) == 10) = false := u8_ne hcc.2
              have HC := Lib.hid hcc
              clear hcc
              have hg : (S[i]'hp).toNat = c.toNat := by rw [hgc]
              clear hgc
              go_wp2_with fail
              go_roundg (S.size - (i + 1))
              case measure => omega
              case rel => exact ⟨i + 1, k, _, false, by omega, by omega, by go_num, rfl, rfl, rfl, nstep0 HN.out hiL HL.out (by simp [Tk.pre, HO.out]) HY.out (by simp [HO.out]) (by simp [HC.out]) (by simp [HC.out]), hbb, Nat.le_refl _⟩
        · rcases pick_cases n with hnn | hnn | hnn | hnn | hnn | hnn
          · obtain rfl := hnn
            rcases byte_cases c with hcc | hcc | hcc
            · obtain rfl := hcc
              have hg : (S[i]'hp).toNat = 32 := by rw [hgc]; rfl
              clear hgc
              go_wp2_with fail
              go_roundg (S.size - (i + 1))
              case measure => omega
              case rel => exact ⟨i + 1, k + 1, _, false, by omega, by omega, by go_num, rfl, by go_num, rfl, nstep HN.out hiL HL.out (by rw [HP.out]; simp [Tk.pre, Tk.hash, Tk.blanks, bytesOf]) HY.out (by rw [HP.out]; simp) (by simp) (by simp), hbb, Nat.le_refl _⟩
            · obtain rfl := hcc
              have hg : (S[i]'hp).toNat = 10 := by rw [hgc]; rfl
              clear hgc
              go_wp2_with fail
              go_roundg (S.size - (i + 1))
              case measure => omega
              case rel => exact ⟨i + 1, k + 1, _, true, by omega, by omega, by go_num, rfl, by go_num, rfl, nstep HN.out hiL HL.out (by rw [HP.out]; simp [Tk.pre, Tk.hash, Tk.blanks, bytesOf]) HY.out (by rw [HP.out]; simp) (by simp) (by simp), hbb, Nat.le_refl _⟩
            · have e32 : ((c.toNat : Int) == 32) = false := u8_ne hcc.1
              have e10 : ((c.toNat : Int) == 10) = false := u8_ne hcc.2
              have HC := Lib.hid hcc
              clear hcc
              have hg : (S[i]'hp).toNat = c.toNat := by rw [hgc]
              clear hgc
              go_wp2_with fail
              go_roundg (S.size - (i + 1))
              case measure => omega
              case rel => exact ⟨i + 1, k + 1, _, false, by omega, by omega, by go_num, rfl, by go_num, rfl, nstep HN.out hiL HL.out (by rw [HP.out]; simp [Tk.pre, Tk.hash, Tk.blanks, bytesOf, HC.out]) HY.out (by rw [HP.out]; simp [HC.out]) (by simp) (by simp [HC.out]), hbb, Nat.le_refl _⟩
          · obtain rfl := hnn
            rcases byte_cases c with hcc | hcc | hcc
            · obtain rfl := hcc
              have hg : (S[i]'hp).toNat = 32 := by rw [hgc]; rfl
              clear hgc
              go_wp2_with fail
              go_roundg (S.size - (i + 1))
              case measure => omega
              case rel => exact ⟨i + 1, k + 1, _, false, by omega, by omega, by go_num, rfl, by go_num, rfl, nstep HN.out hiL HL.out (by rw [HP.out]; simp [Tk.pre, Tk.hash, Tk.blanks, bytesOf]) HY.out (by rw [HP.out]; simp) (by simp) (by simp), hbb, Nat.le_refl _⟩
            · obtain rfl := hcc
              have hg : (S[i]'hp).toNat = 10 := by rw [hgc]; rfl
              clear hgc
              go_wp2_with fail
              go_roundg (S.size - (i + 1))
              case measure => omega
              case rel => exact ⟨i + 1, k + 1, _, true, by omega, by omega, by go_num, rfl, by go_num, rfl, nstep HN.out hiL HL.out (by rw [HP.out]; simp [Tk.pre, Tk.hash, Tk.blanks, bytesOf]) HY.out (by rw [HP.out]; simp) (by simp) (by simp), hbb, Nat.le_refl _⟩
            · have e32 : ((c.toNat : Int) == 32) = false := u8_ne hcc.1
              have e10 : ((c.toNat : Int) == 10) = false := u8_ne hcc.2
              have HC := Lib.hid hcc
              clear hcc
              have hg : (S[i]'hp).toNat = c.toNat := by rw [hgc]
              clear hgc
              go_wp2_with fail
              go_roundg (S.size - (i + 1))
              case measure => omega
              case rel => exact ⟨i + 1, k + 1, _, false, by omega, by omega, by go_num, rfl, by go_num, rfl, nstep HN.out hiL HL.out (by rw [HP.out]; simp [Tk.pre, Tk.hash, Tk.blanks, bytesOf, HC.out]) HY.out (by rw [HP.out]; simp [HC.out]) (by simp) (by simp [HC.out]), hbb, Nat.le_refl _⟩
          · obtain rfl := hnn
            rcases byte_cases c with hcc | hcc | hcc
            · obtain rfl := hcc
              have hg : (S[i]'hp).toNat = 32 := by rw [hgc]; rfl
              clear hgc
              go_wp2_with fail
              go_roundg (S.size - (i + 1))
              case measure => omega
              case rel => exact ⟨i + 1, k + 1, _, false, by omega, by omega, by go_num, rfl, by go_num, rfl, ndot HN.out hiL HL.out HP.out, hbb, Nat.le_refl _⟩
            · obtain rfl := hcc
              have hg : (S[i]'hp).toNat = 10 := by rw [hgc]; rfl
              clear hgc
              go_wp2_with fail
              go_roundg (S.size - (i + 1))
              case measure => omega
              case rel => exact ⟨i + 1, k + 1, _, true, by omega, by omega, by go_num, rfl, by go_num, rfl, nstep0 HN.out hiL HL.out (by rw [HP.out]; simp [Tk.pre]) HY.out (by rw [HP.out]; simp) (by simp) (by simp), hbb, Nat.le_refl _⟩
            · have e32 : ((c.toNat : Int) == 32) = false := u8_ne hcc.1
              have e10 : ((c.toNat : Int) == 10) = false := u8_ne hcc.2
              have HC := Lib.hid hcc
              clear hcc
              have hg : (S[i]'hp).toNat = c.toNat := by rw [hgc]
              clear hgc
              go_wp2_with fail
              go_roundg (S.size - (i + 1))
              case measure => omega
              case rel => exact ⟨i + 1, k + 1, _, false, by omega, by omega, by go_num, rfl, by go_num, rfl, nstep0 HN.out hiL HL.out (by rw [HP.out]; simp [Tk.pre, HC.out]) HY.out (by rw [HP.out]; simp [HC.out]) (by simp) (by simp [HC.out]), hbb, Nat.le_refl _⟩
          · obtain rfl := hnn
            rcases byte_cases c with hcc | hcc | hcc
            · obtain rfl := hcc
              have hg : (S[i]'hp).toNat = 32 := by rw [hgc]; rfl
              clear hgc
              go_wp2_with fail
              go_roundg (S.size - (i + 1))
              case measure => omega
              case rel => exact ⟨i + 1, k + 1, _, false, by omega, by omega, by go_num, rfl, by go_num, rfl, nstep HN.out hiL HL.out (by rw [HP.out]; simp [Tk.pre, Tk.hash, Tk.blanks, bytesOf]) HY.out (by rw [HP.out]; simp) (by simp) (by simp), hbb, Nat.le_refl _⟩
            · obtain rfl := hcc
              have hg : (S[i]'hp).toNat = 10 := by rw [hgc]; rfl
              clear hgc
              go_wp2_with fail
              go_roundg (S.size - (i + 1))
              case measure => omega
              case rel => exact ⟨i + 1, k + 1, _, true, by omega, by omega, by go_num, rfl, by go_num, rfl, nstep0 HN.out hiL HL.out (by rw [HP.out]; simp [Tk.pre]) HY.out (by rw [HP.out]; simp) (by simp) (by simp), hbb, Nat.le_refl _⟩
            · have e32 : ((c.toNat : Int) == 32) = false := u8_ne hcc.1
              have e10 : ((c.toNat : Int) == 10) = false := u8_ne hcc.2
              have HC := Lib.hid hcc
              clear hcc
              have hg : (S[i]'hp).toNat = c.toNat := by rw [hgc]
              clear hgc
              go_wp2_with fail
              go_roundg (S.size - (i + 1))
              case measure => omega
              case rel => exact ⟨i + 1, k + 1, _, false, by omega, by omega, by go_num, rfl, by go_num, rfl, nstep0 HN.out hiL HL.out (by rw [HP.out]; simp [Tk.pre, HC.out]) HY.out (by rw [HP.out]; simp [HC.out]) (by simp) (by simp [HC.out]), hbb, Nat.le_refl _⟩
          · obtain rfl := hnn
            rcases byte_cases c with hcc | hcc | hcc
            · obtain rfl := hcc
              have hg : (S[i]'hp).toNat = 32 := by rw [hgc]; rfl
              clear hgc
              go_wp2_with fail
              go_roundg (S.size - (i + 1))
              case measure => omega
              case rel => exact ⟨i + 1, k + 1, _, false, by omega, by omega, by go_num, rfl, by go_num, rfl, nstep0 HN.out hiL HL.out (by rw [HP.out]; simp [Tk.pre]) HY.out (by rw [HP.out]; simp) (by simp) (by simp), hbb, Nat.le_refl _⟩
            · obtain rfl := hcc
              have hg : (S[i]'hp).toNat = 10 := by rw [hgc]; rfl
              clear hgc
              go_wp2_with fail
              go_roundg (S.size - (i + 1))
              case measure => omega
              case rel => exact ⟨i + 1, k + 1, _, true, by omega, by omega, by go_num, rfl, by go_num, rfl, nstep HN.out hiL HL.out (by rw [HP.out]; simp [Tk.pre, Tk.hash, Tk.blanks, bytesOf]) HY.out (by rw [HP.out]; simp) (by simp) (by simp), hbb, Nat.le_refl _⟩
            · have e32 : ((c.toNat : Int) == 32) = false := u8_ne hcc.1
              have e10 : ((c.toNat : Int) == 10) = false := u8_ne hcc.2
              have HC := Lib.hid hcc
              clear hcc
              have hg : (S[i]'hp).toNat = c.toNat := by rw [hgc]
              clear hgc
              go_wp2_with fail
              go_roundg (S.size - (i + 1))
              case measure => omega
              case rel => exact ⟨i + 1, k + 1, _, false, by omega, by omega, by go_num, rfl, by go_num, rfl, nstep0 HN.out hiL HL.out (by rw [HP.out]; simp [Tk.pre, HC.out]) HY.out (by rw [HP.out]; simp [HC.out]) (by simp) (by simp [HC.out]), hbb, Nat.le_refl _⟩
          · have b1 : (n == 1) = false := beq_eq_false_iff_ne.2 hnn.1
            have b2 : (n == 2) = false := beq_eq_false_iff_ne.2 hnn.2.1
            have b3 : (n == 3) = false := beq_eq_false_iff_ne.2 hnn.2.2.1
            have b4 : (n == 4) = false := beq_eq_false_iff_ne.2 hnn.2.2.2.1
            have b5 : (n == 5) = false := beq_eq_false_iff_ne.2 hnn.2.2.2.2
            have HO0 := Lib.hid hnn
            clear hnn
            have HO : Hid (noiseP z k ≠ 1 ∧ noiseP z k ≠ 2 ∧ noiseP z k ≠ 3 ∧ noiseP z k ≠ 4 ∧ noiseP z k ≠ 5) := by show _ ∧ _; rw [HP.out]; exact HO0.out
            rcases byte_cases c with hcc | hcc | hcc
            · obtain rfl := hcc
              have hg : (S[i]'hp).toNat = 32 := by rw [hgc]; rfl
              clear hgc
              go_wp2_with fail
              go_roundg (S.size - (i + 1))
              case measure => omega
              case rel => exact ⟨i + 1, k + 1, _, false, by omega, by omega, by go_num, rfl, by go_num, rfl, nstep0 HN.out hiL HL.out (by simp [Tk.pre, HO.out]) HY.out (by simp [HO.out]) (by simp) (by simp), hbb, Nat.le_refl _⟩
            · obtain rfl := hcc
              have hg : (S[i]'hp).toNat = 10 := by rw [hgc]; rfl
              clear hgc
              go_wp2_with fail
              go_roundg (S.size - (i + 1))
              case measure => omega
              case rel => exact ⟨i + 1, k + 1, _, true, by omega, by omega, by go_num, rfl, by go_num, rfl, nstep0 HN.out hiL HL.out (by simp [Tk.pre, HO.out]) HY.out (by simp [HO.out]) (by simp) (by simp), hbb, Nat.le_refl _⟩
            · have e32 : ((c.toNat : Int) == 32) = false := u8_ne hcc.1
              have e10 : ((c.toNat : Int) == 10) = false := u8_ne hcc.2
              have HC := Lib.hid hcc
              clear hcc
              have hg : (S[i]'hp).toNat = c.toNat := by rw [hgc]
              clear hgc
              go_wp2_with fail
              go_roundg (S.size - (i + 1))
              case measure => omega
              case rel => exact ⟨i + 1, k + 1, _, false, by omega, by omega, by go_num, rfl, by go_num, rfl, nstep0 HN.out hiL HL.out (by simp [Tk.pre, HO.out]) HY.out (by simp [HO.out]) (by simp) (by simp [HC.out]), hbb, Nat.le_refl _⟩
      · have hkz' : ¬ (k : Int) < z.length := by omega
        have HP : Hid (noiseP z k = 0) := by show _ = _; unfold noiseP; rw [if_neg hkz]
        rcases bg with _ | _
        · rcases byte_cases c with hcc | hcc | hcc
          · obtain rfl := hcc
            have hg : (S[i]'hp).toNat = 32 := by rw [hgc]; rfl
            clear hgc
            go_wp2_with fail
            go_roundg (S.size - (i + 1))
            case measure => omega
            case rel => exact ⟨i + 1, k + 1, _, false, by omega, by omega, by go_num, rfl, by go_num, rfl, nstep0 HN.out hiL HL.out (by rw [HP.out]; simp [Tk.pre]) HY.out (by rw [HP.out]; simp) (by simp) (by simp), hbb, Nat.le_refl _⟩
          · obtain rfl := hcc
            have hg : (S[i]'hp).toNat = 10 := by rw [hgc]; rfl
            clear hgc
            go_wp2_with fail
            go_roundg (S.size - (i + 1))
            case measure => omega
            case rel => exact ⟨i + 1, k + 1, _, true, by omega, by omega, by go_num, rfl, by go_num, rfl, nstep0 HN.out hiL HL.out (by rw [HP.out]; simp [Tk.pre]) HY.out (by rw [HP.out]; simp) (by simp) (by simp), hbb, Nat.le_refl _⟩
          · have e32 : ((c.toNat : Int) == 32) = false := u8_ne hcc.1
            have e10 : ((c.toNat : Int) == 10) = false := u8_ne hcc.2
            have HC := Lib.hid hcc
            clear hcc
            have hg : (S[i]'hp).toNat = c.toNat := by rw [hgc]
            clear hgc
            go_wp2_with fail
            go_roundg (S.size - (i + 1))
            case measure => omega
            case rel => exact ⟨i + 1, k, _, false, by omega, by omega, by go_num, rfl, rfl, rfl, nstep0 HN.out hiL HL.out (by rw [HP.out]; simp [Tk.pre, HC.out]) HY.out (by rw [HP.out]; simp [HC.out]) (by simp [HC.out]) (by simp [HC.out]), hbb, Nat.le_refl _⟩
        · rcases byte_cases c with hcc | hcc | hcc
          · obtain rfl := hcc
            have hg : (S[i]'hp).toNat = 32 := by rw [hgc]; rfl
            clear hgc
            go_wp2_with fail
            go_roundg (S.size - (i + 1))
            case measure => omega
            case rel => exact ⟨i + 1, k + 1, _, false, by omega, by omega, by go_num, rfl, by go_num, rfl, nstep0 HN.out hiL HL.out (by rw [HP.out]; simp [Tk.pre]) HY.out (by rw [HP.out]; simp) (by simp) (by simp), hbb, Nat.le_refl _⟩
          · obtain rfl := hcc
            have hg : (S[i]'hp).toNat = 10 := by rw [hgc]; rfl
            clear hgc
            go_wp2_with fail
            go_roundg (S.size - (i + 1))
            case measure => omega
            case rel => exact ⟨i + 1, k + 1, _, true, by omega, by omega, by go_num, rfl, by go_num, rfl, nstep0 HN.out hiL HL.out (by rw [HP.out]; simp [Tk.pre]) HY.out (by rw [HP.out]; simp) (by simp) (by simp), hbb, Nat.le_refl _⟩
          · have e32 : ((c.toNat : Int) == 32) = false := u8_ne hcc.1
            have e10 : ((c.toNat : Int) == 10) = false := u8_ne hcc.2
            have HC := Lib.hid hcc
            clear hcc
            have hg : (S[i]'hp).toNat = c.toNat := by rw [hgc]
            clear hgc
            go_wp2_with fail
            go_roundg (S.size - (i + 1))
            case measure => omega
            case rel => exact ⟨i + 1, k + 1, _, false, by omega, by omega, by go_num, rfl, by go_num, rfl, nstep0 HN.out hiL HL.out (by rw [HP.out]; simp [Tk.pre, HC.out]) HY.out (by rw [HP.out]; simp [HC.out]) (by simp) (by simp [HC.out]), hbb, Nat.le_refl _⟩
    · have hge : ¬ (i : Int) < S.size := by omega
      have hi2 : i = (bytesOf S).length := by have := hlen.out; omega
      have hb0o := hb05.trans (hbb.mono z5)
      have z0o := hb0o.size
      have hmo := (hb0o.cell (p := ⟨0, 0, none⟩) hz0).trans HM.out
      have HMo := Lib.hid hmo
      have E : Hid (bytesOf out = Tk.noise (noiseP z) (Tk.text t) 0 true) := by
        show _ = _
        have h := HN.out.1
        rw [hi2, List.drop_length, Tk.noise, List.append_nil, HS.out] at h
        exact h
      clear hi2 hmo
      go_wp2_with fail
      refine (parse_any out _ (by omega) m0 HMo.out).mono ?_
      rintro e w6 ⟨V1, V2, V3, rfl, ht, hb6⟩
      rw [E.out, Tk.parse_noise HF.out] at ht ⊢
      dsimp only at ht ⊢
      obtain ⟨B1, n1, hV1, _, _⟩ := ht.len
      obtain ⟨B2, n2, hV2, _, _⟩ := row_slice ht.sems
      obtain ⟨B3, n3, hV3, _, _⟩ := row_slice ht.queues
      subst hV1 hV2 hV3
      have hb06 := hb0o.trans (hb6.mono z0o)
      have hb56 := hbb.trans (hb6.mono hbb.size)
      have z06 := hb06.size
      have z56 := hb56.size
      obtain ⟨w7, hw7⟩ : ∃ w7, w7 = w6.alloc (.cells #[.slice B1 t.tasks.length n1, .slice B2 t.sems.length n2, .int .i64 t.mutexes, .slice B3 t.queues.length n3] 26) := ⟨_, rfl⟩
      have b7 : Below w6.heap.size w6 w7 := by rw [hw7]; exact (Below.refl _ _).alloc (Nat.le_refl _) _
      have bx7 : Whole w7 w6.heap.size 26 #[.slice B1 t.tasks.length n1, .slice B2 t.sems.length n2, .int .i64 t.mutexes, .slice B3 t.queues.length n3] := by rw [hw7]; exact Whole.made _ _ _
      have hb07 := hb06.trans (b7.mono z06)
      have hb57 := hb56.trans (b7.mono z56)
      have z07 := hb07.size
      have wh7 := WH5.out.same (hb57.block _ (by omega))
      have q0 := wh7.cell 0
      have q1 := wh7.cell 1
      have q2 := wh7.cell 2
      have q3 := wh7.cell 3
      have y0 := bx7.cell 0
      have y1 := bx7.cell 1
      have y2 := bx7.cell 2
      have y3 := bx7.cell 3
      simp at q0 q1 q2 q3 y0 y1 y2 y3
      have RD1 := Lib.hid ((ht.below b7 (Nat.le_refl _)).reads).1
      have RD2 := Lib.hid ((HR.out.below hb07 (Nat.le_refl _)).more z07)
      have HW7 := Lib.hid hw7
      clear hw7 bx7 wh7 ht
      go_wp2_with fail
      rw [← HW7.out]
      refine (num_any _ _).mono ?_
      rintro e w' ⟨rfl, ew⟩
      have ew' := ew.symm
      subst ew'
      go_wp2_with fail
      refine (sameTable_any RD1.out RD2.out).mono ?_
      rintro e w8 ⟨rfl, hb8⟩
      go_wp2_with fail
      go_ret
      exact ⟨rfl, hb07.trans (hb8.mono z07)⟩
end Go.Proofs.YtadcfedjmofjjaaDoor
