/-
  The operation of a name: the walks of the given Op and the document's.
-/
import Derived.Test.YtmfldcacjpligaaDoorW7
namespace Go.Proofs.YtmfldcacjpligaaDoor
open Go.RowKit
/-- What the first loop has found. -/
def Found (n : List UInt8) (i : Nat) (v : Int) : Prop := (v = -1 ∧ ∀ k, k < i → Is.nameList[k]? ≠ some n) ∨ ∃ k : Nat, k < 44 ∧ v = k ∧ Is.nameList[k]? = some n
theorem found_no {n : List UInt8} {i : Nat} {v : Int} (h : Found n i v) (hi : Is.nameList[i]? ≠ some n) : Found n (i + 1) v := by
  rcases h with ⟨h1, h2⟩ | h
  · refine .inl ⟨h1, fun k hk => ?_⟩
    by_cases e : k = i
    · subst e; exact hi
    · exact h2 k (by omega)
  · exact .inr h
theorem names_get {i : Nat} (h : i < 44) : ∃ l, Is.nameList[i]? = some l := ⟨_, List.getElem?_eq_getElem (by rw [Is.nameList_len]; exact h)⟩
def OpPost (s : ByteArray) (w : World) (e : Ending) (w' : World) : Prop := e = .returned (.int .i64 (Is.opOf (bytesOf s))) ∧ Below w.heap.size w w'
set_option maxRecDepth 100000 in
set_option maxHeartbeats 4000000 in
theorem op_any (s : ByteArray) (w : World) (ht : Tabs w) : Calls Tryd.prog 19 #[.string s] w (OpPost s w) := by
  have HT := Lib.hid ht
  clear ht
  go_enter Tryd.func19, Tryd.ntmps19
  go_wp2_with fail
  refine (names_any _ HT.out).mono ?_
  rintro e w2 ⟨rfl, ew⟩
  have wb : Whole w2 w.heap.size 9 namesC := by rw [ew]; exact Whole.made _ _ _
  have hb : Below w.heap.size w w2 := by rw [ew]; exact (Below.refl _ _).alloc (Nat.le_refl _) _
  clear ew
  go_wp2_with fail
  go_loopg [9, 3] 44 (fun kk iv nv wr => ∃ (i : Nat) (v : Int), i ≤ 44 ∧ iv = .int .i64 i ∧ nv = .int .i64 v ∧ Found (bytesOf s) i v ∧ wr = w2 ∧ 44 - i ≤ kk)
  case atStart => exact ⟨0, -1, Nat.zero_le _, rfl, rfl, .inl ⟨rfl, fun k hk => absurd hk (by omega)⟩, rfl, by omega⟩
  case round =>
    obtain ⟨i, v, hi, rfl, rfl, hf, rfl, hkk⟩ := hrel
    obtain ⟨wo, rfl⟩ : ∃ wo : World, wo = wr := ⟨_, rfl⟩
    have HF := Lib.hid hf
    clear hf
    by_cases hlt : i < 44
    · have hlt' : (i : Int) < 44 := by omega
      obtain ⟨l, hl⟩ := names_get hlt
      have c0 := (wb.cell i).trans (namesC_at hl)
      have HL := Lib.hid hl
      unfold strV at c0
      clear hl
      obtain ⟨L, eL⟩ : ∃ L : ByteArray, (⟨l.toArray⟩ : ByteArray) = L := ⟨_, rfl⟩
      have hL : bytesOf L = l := by rw [← eL]; rfl
      rw [eL] at c0
      have HBL := Lib.hid hL
      clear eL hL
      by_cases hq : L = s
      · subst hq
        go_wp2_with fail
        go_roundg (44 - (i + 1))
        case measure => omega
        case rel => exact ⟨i + 1, i, by omega, by go_num, rfl, .inr ⟨i, hlt, rfl, by rw [HL.out, HBL.out]⟩, rfl, Nat.le_refl _⟩
      · have hqt : ¬ L.toList = s.toList := fun e => hq (bytesOf_inj (by unfold bytesOf; rw [← ByteArray.toList_eq, ← ByteArray.toList_eq, e]))
        have e1 : (L.toList == s.toList) = false := by rw [beq_eq_false_iff_ne]; exact hqt
        have HN : Hid (Is.nameList[i]? ≠ some (bytesOf s)) := by
          show _ ≠ _
          rw [HL.out]
          intro e
          injection e with e
          exact hq (bytesOf_inj (HBL.out.trans e))
        clear hq
        go_wp2_with fail
        go_roundg (44 - (i + 1))
        case measure => omega
        case rel => exact ⟨i + 1, v, by omega, by go_num, rfl, found_no HF.out HN.out, rfl, Nat.le_refl _⟩
    · have hge : ¬ (i : Int) < 44 := by omega
      obtain rfl : i = 44 := by omega
      rcases HF.out with ⟨rfl, hno⟩ | ⟨k, hk, rfl, hkn⟩
      · have E := Lib.hid (Is.opOf_none hno)
        clear hno
        go_wp2_with fail
        go_ret
        exact ⟨by rw [E.out]; rfl, hb⟩
      · have HK := Lib.hid hkn
        clear hkn
        have hk0 : ¬ (k : Int) < 0 := by omega
        go_wp2_with fail
        go_loopg [21, 3] 71 (fun kk iv nv wr => ∃ (i : Nat), i ≤ 71 ∧ iv = .int .i64 i ∧ nv = .int .i64 ((k - Is.cnt i : Nat) : Int) ∧ Is.cnt i ≤ k ∧ wr = wo ∧ 71 - i ≤ kk)
        case atStart => exact ⟨0, Nat.zero_le _, rfl, rfl, Nat.zero_le _, rfl, by omega⟩
        case round =>
          obtain ⟨i, hi, rfl, rfl, hc, rfl, hkk⟩ := hrel
          by_cases hlt : i < 71
          · have hlt' : (i : Int) < 71 := by omega
            have HS := Lib.hid (Is.cnt_succ (k := i) (by omega))
            by_cases hfi : Is.form i = 0
            · have FI := Lib.hid (formC_zero hfi)
              have HF := Lib.hid hfi
              clear hfi
              go_wp2_with fail
              refine (form_any _ _).mono ?_
              rintro e w2 ⟨rfl, rfl⟩
              rw [FI.out]
              go_wp2_with fail
              go_roundg (71 - (i + 1))
              case measure => omega
              case rel => exact ⟨i + 1, by omega, by go_num, by rw [HS.out, if_pos HF.out]; rfl, by rw [HS.out, if_pos HF.out]; exact hc, rfl, Nat.le_refl _⟩
            · have e2 : (formC i == 32) = false := ne_eq (formC_ne hfi)
              have HF := Lib.hid hfi
              clear hfi
              obtain ⟨f2, ef2⟩ : ∃ f, formC i = f := ⟨_, rfl⟩
              rw [ef2] at e2
              have EF2 := Lib.hid ef2
              clear ef2
              by_cases hck : Is.cnt i = k
              · have E := Lib.hid (Is.opOf_cnt hlt HF.out hck HK.out)
                have e3 : ((k - Is.cnt i : Nat) : Int) = 0 := by omega
                clear hck
                go_wp2_with fail
                refine (form_any _ _).mono ?_
                rintro e w2 ⟨rfl, rfl⟩
                rw [EF2.out]
                go_wp2_with fail
                go_ret
                exact ⟨by rw [E.out]; rfl, hb⟩
              · obtain ⟨m, hm⟩ : ∃ m, k - Is.cnt i = m + 1 := ⟨k - Is.cnt i - 1, by omega⟩
                have HM := Lib.hid hm
                have e3 : (((m + 1 : Nat) : Int) == 0) = false := ne_eq (by omega)
                have hmk : (m : Int) < 44 := by omega
                rw [hm]
                clear hm hck
                go_wp2_with fail
                refine (form_any _ _).mono ?_
                rintro e w2 ⟨rfl, rfl⟩
                rw [EF2.out]
                go_wp2_with fail
                go_roundg (71 - (i + 1))
                case measure => omega
                case rel => exact ⟨i + 1, by omega, by go_num, by rw [HS.out, if_neg HF.out]; have := HM.out; congr 1; omega, by rw [HS.out, if_neg HF.out]; have := HM.out; omega, rfl, Nat.le_refl _⟩
          · have hge : ¬ (i : Int) < 71 := by omega
            obtain rfl : i = 71 := by omega
            rw [Is.cnt_all] at hc
            omega
/-! The document's. -/
set_option maxRecDepth 100000 in
set_option maxHeartbeats 4000000 in
theorem rop_any (s : ByteArray) (w : World) : Calls Tryd.prog 20 #[.string s] w fun e w' => e = .returned (.int .i64 (Is.opOf (bytesOf s))) ∧ w = w' := by
  by_cases h0 : s = ⟨#[]⟩
  · subst h0
    have E : Hid (Is.opOf (bytesOf ⟨#[]⟩) = 0) := Is.opOf_nil
    go_enter Tryd.func20, Tryd.ntmps20
    go_wp2_with fail
    go_loopg [3] 1 (fun kk iv wr => iv = .int .i64 1 ∧ wr = w ∧ 0 ≤ kk)
    case atStart => exact ⟨rfl, rfl, by omega⟩
    case round =>
      obtain ⟨rfl, rfl, hkk⟩ := hrel
      go_wp2_with fail
      go_ret
      exact ⟨ret_int E.out.symm, rfl⟩
  · have hne : bytesOf s ≠ [] := fun e => h0 (bytesOf_inj e)
    have e0 : s.toList.isEmpty = false := by
      rw [ByteArray.toList_eq]
      exact List.isEmpty_eq_false_iff.2 hne
    have e0' : (!s.toList.isEmpty) = true := by rw [e0]; rfl
    have e0'' : ¬ s.toList = [] := by rw [ByteArray.toList_eq]; exact hne
    clear h0
    have HNE := Lib.hid hne
    clear hne
    go_enter Tryd.func20, Tryd.ntmps20
    go_wp2_with fail
    go_loopg [3] 71 (fun kk iv wr => ∃ (i : Nat), 1 ≤ i ∧ i ≤ 71 ∧ iv = .int .i64 i ∧ (∀ j : Nat, 1 ≤ j → j < i → Is.name j ≠ bytesOf s) ∧ wr = w ∧ 71 - i ≤ kk)
    case atStart => exact ⟨1, Nat.le_refl _, by omega, rfl, fun j h1 h2 => absurd h2 (by omega), rfl, by omega⟩
    case round =>
      obtain ⟨i, hi1, hi, rfl, hno, rfl, hkk⟩ := hrel
      have HNO := Lib.hid hno
      clear hno
      by_cases hlt : i < 71
      · have hlt' : (i : Int) < 71 := by omega
        obtain ⟨L, eL⟩ : ∃ L : ByteArray, (⟨(Is.name i).toArray⟩ : ByteArray) = L := ⟨_, rfl⟩
        have hL : bytesOf L = Is.name i := by rw [← eL]; rfl
        have C17 : ∀ W, Calls Tryd.prog 17 #[.int .i64 i] W fun e w' => e = .returned (.tuple #[.int .u8 ((Is.form i).toNat : Int), .string L]) ∧ W = w' := by
          intro W
          have h := rform_any i W
          unfold nameV at h
          rw [eL] at h
          exact h
        have HBL := Lib.hid hL
        clear eL hL
        by_cases hq : L = s
        · subst hq
          have E := Lib.hid (Is.opOf_at HNE.out HBL.out.symm)
          go_wp2_with fail
          refine (C17 _).mono ?_
          rintro e w2 ⟨rfl, rfl⟩
          go_wp2_with fail
          go_ret
          exact ⟨ret_int E.out.symm, rfl⟩
        · have hqt : ¬ L.toList = s.toList := fun e => hq (bytesOf_inj (by unfold bytesOf; rw [← ByteArray.toList_eq, ← ByteArray.toList_eq, e]))
          have e1 : (L.toList == s.toList) = false := by rw [beq_eq_false_iff_ne]; exact hqt
          have HN : Hid (Is.name i ≠ bytesOf s) := by
            show _ ≠ _
            intro e
            exact hq (bytesOf_inj (HBL.out.trans e))
          clear hq
          go_wp2_with fail
          refine (C17 _).mono ?_
          rintro e w2 ⟨rfl, rfl⟩
          go_wp2_with fail
          go_roundg (71 - (i + 1))
          case measure => omega
          case rel =>
            refine ⟨i + 1, by omega, by omega, by go_num, fun j h1 h2 => ?_, rfl, Nat.le_refl _⟩
            by_cases e : j = i
            · subst e; exact HN.out
            · exact HNO.out j h1 (by omega)
      · have hge : ¬ (i : Int) < 71 := by omega
        obtain rfl : i = 71 := by omega
        have E : Hid (Is.opOf (bytesOf s) = 0) := Is.opOf_not fun op h1 h2 => by
          obtain ⟨j, rfl⟩ : ∃ j : Nat, op = j := ⟨op.toNat, by omega⟩
          exact HNO.out j (by omega) (by omega)
        go_wp2_with fail
        go_ret
        exact ⟨ret_int E.out.symm, rfl⟩
end Go.Proofs.YtmfldcacjpligaaDoor
