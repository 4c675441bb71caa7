/-
  Names and operations: the walks of the given names, Name, Op and of the document's Op.
-/
import Derived.Test.YtmfldcacjpligaaDoorP5
import Derived.Test.YtmfldcacjpligaaDoorW6
import Derived.Test.YtmfldcacjpligaaDoorShelf
import Derived.Lib.AppendIntMem
namespace Go.Proofs.YtmfldcacjpligaaDoor
open Go.RowKit
/-- Go's own two tables stand. -/
structure Tabs (w : World) : Prop where
  asc : Lib.TabIs Tryd.prog w "strings.asciiSpace" .u8 Lib.asciiSpaceTab
  pow : Lib.TabIs Tryd.prog w "internal/strconv.uint64pow10" .u64 Lib.pow10Tab
theorem Tabs.below {w w' : World} (h : Tabs w) (hb : Below w.heap.size w w') : Tabs w' := ⟨Lib.tabBelow_of_tabIs h.asc w' hb, Lib.tabBelow_of_tabIs h.pow w' hb⟩
def strV (l : List UInt8) : Value := .string ⟨l.toArray⟩
def namesC : Array Value := (Is.nameList.map strV).toArray
def bytesOf (s : ByteArray) : List UInt8 := s.data.toList
theorem bytesOf_len (s : ByteArray) : (bytesOf s).length = s.size := by unfold bytesOf; rw [Array.length_toList]; rfl
theorem bytesOf_mk (l : List UInt8) : bytesOf ⟨l.toArray⟩ = l := rfl
theorem bytesOf_inj {a b : ByteArray} (h : bytesOf a = bytesOf b) : a = b := by
  obtain ⟨⟨a⟩⟩ := a
  obtain ⟨⟨b⟩⟩ := b
  have : a = b := h
  rw [this]
def srcN : ByteArray := ⟨#[97, 100, 100, 32, 115, 117, 98, 32, 97, 110, 100, 32, 111, 114, 32, 120, 111, 114, 32, 115, 108, 108, 32, 115, 114, 108, 32, 115, 114, 97, 32, 109, 117, 108, 32, 115, 108, 116, 32, 115, 108, 116, 117, 32, 100, 105, 118, 117, 32, 114, 101, 109, 117, 32, 97, 100, 100, 105, 32, 97, 110, 100, 105, 32, 111, 114, 105, 32, 120, 111, 114, 105, 32, 115, 108, 108, 105, 32, 115, 114, 108, 105, 32, 115, 114, 97, 105, 32, 108, 117, 105, 32, 115, 108, 116, 105, 32, 108, 119, 32, 108, 104, 32, 108, 104, 117, 32, 108, 98, 32, 108, 98, 117, 32, 115, 119, 32, 115, 104, 32, 115, 98, 32, 98, 101, 113, 32, 98, 110, 101, 32, 98, 108, 116, 32, 98, 103, 101, 32, 98, 108, 116, 117, 32, 98, 103, 101, 117, 32, 106, 97, 108, 32, 106, 97, 108, 114, 32, 101, 99, 97, 108, 108, 32, 115, 114, 101, 116, 32, 119, 102, 105, 32, 99, 115, 114, 114, 32, 99, 115, 114, 119, 32, 98, 114, 107]⟩
theorem fields_src : Lib.fields srcN.data.toList = Is.nameList := by decide +kernel
theorem ascii_src : ∀ (j : Nat) (b : UInt8), srcN.data.toList[j]? = some b → b.toNat < 128 := by
  have key : srcN.data.toList.all (fun b => decide (b.toNat < 128)) = true := by decide +kernel
  exact fun j b h => of_decide_eq_true (List.all_eq_true.1 key b (List.mem_of_getElem? h))
theorem names_any (w : World) (ht : Tabs w) : Calls Tryd.prog 30 #[] w fun e w' => e = .returned (.slice (some ⟨w.heap.size, 0, none⟩) 44 44) ∧ w' = w.alloc (.cells namesC 9) := by
  have C := Tryd.strings_Fields srcN w (by decide +kernel) ascii_src ht.asc
  rw [fields_src, Is.nameList_len] at C
  have C' : Calls Tryd.prog 38 #[.string ⟨#[97, 100, 100, 32, 115, 117, 98, 32, 97, 110, 100, 32, 111, 114, 32, 120, 111, 114, 32, 115, 108, 108, 32, 115, 114, 108, 32, 115, 114, 97, 32, 109, 117, 108, 32, 115, 108, 116, 32, 115, 108, 116, 117, 32, 100, 105, 118, 117, 32, 114, 101, 109, 117, 32, 97, 100, 100, 105, 32, 97, 110, 100, 105, 32, 111, 114, 105, 32, 120, 111, 114, 105, 32, 115, 108, 108, 105, 32, 115, 114, 108, 105, 32, 115, 114, 97, 105, 32, 108, 117, 105, 32, 115, 108, 116, 105, 32, 108, 119, 32, 108, 104, 32, 108, 104, 117, 32, 108, 98, 32, 108, 98, 117, 32, 115, 119, 32, 115, 104, 32, 115, 98, 32, 98, 101, 113, 32, 98, 110, 101, 32, 98, 108, 116, 32, 98, 103, 101, 32, 98, 108, 116, 117, 32, 98, 103, 101, 117, 32, 106, 97, 108, 32, 106, 97, 108, 114, 32, 101, 99, 97, 108, 108, 32, 115, 114, 101, 116, 32, 119, 102, 105, 32, 99, 115, 114, 114, 32, 99, 115, 114, 119, 32, 98, 114, 107]⟩] w fun e w' => e = .returned (.slice (some ⟨w.heap.size, 0, none⟩) 44 44) ∧ w' = w.alloc (.cells namesC 9) := C
  have HC := Lib.hid C'
  clear C C' ht
  go_enter Tryd.func30, Tryd.ntmps30
  go_wp2_with fail
  refine HC.out.mono ?_
  rintro e w2 ⟨rfl, rfl⟩
  go_wp2_with fail
  go_ret
  exact ⟨rfl, rfl⟩
theorem namesC_at {k : Nat} {l : List UInt8} (h : Is.nameList[k]? = some l) : namesC[k]? = some (strV l) := by
  unfold namesC
  rw [List.getElem?_toArray, List.getElem?_map, h]
  rfl
theorem formC_zero {k : Int} (h : Is.form k = 0) : formC k = 32 := by unfold formC; rw [if_pos h]
theorem formC_ne {k : Int} (h : Is.form k ≠ 0) : formC k ≠ 32 := by
  unfold formC
  rw [if_neg h]
  rcases Is.form_cases k with f | f | f | f | f | f | f | f | f
  · exact absurd f h
  all_goals rw [f]; decide
def NamePost (op : Int) (w : World) (e : Ending) (w' : World) : Prop := e = .returned (nameV op) ∧ Below w.heap.size w w'
set_option maxRecDepth 100000 in
theorem name_any (op : Int) (w : World) (ht : Tabs w) : Calls Tryd.prog 16 #[.int .i64 op] w (NamePost op w) := by
  have HT := Lib.hid ht
  clear ht
  by_cases hf : Is.form op = 0
  · have E : Hid (nameV op = .string ⟨#[]⟩) := by show _ = _; unfold nameV; rw [Is.name_none hf]
    have F := Lib.hid (formC_zero hf)
    clear hf
    go_enter Tryd.func16, Tryd.ntmps16
    go_wp2_with fail
    refine (form_any op _).mono ?_
    rintro e w2 ⟨rfl, rfl⟩
    rw [F.out]
    go_wp2_with fail
    go_ret
    exact ⟨by rw [E.out]; rfl, Below.refl _ _⟩
  · obtain ⟨hr0, hr1⟩ := Is.form_range hf
    obtain ⟨K, rfl⟩ : ∃ K : Nat, op = K := ⟨op.toNat, by omega⟩
    have hK : K < 71 := by omega
    obtain ⟨g1, g2⟩ := Is.cnt_name hK hf
    have NM := Lib.hid (namesC_at g2)
    have e1 : (formC K == 32) = false := ne_eq (formC_ne hf)
    clear hf g2
    obtain ⟨f, ef⟩ : ∃ f, formC K = f := ⟨_, rfl⟩
    rw [ef] at e1
    have EF := Lib.hid ef
    clear ef
    go_enter Tryd.func16, Tryd.ntmps16
    go_wp2_with fail
    refine (form_any _ _).mono ?_
    rintro e w2 ⟨rfl, rfl⟩
    rw [EF.out]
    go_wp2_with fail
    go_loopg [9, 3] K (fun kk iv nv wr => ∃ i : Nat, i ≤ K ∧ iv = .int .i64 i ∧ nv = .int .i64 (Is.cnt i) ∧ wr = w ∧ K - i ≤ kk)
    case atStart => exact ⟨0, Nat.zero_le _, rfl, rfl, rfl, by omega⟩
    case round =>
      obtain ⟨i, hi, rfl, rfl, rfl, hkk⟩ := hrel
      have hci := Is.cnt_le i
      by_cases hlt : i < K
      · have hlt' : (i : Int) < K := by omega
        have HS := Lib.hid (Is.cnt_succ (k := i) (by omega))
        by_cases hfi : Is.form i = 0
        · have FI := Lib.hid (formC_zero hfi)
          have HF := Lib.hid hfi
          clear hfi
          go_wp2_with fail
          refine (form_any _ _).mono ?_
          rintro e w2 ⟨rfl, rfl⟩
          rw [FI.out]
          go_wp2_with fail
          go_roundg (K - (i + 1))
          case measure => omega
          case rel => exact ⟨i + 1, by omega, by go_num, by rw [HS.out, if_pos HF.out]; rfl, rfl, Nat.le_refl _⟩
        · have e2 : (formC i == 32) = false := ne_eq (formC_ne hfi)
          have e3 : (formC i != 32) = true := by rw [bne_iff_ne]; exact formC_ne hfi
          have HF := Lib.hid hfi
          clear hfi
          obtain ⟨f2, ef2⟩ : ∃ f, formC i = f := ⟨_, rfl⟩
          rw [ef2] at e2 e3
          have EF2 := Lib.hid ef2
          clear ef2
          go_wp2_with fail
          refine (form_any _ _).mono ?_
          rintro e w2 ⟨rfl, rfl⟩
          rw [EF2.out]
          go_wp2_with fail
          go_roundg (K - (i + 1))
          case measure => omega
          case rel => exact ⟨i + 1, by omega, by go_num, by rw [HS.out, if_neg HF.out]; go_num, rfl, Nat.le_refl _⟩
      · have hge : ¬ (i : Int) < K := by omega
        obtain rfl : i = K := by omega
        have hc44 : (Is.cnt i : Int) < 44 := by omega
        generalize Is.cnt i = q at *
        go_wp2_with fail
        refine (names_any _ HT.out).mono ?_
        rintro e w2 ⟨rfl, ew⟩
        have wb : Whole w2 wr.heap.size 9 namesC := by rw [ew]; exact Whole.made _ _ _
        have hb : Below wr.heap.size wr w2 := by rw [ew]; exact (Below.refl _ _).alloc (Nat.le_refl _) _
        have c0 := (wb.cell q).trans NM.out
        clear ew
        go_wp2_with fail
        go_ret
        exact ⟨rfl, hb⟩
end Go.Proofs.YtmfldcacjpligaaDoor
