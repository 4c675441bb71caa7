/-
  The given program's line of a word and numbers: the walk of row.
-/
import Derived.Test.YtadcfedjmofjjaaDoorT1
import Derived.Test.YtadcfedjmofjjaaDoorBuild
import Derived.Lib.AppendIntMem
namespace Go.Proofs.YtadcfedjmofjjaaDoor
open Go.RowKit
/-- Go's own table of powers of ten stands. -/
def Pow (w : World) : Prop := Lib.TabIs Tryd.prog w "internal/strconv.uint64pow10" .u64 Lib.pow10Tab
theorem Pow.below {w w' : World} (h : Pow w) (hb : Below w.heap.size w w') : Pow w' := Lib.tabBelow_of_tabIs h w' hb
theorem decDigits_eq (u : Nat) : Lib.decDigits u = Tk.digits u := by
  induction u using Nat.strongRecOn with
  | _ u ih =>
    rw [Lib.decDigits, Tk.digits]
    by_cases h : u < 10
    · rw [dif_pos h, if_pos (by omega)]
    · rw [dif_neg h, if_neg (by omega), ih (u / 10) (by omega)]
theorem itoa_eq (n : Int) : Lib.itoa n = Tk.numStr n := by
  unfold Lib.itoa Tk.numStr
  by_cases h : n < 0
  · rw [if_pos h, if_pos h, decDigits_eq, show n.natAbs = (-n).toNat by omega]
  · rw [if_neg h, if_neg h, decDigits_eq]
theorem itoa_any (n : Int) (h0 : -1 ≤ n) (h1 : n ≤ 9999) (w : World) (ht : Pow w) : Calls Tryd.prog 45 #[.int .i64 n] w fun e w' => e = .returned (.string ⟨(Tk.numStr n).toArray⟩) ∧ Below w.heap.size w w' := by
  refine (Tryd.strconv_Itoa n (by omega) (by omega) w ht).mono ?_
  rintro e w' ⟨rfl, k, os, rfl⟩
  rw [itoa_eq]
  exact ⟨rfl, Lib.below_grow _ _ (Nat.le_refl _) _ _⟩
def rowText (s : List UInt8) (l : List Int) : List UInt8 := s ++ Tk.numbers l ++ [10]
set_option maxRecDepth 100000 in
theorem row_any {l : List Int} {A : Option Addr} {c : Nat} {w : World} {B : Nat} (S : ByteArray) (hS : (S.size : Int) ≤ 100) (hr : Reads w B 1 A l.length (intV l)) (hB : B ≤ w.heap.size) (hl : l.length ≤ 100) (hn : ∀ n ∈ l, -1 ≤ n ∧ n ≤ 9999) (hp : Pow w) :
    Calls Tryd.prog 34 #[.string S, .slice A l.length c] w fun e w' => e = .returned (.string ⟨(rowText (bytesOf S) l).toArray⟩) ∧ Below w.heap.size w w' := by
  have HR := Lib.hid hr
  have HN := Lib.hid hn
  have HP := Lib.hid hp
  clear hr hn hp
  go_enter Tryd.func34, Tryd.ntmps34
  go_wp2_with fail
  go_loopg [9, 0] l.length (fun kk i s wr => ∃ (k : Nat) (r : ByteArray), k ≤ l.length ∧ i = .int .i64 k ∧ s = .string r ∧ bytesOf r = bytesOf S ++ Tk.numbers (l.take k) ∧ Below w.heap.size w wr ∧ l.length - k ≤ kk)
  case atStart => exact ⟨0, S, Nat.zero_le _, rfl, rfl, by simp [Tk.numbers], Below.refl _ _, by omega⟩
  case round =>
    obtain ⟨k, r, hk, rfl, rfl, hs, hb, hkk⟩ := hrel
    obtain ⟨wo, rfl⟩ : ∃ wo : World, wo = wr := ⟨_, rfl⟩
    have hsz : (r.size : Int) ≤ 1000 := by
      have h1 := bytesOf_len r
      rw [hs, List.length_append, bytesOf_len] at h1
      have h2 := numbers_len (l.take k) fun n hn => HN.out n (List.mem_of_mem_take hn)
      rw [List.length_take] at h2
      omega
    have HS := Lib.hid hs
    clear hs
    have hzo := hb.size
    by_cases hlt : k < l.length
    · have hlt' : (k : Int) < l.length := by omega
      obtain ⟨ad1, e1, had1, hc1⟩ := (HR.out.below hb hB).int hlt
      subst e1
      have HX := Lib.hid (numbers_snoc hlt)
      have HB := Lib.hid (HN.out l[k] (List.getElem_mem _))
      generalize l[k] = x at *
      obtain ⟨NS, eNS⟩ : ∃ NS : ByteArray, (⟨(Tk.numStr x).toArray⟩ : ByteArray) = NS := ⟨_, rfl⟩
      have hNS : bytesOf NS = Tk.numStr x := by rw [← eNS]; exact bytesOf_mk _
      have sNS := text_size hNS (numStr_len HB.out.1 HB.out.2)
      have C45 := itoa_any x HB.out.1 HB.out.2 wo (HP.out.below hb)
      rw [eNS] at C45
      have HNS := Lib.hid hNS
      clear eNS hNS
      go_wp2_with fail
      refine C45.mono ?_
      rintro e w1 ⟨rfl, hb1⟩
      go_wp2_with fail
      go_roundg (l.length - (k + 1))
      case measure => omega
      case rel => exact ⟨k + 1, _, by omega, by go_num, rfl, by rw [bytesOf_app, bytesOf_app, HS.out, HNS.out, HX.out]; simp [bytesOf], hb.trans (hb1.mono hzo), Nat.le_refl _⟩
    · have hge : ¬ (k : Int) < l.length := by omega
      obtain rfl : k = l.length := by omega
      have E : Hid (r ++ ⟨#[10]⟩ = ⟨(rowText (bytesOf S) l).toArray⟩) := by
        show _ = _
        apply bytesOf_inj
        rw [bytesOf_app, HS.out, List.take_length]
        rfl
      go_wp2_with fail
      go_ret
      exact ⟨by rw [← E.out]; rfl, hb⟩
end Go.Proofs.YtadcfedjmofjjaaDoor
