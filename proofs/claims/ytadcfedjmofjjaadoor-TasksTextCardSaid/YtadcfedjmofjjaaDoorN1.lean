/-
  The number of a word: the walk of the document's number.
-/
import Derived.Test.YtadcfedjmofjjaaDoorDec
import Derived.Test.YtadcfedjmofjjaaDoorProg
import Derived.WalkKit
import Derived.Deep.LoopGhost
import Derived.Laws.BitsLemmas
import Derived.Lib.Hide
namespace Go.Proofs.YtadcfedjmofjjaaDoor
open Go.RowKit
def numAns (o : Option Int) : Value := match o with
  | some n => .tuple #[.int .i64 n, .bool true]
  | none => .tuple #[.int .i64 0, .bool false]
theorem num_none {w : List UInt8} (h : w ≠ [45, 49]) (hb : ¬ (w.length ≠ 0 ∧ w.length ≤ 4 ∧ (w.head? ≠ some 48 ∨ w = [48]) ∧ w.all Tk.isDigit = true)) : Tk.num w = none := by
  unfold Tk.num
  rw [if_neg h, if_neg hb]
theorem num_some {w : List UInt8} (h : w ≠ [45, 49]) (hb : w.length ≠ 0 ∧ w.length ≤ 4 ∧ (w.head? ≠ some 48 ∨ w = [48]) ∧ w.all Tk.isDigit = true) : Tk.num w = some (Tk.value w) := by
  unfold Tk.num
  rw [if_neg h, if_pos hb]
theorem value_take (l : List UInt8) (i : Nat) (h : i < l.length) : Tk.value (l.take (i + 1)) = 10 * Tk.value (l.take i) + (l[i].toNat - 48 : Int) := by
  unfold Tk.value
  rw [List.take_succ_eq_append_getElem h, List.foldl_append]
  rfl
theorem value_bd (l : List UInt8) (h : l.all Tk.isDigit = true) : 0 ≤ Tk.value l ∧ Tk.value l < 10 ^ l.length := by
  suffices key : ∀ (l : List UInt8) (n : Int) (k : Nat), 0 ≤ n → n < 10 ^ k → l.all Tk.isDigit = true → 0 ≤ l.foldl (fun n b => 10 * n + (b.toNat - 48 : Int)) n ∧ l.foldl (fun n b => 10 * n + (b.toNat - 48 : Int)) n < 10 ^ (k + l.length) by
    have := key l 0 0 (by decide) (by decide) h
    simpa [Tk.value] using this
  intro l
  induction l with
  | nil => intro n k h0 h1 _; exact ⟨h0, by simpa using h1⟩
  | cons b l ih =>
    intro n k h0 h1 h2
    simp only [List.all_cons, Bool.and_eq_true] at h2
    have hd := h2.1
    simp [Tk.isDigit] at hd
    have := ih (10 * n + (b.toNat - 48 : Int)) (k + 1) (by omega) (by rw [Int.pow_succ]; omega) h2.2
    rw [List.length_cons, List.foldl_cons, show k + (l.length + 1) = k + 1 + l.length by omega]
    exact this
set_option maxRecDepth 20000 in
set_option maxHeartbeats 2000000 in
theorem rnumber_any (s : ByteArray) (w : World) : Calls Tryd.prog 43 #[.string s] w fun e w' => e = .returned (numAns (Tk.num (bytesOf s))) ∧ w' = w := by
  have hlen := bytesOf_len s
  by_cases h1 : s = ⟨#[45, 49]⟩
  · subst h1
    have E : Hid (Tk.num (bytesOf ⟨#[45, 49]⟩) = some (-1)) := rfl
    go_enter Tryd.func43, Tryd.ntmps43
    go_wp2_with fail
    rw [E.out]
    refine bodyPost_ret (v := .tuple #[.int .i64 (-1), .bool true]) (by simp [results, Tryd.results43, go_sem]) rfl ?_
    exact ⟨rfl, rfl⟩
  have hne : bytesOf s ≠ [45, 49] := fun h => h1 (bytesOf_inj h)
  have e1 : (s.toList == [45, 49]) = false := by rw [ByteArray.toList_eq]; exact beq_eq_false_iff_ne.2 hne
  by_cases h2 : s.size = 0 ∨ 4 < s.size
  · have E : Hid (Tk.num (bytesOf s) = none) := num_none hne (by omega)
    clear hne
    rcases h2 with h2 | h2
    · have h3 : (s.size : Int) < 1 := by omega
      clear h2
      go_enter Tryd.func43, Tryd.ntmps43
      go_wp2_with fail
      rw [E.out]
      refine bodyPost_ret (v := .tuple #[.int .i64 0, .bool false]) (by simp [results, Tryd.results43, go_sem]) rfl ?_
      exact ⟨rfl, rfl⟩
    · have h3 : ¬ (s.size : Int) < 1 := by omega
      have h4 : (4 : Int) < s.size := by omega
      clear h2
      go_enter Tryd.func43, Tryd.ntmps43
      go_wp2_with fail
      rw [E.out]
      refine bodyPost_ret (v := .tuple #[.int .i64 0, .bool false]) (by simp [results, Tryd.results43, go_sem]) rfl ?_
      exact ⟨rfl, rfl⟩
  have h3 : ¬ (s.size : Int) < 1 := by omega
  have h4 : ¬ (4 : Int) < s.size := by omega
  have hp : 0 < s.size := by omega
  obtain ⟨c, hc⟩ : ∃ c, c = s[0]'hp := ⟨_, rfl⟩
  have hhd : (bytesOf s).head? = some c := by rw [List.head?_eq_getElem?, List.getElem?_eq_getElem (by omega), hc]; rfl
  have hg0 : (s[0]'hp).toNat = c.toNat := by rw [hc]
  by_cases h5 : 1 < s.size ∧ c.toNat = 48
  · have E : Hid (Tk.num (bytesOf s) = none) := num_none hne (by
      rintro ⟨_, _, h | h, _⟩
      · exact h (by rw [hhd]; congr 1; exact UInt8.toNat_inj.1 h5.2)
      · have := congrArg List.length h
        simp only [List.length_cons, List.length_nil] at this
        omega)
    have h6 : (1 : Int) < s.size := by omega
    rw [h5.2] at hg0
    clear hne h2 h5 hhd hc
    go_enter Tryd.func43, Tryd.ntmps43
    go_wp2_with fail
    rw [E.out]
    refine bodyPost_ret (v := .tuple #[.int .i64 0, .bool false]) (by simp [results, Tryd.results43, go_sem]) rfl ?_
    exact ⟨rfl, rfl⟩
  have hok : (bytesOf s).head? ≠ some 48 ∨ bytesOf s = [48] := by
    by_cases h6 : c.toNat = 48
    · have h7 : s.size = 1 := by omega
      obtain ⟨d, hd⟩ := List.length_eq_one_iff.1 (hlen.trans h7)
      rw [hd] at hhd ⊢
      cases hhd
      right
      rw [show c = 48 from UInt8.toNat_inj.1 h6]
    · left
      rw [hhd]
      intro h
      cases h
      exact h6 rfl
  have h6 : ¬ (1 : Int) < s.size ∨ ((1 : Int) < s.size ∧ ((c.toNat : Int) == 48) = false) := by
    by_cases h7 : 1 < s.size
    · right
      refine ⟨by omega, ?_⟩
      simp
      omega
    · left
      omega
  rcases h6 with h6 | ⟨h6, h7⟩
  all_goals
    clear h2 h5 hhd hc
    go_enter Tryd.func43, Tryd.ntmps43
    go_wp2_with fail
    go_loop [4, 5] (fun n v => ∃ i : Nat, v = .int .i64 i ∧ i ≤ s.size ∧ n = .int .i64 (Tk.value ((bytesOf s).take i)) ∧ ((bytesOf s).take i).all Tk.isDigit = true) (fun _ v => s.size - (intOf v).toNat)
    case atStart => exact ⟨0, rfl, Nat.zero_le _, rfl, rfl⟩
    case round =>
      obtain ⟨i, rfl, hi, rfl, hd⟩ := hrel
      by_cases hlt : i < s.size
      · have hlt' : (i : Int) < s.size := by omega
        obtain ⟨d, ed⟩ : ∃ d, d = s[i]'hlt := ⟨_, rfl⟩
        have gi : (s[i]'hlt).toNat = d.toNat := by rw [ed]
        have hget : (bytesOf s)[i]'(by omega) = d := by rw [ed]; rfl
        have vt := value_take (bytesOf s) i (by omega)
        have bd := value_bd _ hd
        have lt4 : ((bytesOf s).take i).length ≤ 3 := by rw [List.length_take]; omega
        have bd2 : Tk.value ((bytesOf s).take i) < 1000 := Int.lt_of_lt_of_le bd.2 (by
          have h4 : ((bytesOf s).take i).length = 0 ∨ ((bytesOf s).take i).length = 1 ∨ ((bytesOf s).take i).length = 2 ∨ ((bytesOf s).take i).length = 3 := by omega
          rcases h4 with h4 | h4 | h4 | h4 <;> rw [h4] <;> decide)
        have bd1 := bd.1
        have dl := d.toNat_lt
        rw [hget] at vt
        by_cases hdig : 48 ≤ d.toNat ∧ d.toNat ≤ 57
        · have f1 : ¬ (d.toNat : Int) < 48 := by omega
          have f2 : ¬ (57 : Int) < d.toNat := by omega
          have W1 : IntKind.u8.wrap ((d.toNat : Int) - 48) = (d.toNat : Int) - 48 := by rw [IntKind.wrap_u8]; omega
          have W2 : IntKind.i64.wrap (10 * Tk.value ((bytesOf s).take i)) = 10 * Tk.value ((bytesOf s).take i) := by rw [IntKind.wrap_i64]; omega
          have W3 : IntKind.i64.wrap (10 * Tk.value ((bytesOf s).take i) + ((d.toNat : Int) - 48)) = 10 * Tk.value ((bytesOf s).take i) + ((d.toNat : Int) - 48) := by rw [IntKind.wrap_i64]; omega
          have hd' : ((bytesOf s).take (i + 1)).all Tk.isDigit = true := by
            rw [List.take_succ_eq_append_getElem (by omega), List.all_append, hd, hget]
            simp [Tk.isDigit]
            omega
          have VT := Lib.hid vt
          clear vt ed hget lt4 bd bd2 hdig
          go_wp2_with fail
          go_round
          case rel => exact ⟨i + 1, by go_num, by omega, by rw [VT.out], hd'⟩
          case measure => simp [intOf]; omega
        · have E : Hid (Tk.num (bytesOf s) = none) := num_none hne (by
            rintro ⟨_, _, _, h⟩
            rw [List.all_eq_true] at h
            have := h d (hget ▸ List.getElem_mem _)
            simp [Tk.isDigit] at this
            omega)
          by_cases f1 : (d.toNat : Int) < 48
          · clear vt ed hget lt4 bd bd2 hdig
            go_wp2_with fail
            rw [E.out]
            refine bodyPost_ret (v := .tuple #[.int .i64 0, .bool false]) (by simp [results, Tryd.results43, go_sem]) rfl ?_
            exact ⟨rfl, rfl⟩
          · have f2 : (57 : Int) < d.toNat := by omega
            clear vt ed hget lt4 bd bd2 hdig
            go_wp2_with fail
            rw [E.out]
            refine bodyPost_ret (v := .tuple #[.int .i64 0, .bool false]) (by simp [results, Tryd.results43, go_sem]) rfl ?_
            exact ⟨rfl, rfl⟩
      · have hge : ¬ (i : Int) < s.size := by omega
        have hi2 : i = s.size := by omega
        have E : Hid (Tk.num (bytesOf s) = some (Tk.value ((bytesOf s).take i))) := by
          have e : (bytesOf s).take i = bytesOf s := List.take_of_length_le (by omega)
          rw [e] at hd ⊢
          exact num_some hne ⟨by omega, by omega, hok, hd⟩
        clear hi2 hd
        go_wp2_with fail
        rw [E.out]
        refine bodyPost_ret (v := .tuple #[.int .i64 (Tk.value ((bytesOf s).take i)), .bool true]) (by simp [results, Tryd.results43, go_sem]) rfl ?_
        exact ⟨rfl, rfl⟩
end Go.Proofs.YtadcfedjmofjjaaDoor
