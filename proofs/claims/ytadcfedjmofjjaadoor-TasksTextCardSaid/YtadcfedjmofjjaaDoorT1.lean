/-
  The document's numbers: the walks of Number and numbers.
-/
import Derived.Test.YtadcfedjmofjjaaDoorC2
import Derived.Test.YtadcfedjmofjjaaDoorTextP
namespace Go.Proofs.YtadcfedjmofjjaaDoor
open Go.RowKit
/-- The answer is the text of these bytes, and nothing has turned. -/
def IsText (l : List UInt8) (w : World) (e : Ending) (w' : World) : Prop := ∃ r : ByteArray, e = .returned (.string r) ∧ bytesOf r = l ∧ w = w'
theorem bytesOf_app (a b : ByteArray) : bytesOf (a ++ b) = bytesOf a ++ bytesOf b := by
  show (a ++ b).data.toList = _
  rw [ByteArray.data_append, Array.toList_append]
  rfl
def tens : ByteArray := ⟨#[48, 49, 50, 51, 52, 53, 54, 55, 56, 57]⟩
theorem tens_at : ∀ d : Nat, d < 10 → bytesOf (tens.extract d (d + 1)) = [UInt8.ofNat (48 + d)] := by decide
def tensV : Value := .string ⟨#[48, 49, 50, 51, 52, 53, 54, 55, 56, 57]⟩
set_option maxRecDepth 100000 in
theorem run_tens (d : Nat) (hd : d < 10) : ∀ W : World, (Instr.slice 9 (.string ⟨#[48, 49, 50, 51, 52, 53, 54, 55, 56, 57]⟩) (some (.int .i64 d)) (some (.int .i64 (d + 1))) none).run Tryd.prog W = .ok (.string (tens.extract d (d + 1))) W := by
  have hd' : d = 0 ∨ d = 1 ∨ d = 2 ∨ d = 3 ∨ d = 4 ∨ d = 5 ∨ d = 6 ∨ d = 7 ∨ d = 8 ∨ d = 9 := by omega
  rcases hd' with rfl | rfl | rfl | rfl | rfl | rfl | rfl | rfl | rfl | rfl <;> exact fun _ => by kernel_rfl
theorem text_size {r : ByteArray} {l : List UInt8} (h : bytesOf r = l) {n : Nat} (hl : l.length ≤ n) : (r.size : Int) ≤ n := by
  have := bytesOf_len r
  rw [h] at this
  omega
theorem digits_len {n : Nat} (h : n ≤ 1000000) : (Tk.digits n).length ≤ 7 := (Tk.digits_law n).2.2.2.2 6 (by omega)
theorem numStr_len {n : Int} (h1 : -1 ≤ n) (h2 : n ≤ 9999) : (Tk.numStr n).length ≤ 4 := by
  unfold Tk.numStr
  split
  · have := (Tk.digits_law (-n).toNat).2.2.2.2 0 (by omega)
    simp
    omega
  · exact (Tk.digits_law n.toNat).2.2.2.2 3 (by omega)
theorem numbers_len (l : List Int) (h : ∀ n ∈ l, -1 ≤ n ∧ n ≤ 9999) : (Tk.numbers l).length ≤ 5 * l.length := by
  induction l with
  | nil => simp [Tk.numbers]
  | cons n l ih =>
    have := ih fun m hm => h m (.tail _ hm)
    have := numStr_len (h n (.head _)).1 (h n (.head _)).2
    show ((32 :: Tk.numStr n) ++ Tk.numbers l).length ≤ _
    rw [List.length_append, List.length_cons, List.length_cons]
    omega
set_option maxRecDepth 100000 in
theorem rnumber_nat (n : Nat) : n ≤ 1000000 → ∀ w : World, Calls Tryd.prog 29 #[.int .i64 n] w (IsText (Tk.digits n) w) := by
  induction n using Nat.strongRecOn with
  | _ n ih =>
    intro hn w
    obtain ⟨d, hd⟩ : ∃ d : Nat, d = n % 10 := ⟨_, rfl⟩
    have hd10 : d < 10 := by omega
    have e10 : (n : Int) % 10 = d := by omega
    have hr := run_tens d hd10
    have hb := Lib.hid (tens_at d hd10)
    have hsz := text_size (tens_at d hd10) (n := 1) (by simp)
    by_cases h : n ≤ 9
    · have E := Lib.hid (Tk.digits_small h)
      have hdn : Hid (d = n) := by show d = n; omega
      clear hd
      go_enter Tryd.func29, Tryd.ntmps29
      go_wp2_with fail
      go_ret
      refine ⟨_, rfl, ?_, rfl⟩
      rw [hb.out, E.out, hdn.out]
    · have E := Lib.hid (Tk.digits_great (n := n) (by omega))
      have IH := Lib.hid (ih (n / 10) (by omega) (by omega))
      have hdn := Lib.hid hd
      clear ih hd
      have hl := digits_len (n := n / 10) (by omega)
      go_enter Tryd.func29, Tryd.ntmps29
      go_wp2_with fail
      rw [show (n : Int) / 10 = ((n / 10 : Nat) : Int) by omega]
      refine (IH.out w).mono ?_
      rintro e w1 ⟨r, rfl, hr1, rfl⟩
      have hrs := text_size hr1 hl
      go_wp2_with fail
      go_ret
      refine ⟨_, rfl, ?_, rfl⟩
      rw [bytesOf_app, hr1, hb.out, E.out, hdn.out]
/-- The document's Number, of the numbers that a table may hold. -/
theorem rNum_any (n : Int) (h1 : -1 ≤ n) (h2 : n ≤ 1000000) (w : World) : Calls Tryd.prog 29 #[.int .i64 n] w (IsText (Tk.numStr n) w) := by
  by_cases h : n < 0
  · obtain rfl : n = -1 := by omega
    clear h h1 h2
    go_enter Tryd.func29, Tryd.ntmps29
    go_wp2_with fail
    refine (rnumber_nat 1 (by decide) w).mono ?_
    rintro e w1 ⟨r, rfl, hr1, rfl⟩
    have hrs := text_size hr1 (digits_len (n := 1) (by decide))
    go_wp2_with fail
    go_ret
    refine ⟨_, rfl, ?_, rfl⟩
    rw [bytesOf_app, hr1]
    rfl
  · obtain ⟨m, rfl⟩ : ∃ m : Nat, n = m := ⟨n.toNat, by omega⟩
    have e : Tk.numStr m = Tk.digits m := by
      unfold Tk.numStr
      rw [if_neg h]
      rfl
    rw [e]
    exact rnumber_nat m (by omega) w
theorem numbers_snoc {l : List Int} {k : Nat} (h : k < l.length) : Tk.numbers (l.take (k + 1)) = Tk.numbers (l.take k) ++ (32 :: Tk.numStr l[k]) := by
  rw [List.take_succ_eq_append_getElem h]
  unfold Tk.numbers
  rw [List.flatMap_append, List.flatMap_cons, List.flatMap_nil, List.append_nil]
set_option maxRecDepth 100000 in
theorem rnumbers_any {l : List Int} {A : Option Addr} {c : Nat} {w : World} {B : Nat} (hr : Reads w B 1 A l.length (intV l)) (hl : l.length ≤ 1000) (hn : ∀ n ∈ l, -1 ≤ n ∧ n ≤ 9999) :
    Calls Tryd.prog 28 #[.slice A l.length c] w (IsText (Tk.numbers l) w) := by
  have HR := Lib.hid hr
  have HN := Lib.hid hn
  clear hr hn
  go_enter Tryd.func28, Tryd.ntmps28
  go_wp2_with fail
  go_loopg [4, 3] l.length (fun kk i s wr => ∃ (k : Nat) (r : ByteArray), k ≤ l.length ∧ i = .int .i64 k ∧ s = .string r ∧ bytesOf r = Tk.numbers (l.take k) ∧ wr = w ∧ l.length - k ≤ kk)
  case atStart => exact ⟨0, _, Nat.zero_le _, rfl, rfl, rfl, rfl, by omega⟩
  case round =>
    obtain ⟨k, r, hk, rfl, rfl, hs, rfl, hkk⟩ := hrel
    have HS := Lib.hid hs
    by_cases hlt : k < l.length
    · have hlt' : (k : Int) < l.length := by omega
      have hsz := text_size hs (n := 5000) (by
        have := numbers_len (l.take k) fun n hn => HN.out n (List.mem_of_mem_take hn)
        rw [List.length_take] at this
        omega)
      clear hs
      obtain ⟨ad1, e1, had1, hc1⟩ := HR.out.int hlt
      subst e1
      have HX := Lib.hid (numbers_snoc hlt)
      have HB := Lib.hid (HN.out l[k] (List.getElem_mem _))
      generalize l[k] = x at *
      go_wp2_with fail
      refine (rNum_any x HB.out.1 (by have := HB.out.2; omega) _).mono ?_
      rintro e w1 ⟨q, rfl, hq, rfl⟩
      have hqs := text_size hq (numStr_len HB.out.1 HB.out.2)
      go_wp2_with fail
      go_roundg (l.length - (k + 1))
      case measure => omega
      case rel => exact ⟨k + 1, _, by omega, by go_num, rfl, by rw [bytesOf_app, bytesOf_app, HS.out, hq, HX.out]; simp [bytesOf], rfl, Nat.le_refl _⟩
    · have hge : ¬ (k : Int) < l.length := by omega
      obtain rfl : k = l.length := by omega
      go_wp2_with fail
      go_ret
      exact ⟨_, rfl, by rw [HS.out, List.take_length], rfl⟩
theorem IsText.of {l : List UInt8} {w w' : World} {e : Ending} {S : ByteArray} (hS : bytesOf S = l) (h : IsText l w e w') : e = .returned (.string S) ∧ w' = w := by
  obtain ⟨r, rfl, hr, rfl⟩ := h
  rw [bytesOf_inj (hr.trans hS.symm)]
  exact ⟨rfl, rfl⟩
theorem rNum_str (n : Int) (h1 : -1 ≤ n) (h2 : n ≤ 1000000) : ∃ S : ByteArray, bytesOf S = Tk.numStr n ∧ ∀ w, Calls Tryd.prog 29 #[.int .i64 n] w fun e w' => e = .returned (.string S) ∧ w' = w :=
  ⟨⟨(Tk.numStr n).toArray⟩, bytesOf_mk _, fun w => (rNum_any n h1 h2 w).mono fun _ _ h => h.of (bytesOf_mk _)⟩
theorem rnumbers_str (l : List Int) (hl : l.length ≤ 1000) (hn : ∀ n ∈ l, -1 ≤ n ∧ n ≤ 9999) : ∃ S : ByteArray, bytesOf S = Tk.numbers l ∧
    ∀ A c w B, Reads w B 1 A l.length (intV l) → Calls Tryd.prog 28 #[.slice A l.length c] w fun e w' => e = .returned (.string S) ∧ w' = w :=
  ⟨⟨(Tk.numbers l).toArray⟩, bytesOf_mk _, fun _ _ _ _ hr => (rnumbers_any hr hl hn).mono fun _ _ h => h.of (bytesOf_mk _)⟩
end Go.Proofs.YtadcfedjmofjjaaDoor
