/-
  The number of a word: the walk of the given number.
-/
import Derived.Test.YtadcfedjmofjjaaDoorN1
import Derived.Deep.DeepCutAuto
import Derived.Below
import Derived.Laws.RangeAny
import Derived.Laws.RangeString
namespace Go.Proofs.YtadcfedjmofjjaaDoor
open Go.RowKit
/-- The test ahead of the loop. -/
def numOk (l : List UInt8) : Bool := decide (l.length ≠ 0 ∧ l.length ≤ 4 ∧ (l.head? ≠ some 48 ∨ l = [48]))
/-- A number is told, and that it is one; or that it is none. -/
def NumIs (o : Option Int) (v : Value) : Prop := match o with
  | some n => v = .tuple #[.int .i64 n, .bool true]
  | none => ∃ n, v = .tuple #[.int .i64 n, .bool false]
/-- What the loop over a word's runes leaves. -/
def NumRel (w : World) (s : ByteArray) (k : Nat) (okv nv : Value) (wr : World) : Prop :=
  ∃ (pos : Nat) (n : Int), wr = w.iter s pos ∧ okv = .bool (numOk (bytesOf s) && ((bytesOf s).take pos).all Tk.isDigit) ∧ nv = .int .i64 n ∧
    (numOk (bytesOf s) = true → ((bytesOf s).take pos).all Tk.isDigit = true → n = Tk.value ((bytesOf s).take pos)) ∧ pos ≤ s.size ∧ s.size - pos ≤ k
theorem all_more {l : List UInt8} {p : UInt8 → Bool} {i j : Nat} (h : i ≤ j) (hf : (l.take i).all p = false) : (l.take j).all p = false := by
  rcases hx : (l.take j).all p with _ | _
  · rfl
  · rw [List.all_eq_true] at hx
    have : (l.take i).all p = true := by
      rw [List.all_eq_true]
      intro b hb
      refine hx b ?_
      have e : l.take i = (l.take j).take i := by rw [List.take_take, Nat.min_eq_left h]
      rw [e] at hb
      exact List.mem_of_mem_take hb
    rw [hf] at this
    cases this
theorem all_not {l : List UInt8} {p : UInt8 → Bool} {i j : Nat} (hi : i < j) (hl : i < l.length) (hp : p l[i] = false) : (l.take j).all p = false := by
  rcases hx : (l.take j).all p with _ | _
  · rfl
  · rw [List.all_eq_true] at hx
    have := hx l[i] (List.mem_iff_getElem.2 ⟨i, by rw [List.length_take]; omega, by rw [List.getElem_take]⟩)
    rw [hp] at this
    cases this
theorem RuneAt.notDigit {l : List UInt8} {pos c wd : Nat} (h : RuneAt l pos c wd) (hc : c < 48 ∨ 57 < c) : (l.take (pos + wd)).all Tk.isDigit = false := by
  have h1 := h.pos_
  have h2 := h.le
  refine all_not (i := pos) (by omega) (by omega) ?_
  rcases h.form with ⟨a, b, e⟩ | ⟨a, b⟩
  · rw [List.getElem?_eq_getElem (by omega)] at e
    injection e with e
    rw [e]
    simp [Tk.isDigit]
    omega
  · have := b l[pos] (List.mem_iff_getElem.2 ⟨0, by rw [List.length_take, List.length_drop]; omega, by simp⟩)
    simp [Tk.isDigit]
    omega
theorem RuneAt.digit {l : List UInt8} {pos c wd : Nat} (h : RuneAt l pos c wd) (hc : 48 ≤ c ∧ c ≤ 57) (ha : (l.take pos).all Tk.isDigit = true) :
    wd = 1 ∧ (l.take (pos + 1)).all Tk.isDigit = true ∧ Tk.value (l.take (pos + 1)) = 10 * Tk.value (l.take pos) + ((c : Int) - 48) := by
  have h1 := h.pos_
  have h2 := h.le
  rcases h.form with ⟨a, b, e⟩ | ⟨a, b⟩
  · have hlt : pos < l.length := by omega
    rw [List.getElem?_eq_getElem hlt] at e
    injection e with e
    refine ⟨b, ?_, ?_⟩
    · rw [List.take_succ_eq_append_getElem hlt, List.all_append, ha, e]
      simp [Tk.isDigit]
      omega
    · rw [value_take _ _ hlt, e]
      simp
      omega
  · omega
theorem num_of_rel {l : List UInt8} (h : l ≠ [45, 49]) : ((numOk l && l.all Tk.isDigit) = true → Tk.num l = some (Tk.value l)) ∧ ((numOk l && l.all Tk.isDigit) = false → Tk.num l = none) := by
  constructor
  · intro hb
    simp [numOk] at hb
    refine num_some h ⟨by simpa using hb.1.1, hb.1.2.1, by simpa using hb.1.2.2, by simpa using hb.2⟩
  · intro hb
    refine num_none h fun hc => ?_
    have h1 : numOk l = true := decide_eq_true ⟨hc.1, hc.2.1, hc.2.2.1⟩
    rw [h1, hc.2.2.2] at hb
    cases hb
set_option maxRecDepth 20000 in
set_option maxHeartbeats 2000000 in
theorem number_any (s : ByteArray) (w : World) (hs : s.size ≤ 1000000) : Calls Tryd.prog 49 #[.string s] w fun e w' => (∃ v, e = .returned v ∧ NumIs (Tk.num (bytesOf s)) v) ∧ Below w.heap.size w w' := by
  have hlen := bytesOf_len s
  by_cases h1 : s = ⟨#[45, 49]⟩
  · subst h1
    have E : Hid (Tk.num (bytesOf ⟨#[45, 49]⟩) = some (-1)) := rfl
    go_enter Tryd.func49, Tryd.ntmps49
    go_wp2_with fail
    refine bodyPost_ret (v := .tuple #[.int .i64 (-1), .bool true]) (by simp [results, Tryd.results49, go_sem]) rfl ?_
    rw [E.out]
    exact ⟨⟨_, rfl, rfl⟩, Below.refl _ _⟩
  have hne : bytesOf s ≠ [45, 49] := fun h => h1 (bytesOf_inj h)
  have NE := Lib.hid hne
  have e1 : (s.toList == [45, 49]) = false := by rw [ByteArray.toList_eq]; exact beq_eq_false_iff_ne.2 hne
  have HLEN := Lib.hid hlen
  clear hne h1
  go_enter Tryd.func49, Tryd.ntmps49
  go_upto_region 3 with (fail)
  go_cut [4] (fun v wx => v = .bool (numOk (bytesOf s)) ∧ wx = w)
  case first =>
    by_cases h2 : s.size = 0
    · have E : Hid (numOk (bytesOf s) = false) := decide_eq_false (by omega)
      have e2 : s.toList = [] := by rw [ByteArray.toList_eq]; exact List.eq_nil_of_length_eq_zero (hlen.trans h2)
      have e3 : s.toList.isEmpty = true := by rw [e2]; rfl
      clear h2 hlen
      go_wp2_with fail
      all_goals
        go_meet
        exact ⟨by rw [E.out]; try rfl, rfl⟩
    · have hp : 0 < s.size := by omega
      have e2 : ¬ s.toList = [] := by
        rw [ByteArray.toList_eq]
        intro h
        have := congrArg List.length h
        have h3 : s.data.toList.length = s.size := hlen
        rw [h3, List.length_nil] at this
        omega
      have e3 : (!s.toList.isEmpty) = true := by simp [e2]
      by_cases h4 : 4 < s.size
      · have E : Hid (numOk (bytesOf s) = false) := decide_eq_false (by omega)
        have h4' : ¬ (s.size : Int) ≤ 4 := by omega
        clear h2 hlen
        go_wp2_with fail
        all_goals
          go_meet
          exact ⟨by rw [E.out]; try rfl, rfl⟩
      · have h4' : (s.size : Int) ≤ 4 := by omega
        obtain ⟨c, hc⟩ : ∃ c, c = s[0]'hp := ⟨_, rfl⟩
        have hhd : (bytesOf s).head? = some c := by rw [List.head?_eq_getElem?, List.getElem?_eq_getElem (by omega), hc]; rfl
        have hg0 : (s[0]'hp).toNat = c.toNat := by rw [hc]
        by_cases h48 : c.toNat = 48
        · by_cases h0 : bytesOf s = [48]
          · have E : Hid (numOk (bytesOf s) = true) := decide_eq_true ⟨by omega, by omega, .inr h0⟩
            have e4 : (s.toList == [48]) = true := by rw [ByteArray.toList_eq]; exact beq_iff_eq.2 h0
            have h48' : ((c.toNat : Int) == 48) = true := by rw [h48]; rfl
            have h49' : ((c.toNat : Int) != 48) = false := by rw [h48]; rfl
            clear h2 hlen hhd hc h0 h48
            go_wp2_with fail
            all_goals
              go_meet
              exact ⟨by rw [E.out]; try rfl, rfl⟩
          · have E : Hid (numOk (bytesOf s) = false) := decide_eq_false (by
              rintro ⟨_, _, h | h⟩
              · exact h (by rw [hhd]; congr 1; exact UInt8.toNat_inj.1 h48)
              · exact h0 h)
            have e4 : (s.toList == [48]) = false := by rw [ByteArray.toList_eq]; exact beq_eq_false_iff_ne.2 h0
            have h48' : ((c.toNat : Int) == 48) = true := by rw [h48]; rfl
            have h49' : ((c.toNat : Int) != 48) = false := by rw [h48]; rfl
            clear h2 hlen hhd hc h0 h48
            go_wp2_with fail
            all_goals
              go_meet
              exact ⟨by rw [E.out]; try rfl, rfl⟩
        · have E : Hid (numOk (bytesOf s) = true) := decide_eq_true ⟨by omega, by omega, .inl (by
            rw [hhd]
            intro h
            cases h
            exact h48 rfl)⟩
          have h48' : ((c.toNat : Int) == 48) = false := by simp; omega
          have h49' : ((c.toNat : Int) != 48) = true := by simp; omega
          have h50' : ¬ (c.toNat : Int) = 48 := by omega
          clear h2 hlen hhd hc h48
          go_wp2_with fail
          all_goals
            go_meet
            exact ⟨by rw [E.out]; try rfl, rfl⟩
  case rest =>
    obtain ⟨rfl, ew⟩ := hcut
    have ew' := ew.symm
    subst ew'
    clear hlen
    go_wp2_with fail
    go_loopg [4, 5] s.size (fun k okv nv wr => NumRel w s k okv nv wr)
    case atStart => exact ⟨0, 0, rfl, by simp, rfl, fun _ _ => rfl, Nat.zero_le _, by omega⟩
    case round =>
      obtain ⟨pos, n, rfl, rfl, rfl, hv, hps, hk⟩ := hrel
      by_cases hp : pos < s.size
      · have hnx : ∀ ty, (Instr.next (.pointer (some ⟨w.heap.size, 0, none⟩)) true ty).run Tryd.prog (w.iter s pos) = _ := fun ty => run_next_any w s pos ty hp
        have hr := runeAt s pos hp
        generalize (Utf8.decode s pos).1 = c at *
        generalize (Utf8.decode s pos).2 = wd at *
        have r1 := hr.pos_
        have r2 := hr.le
        have r3 := hr.small
        have HL := HLEN.out
        have hstep : s.size - (pos + wd) ≤ s.size - pos - 1 := by omega
        have hle : pos + wd ≤ s.size := by omega
        clear HL r2
        rcases hb : (numOk (bytesOf s) && ((bytesOf s).take pos).all Tk.isDigit) with _ | _
        · have hb2 : Hid ((numOk (bytesOf s) && ((bytesOf s).take (pos + wd)).all Tk.isDigit) = false) := by
            rw [Bool.and_eq_false_iff] at hb ⊢
            exact hb.imp id fun h => all_more (by omega) h
          have HB := Lib.hid hb
          clear hb hv
          go_wp2_with fail
          go_roundg (s.size - (pos + wd))
          case measure => omega
          case rel =>
            refine ⟨pos + wd, _, rfl, by rw [hb2.out], rfl, fun h1 h2 => ?_, hle, Nat.le_refl _⟩
            have := hb2.out
            rw [h1, h2] at this
            cases this
        · simp only [Bool.and_eq_true] at hb
          obtain ⟨hb1, hb2⟩ := hb
          obtain rfl := hv hb1 hb2
          by_cases hd : 48 ≤ c ∧ c ≤ 57
          · obtain ⟨rfl, d1, d2⟩ := hr.digit hd hb2
            have bd := value_bd _ hb2
            have l4 : (bytesOf s).length ≤ 4 := by
              simp [numOk] at hb1
              exact hb1.2.1
            have lt4 : ((bytesOf s).take pos).length ≤ 3 := by rw [List.length_take]; have := HLEN.out; omega
            have bd2 : Tk.value ((bytesOf s).take pos) < 1000 := Int.lt_of_lt_of_le bd.2 (by
              have h4 : ((bytesOf s).take pos).length = 0 ∨ ((bytesOf s).take pos).length = 1 ∨ ((bytesOf s).take pos).length = 2 ∨ ((bytesOf s).take pos).length = 3 := by omega
              rcases h4 with h4 | h4 | h4 | h4 <;> rw [h4] <;> decide)
            have bd1 := bd.1
            have D2 := Lib.hid d2
            have hc1 : (48 : Int) ≤ c := by omega
            have hc2 : (c : Int) ≤ 57 := by omega
            have B1 := Lib.hid hb1
            have B2 := Lib.hid hb2
            have D1 := Lib.hid d1
            clear d2 bd lt4 l4 hd hb1 hb2 d1 hv hr
            generalize Tk.value ((bytesOf s).take pos) = V at *
            go_wp2_with fail
            go_roundg (s.size - (pos + 1))
            case measure => omega
            case rel =>
              exact ⟨pos + 1, _, rfl, by rw [B1.out, D1.out]; rfl, rfl, fun _ _ => D2.out.symm, hle, Nat.le_refl _⟩
          · have hb3 : Hid ((numOk (bytesOf s) && ((bytesOf s).take (pos + wd)).all Tk.isDigit) = false) := by
              show (_ && _) = false
              rw [hr.notDigit (by omega), Bool.and_false]
            clear hb1 hb2 hv hr
            by_cases hc1 : (48 : Int) ≤ c
            · have hc2 : ¬ (c : Int) ≤ 57 := by omega
              clear hd
              go_wp2_with fail
              go_roundg (s.size - (pos + wd))
              case measure => omega
              case rel =>
                refine ⟨pos + wd, _, rfl, by rw [hb3.out], rfl, fun h1 h2 => ?_, hle, Nat.le_refl _⟩
                have := hb3.out
                rw [h1, h2] at this
                cases this
            · clear hd
              go_wp2_with fail
              go_roundg (s.size - (pos + wd))
              case measure => omega
              case rel =>
                refine ⟨pos + wd, _, rfl, by rw [hb3.out], rfl, fun h1 h2 => ?_, hle, Nat.le_refl _⟩
                have := hb3.out
                rw [h1, h2] at this
                cases this
      · have hnx : ∀ ty, (Instr.next (.pointer (some ⟨w.heap.size, 0, none⟩)) true ty).run Tryd.prog (w.iter s pos) = _ := fun ty => run_next_end w s pos ty hp
        have hfull : (bytesOf s).take pos = bytesOf s := List.take_of_length_le (by have := HLEN.out; omega)
        rw [hfull] at hv ⊢
        clear hfull
        have NR := num_of_rel NE.out
        rcases hb : (numOk (bytesOf s) && (bytesOf s).all Tk.isDigit) with _ | _
        · have E := Lib.hid (NR.2 hb)
          clear NR hb hv
          go_wp2_with fail
          refine bodyPost_ret (v := .tuple #[.int .i64 n, .bool false]) (by simp [results, Tryd.results49, go_sem]) rfl ?_
          rw [E.out]
          exact ⟨⟨_, rfl, _, rfl⟩, (Below.refl _ _).alloc (Nat.le_refl _) _⟩
        · have E := Lib.hid (NR.1 hb)
          simp only [Bool.and_eq_true] at hb
          obtain rfl := hv hb.1 hb.2
          clear NR hb hv
          go_wp2_with fail
          refine bodyPost_ret (v := .tuple #[.int .i64 (Tk.value (bytesOf s)), .bool true]) (by simp [results, Tryd.results49, go_sem]) rfl ?_
          rw [E.out]
          exact ⟨⟨_, rfl, rfl⟩, (Below.refl _ _).alloc (Nat.le_refl _) _⟩
end Go.Proofs.YtadcfedjmofjjaaDoor
