/-
  The numbers of words: the walks of both programs' texts.
-/
import Derived.Test.YtadcfedjmofjjaaDoorN2
import Derived.Test.YtadcfedjmofjjaaDoorHeap
namespace Go.Proofs.YtadcfedjmofjjaaDoor
open Go.RowKit
theorem nums_snoc (l : List (List UInt8)) (x : List UInt8) : Tk.nums (l ++ [x]) = (match Tk.nums l, Tk.num x with | some ns, some n => some (ns ++ [n]) | _, _ => none) := by
  induction l with
  | nil =>
    simp only [List.nil_append, Tk.nums]
    rcases Tk.num x with _ | n <;> rfl
  | cons w l ih =>
    simp only [List.cons_append, Tk.nums, ih]
    rcases Tk.num w with _ | n <;> rcases Tk.nums l with _ | ns <;> rcases Tk.num x with _ | m <;> rfl
theorem nums_none {l : List (List UInt8)} {x : List UInt8} (h : x ∈ l) (hx : Tk.num x = none) : Tk.nums l = none := by
  induction l with
  | nil => simp at h
  | cons w l ih =>
    simp only [Tk.nums]
    rcases List.mem_cons.1 h with rfl | h
    · rw [hx]
    · rw [ih h]
      rcases Tk.num w with _ | n <;> rfl
theorem nums_len {l : List (List UInt8)} {ns : List Int} (h : Tk.nums l = some ns) : ns.length = l.length := by
  induction l generalizing ns with
  | nil => simp only [Tk.nums] at h; injection h with h; subst h; rfl
  | cons w l ih =>
    simp only [Tk.nums] at h
    rcases hw : Tk.num w with _ | n
    · rw [hw] at h; cases h
    · rcases hl : Tk.nums l with _ | m
      · rw [hw, hl] at h; cases h
      · rw [hw, hl] at h
        injection h with h
        subst h
        simp [ih hl]
def intV (l : List Int) : List Value := l.map (Value.int .i64)
/-- The numbers of words are told in memory of their own, or that there are none. -/
def NumsPost (w : World) (ws : List (List UInt8)) (e : Ending) (w' : World) : Prop :=
  Below w.heap.size w w' ∧ match Tk.nums ws with
  | some ns => ∃ v, e = .returned (.tuple #[v, .bool true]) ∧ w'.ownsRow w.heap.size 3 1 v ns.length (intV ns)
  | none => e = .returned (.tuple #[.slice none 0 0, .bool false])
/-- What the loop over the words leaves. -/
def NumsRel (w : World) (ws : List (List UInt8)) (k : Nat) (lv iv : Value) (wr : World) : Prop :=
  ∃ (i : Nat) (ns : List Int), iv = .int .i64 i ∧ i ≤ ws.length ∧ Tk.nums (ws.take i) = some ns ∧ wr.ownsRow w.heap.size 3 1 lv ns.length (intV ns) ∧ Below w.heap.size w wr ∧ ws.length - i ≤ k
theorem bytesOf_str (x : List UInt8) : bytesOf ⟨x.toArray⟩ = x := rfl
theorem size_str (x : List UInt8) : (⟨x.toArray⟩ : ByteArray).size = x.length := by show x.toArray.size = _; simp
set_option maxRecDepth 20000 in
set_option maxHeartbeats 4000000 in
theorem numbers_any (ws : List (List UInt8)) (w : World) (A : Option Addr) (c : Nat) (hr : Reads w w.heap.size 1 A ws.length (ws.map strV)) (hl : ws.length ≤ 1000000) (hx : ∀ x ∈ ws, x.length ≤ 1000000) :
    Calls Tryd.prog 39 #[.slice A ws.length c] w (NumsPost w ws) := by
  obtain ⟨i0, hi, hz0, hz1, hz2⟩ := info_parts info3
  have HX := Lib.hid hx
  clear hx
  go_enter Tryd.func39, Tryd.ntmps39
  go_wp2_with fail
  go_loopg [4, 11] ws.length (fun k lv iv wr => NumsRel w ws k lv iv wr)
  case atStart => exact ⟨0, [], rfl, Nat.zero_le _, rfl, World.ownsRow_nil _ _ _ _, Below.refl _ _, by omega⟩
  case round =>
    obtain ⟨i, ns, rfl, hin, hns, own, hb, hk⟩ := hrel
    have hnl := nums_len hns
    have hnl2 : ns.length ≤ i := by rw [hnl, List.length_take]; omega
    by_cases hlt : i < ws.length
    · have hlt' : (i : Int) < ws.length := by omega
      obtain ⟨ad, u, rfl, had, hu, hc⟩ := (hr.below hb (Nat.le_refl _)).at_ hlt
      rw [List.getElem?_map, List.getElem?_eq_getElem hlt] at hu
      injection hu with hu
      subst hu
      obtain ⟨x, ex⟩ : ∃ x, x = ws[i] := ⟨_, rfl⟩
      have hxm : x ∈ ws := by rw [ex]; exact List.getElem_mem _
      have hxl : (⟨x.toArray⟩ : ByteArray).size ≤ 1000000 := by rw [size_str]; exact HX.out x hxm
      have hc' : wr.cell? (ad.add i) = some (.string ⟨x.toArray⟩) := by rw [hc, ex]; rfl
      have hsn := nums_snoc (ws.take i) x
      have htk : ws.take (i + 1) = ws.take i ++ [x] := by rw [List.take_succ_eq_append_getElem hlt, ex]
      rw [← htk, hns] at hsn
      have SN := Lib.hid hsn
      have HXM := Lib.hid hxm
      clear hc htk hsn hns hnl ex hxm
      go_wp2_with fail
      refine (number_any _ _ hxl).mono ?_
      rintro e w1 ⟨⟨v, rfl, hv⟩, b1⟩
      rw [bytesOf_str] at hv
      have own1 := row_below own b1 (Nat.le_refl _)
      have hzr := hb.size
      have hb1 := hb.trans (b1.mono hzr)
      have hz1' := hb1.size
      rcases hn : Tk.num x with _ | n
      · rw [hn] at hv
        obtain ⟨m, rfl⟩ := hv
        have E := Lib.hid (nums_none HXM.out hn)
        clear hn
        go_wp2_with fail
        refine bodyPost_ret (v := .tuple #[.slice none 0 0, .bool false]) (by simp [results, Tryd.results39, go_sem]) rfl ?_
        unfold NumsPost
        rw [E.out]
        exact ⟨hb1, rfl⟩
      · rw [hn] at hv
        have hv' : v = .tuple #[.int .i64 n, .bool true] := hv
        subst hv'
        have E : Hid (Tk.nums (ws.take (i + 1)) = some (ns ++ [n])) := by
          have := SN.out
          rw [hn] at this
          exact this
        clear hn hv SN
        go_wp2_with (at_builtin; refine wpList_append_own _ rfl _ _ _ rfl w.heap.size 3 i0 _ 1 8 Tryd.underlying24 hi hz0 hz1 hz2 rfl (by decide) _ ns.length (intV ns) rfl (own1.alloc _) ⟨w1.heap.size, 0, none⟩ 1 1 [.int .i64 n] rfl rfl ?c1 ?c2 ?c3 ?c4 ?c5 ?_)
        case c1 => intro j u hj; match j, hj with | 0, hj => simp at hj; subst hj; simp [Addr.add]
        case c2 => intro u hu; simp at hu; subst hu; rfl
        case c3 => unfold maxLen; omega
        case c4 => omega
        case c5 => simp; omega
        intro v' w5 own5 hgrow _
        have hb5 := (hb1.alloc (by omega) (.cells #[.int .i64 n] 3)).grown hgrow (by simp; omega) (fun k hk => (own1.lt k hk).1)
        clear hgrow
        go_wp2_with fail
        go_roundg (ws.length - (i + 1))
        case measure => omega
        case rel => exact ⟨i + 1, ns ++ [n], by go_num, by omega, E.out, by rw [List.length_append]; simpa [intV] using own5, hb5, Nat.le_refl _⟩
    · have hge : ¬ (i : Int) < ws.length := by omega
      have E : Hid (Tk.nums ws = some ns) := by rw [List.take_of_length_le (by omega)] at hns; exact hns
      clear hns hnl
      go_wp2_with fail
      refine bodyPost_ret (v := .tuple #[_, .bool true]) (by simp [results, Tryd.results39, go_sem]; rfl) rfl ?_
      unfold NumsPost
      rw [E.out]
      exact ⟨hb, _, rfl, own⟩
set_option maxRecDepth 20000 in
set_option maxHeartbeats 4000000 in
theorem all_any (ws : List (List UInt8)) (w : World) (A : Option Addr) (c : Nat) (hr : Reads w w.heap.size 1 A ws.length (ws.map strV)) (hl : ws.length ≤ 1000000) :
    Calls Tryd.prog 42 #[.slice A ws.length c] w (NumsPost w ws) := by
  obtain ⟨i0, hi, hz0, hz1, hz2⟩ := info_parts info3
  go_enter Tryd.func42, Tryd.ntmps42
  go_wp2_with fail
  go_loopg [4, 5] ws.length (fun k lv iv wr => NumsRel w ws k lv iv wr)
  case atStart => exact ⟨0, [], rfl, Nat.zero_le _, rfl, World.ownsRow_nil _ _ _ _, Below.refl _ _, by omega⟩
  case round =>
    obtain ⟨i, ns, rfl, hin, hns, own, hb, hk⟩ := hrel
    have hnl := nums_len hns
    have hnl2 : ns.length ≤ i := by rw [hnl, List.length_take]; omega
    by_cases hlt : i < ws.length
    · have hlt' : (i : Int) < ws.length := by omega
      obtain ⟨ad, u, rfl, had, hu, hc⟩ := (hr.below hb (Nat.le_refl _)).at_ hlt
      rw [List.getElem?_map, List.getElem?_eq_getElem hlt] at hu
      injection hu with hu
      subst hu
      obtain ⟨x, ex⟩ : ∃ x, x = ws[i] := ⟨_, rfl⟩
      have hxm : x ∈ ws := by rw [ex]; exact List.getElem_mem _
      have hc' : wr.cell? (ad.add i) = some (.string ⟨x.toArray⟩) := by rw [hc, ex]; rfl
      have hsn := nums_snoc (ws.take i) x
      have htk : ws.take (i + 1) = ws.take i ++ [x] := by rw [List.take_succ_eq_append_getElem hlt, ex]
      rw [← htk, hns] at hsn
      have SN := Lib.hid hsn
      have HXM := Lib.hid hxm
      have hzr := hb.size
      clear hc htk hsn hns hnl ex hxm
      go_wp2_with fail
      refine (rnumber_any _ _).mono ?_
      rintro e w1 ⟨rfl, ew⟩
      have ew' := ew.symm
      subst ew'
      rw [bytesOf_str]
      rcases hn : Tk.num x with _ | n
      · have E := Lib.hid (nums_none HXM.out hn)
        unfold numAns
        dsimp only
        clear hn
        go_wp2_with fail
        refine bodyPost_ret (v := .tuple #[.slice none 0 0, .bool false]) (by simp [results, Tryd.results42, go_sem]) rfl ?_
        unfold NumsPost
        rw [E.out]
        exact ⟨hb, rfl⟩
      · have E : Hid (Tk.nums (ws.take (i + 1)) = some (ns ++ [n])) := by
          have := SN.out
          rw [hn] at this
          exact this
        unfold numAns
        dsimp only
        clear hn SN
        go_wp2_with (at_builtin; refine wpList_append_own _ rfl _ _ _ rfl w.heap.size 3 i0 _ 1 8 Tryd.underlying24 hi hz0 hz1 hz2 rfl (by decide) _ ns.length (intV ns) rfl (own.alloc _) ⟨wr.heap.size, 0, none⟩ 1 1 [.int .i64 n] rfl rfl ?c1 ?c2 ?c3 ?c4 ?c5 ?_)
        try case c1 => intro j u hj; match j, hj with | 0, hj => simp at hj; subst hj; simp [Addr.add]
        case c2 => first | rfl | (intro u hu; simp at hu; subst hu; rfl)
        case c3 => unfold maxLen; omega
        case c4 => omega
        case c5 => first | omega | (simp; omega)
        intro v' w5 own5 hgrow _
        have hb5 := (hb.alloc (by omega) (.cells #[.int .i64 n] 3)).grown hgrow (by simp; omega) (fun k hk => (own.lt k hk).1)
        clear hgrow
        go_wp2_with fail
        go_roundg (ws.length - (i + 1))
        case measure => omega
        case rel => exact ⟨i + 1, ns ++ [n], by go_num, by omega, E.out, by rw [List.length_append]; simpa [intV] using own5, hb5, Nat.le_refl _⟩
    · have hge : ¬ (i : Int) < ws.length := by omega
      have E : Hid (Tk.nums ws = some ns) := by rw [List.take_of_length_le (by omega)] at hns; exact hns
      clear hns hnl
      go_wp2_with fail
      refine bodyPost_ret (v := .tuple #[_, .bool true]) (by simp [results, Tryd.results42, go_sem]; rfl) rfl ?_
      unfold NumsPost
      rw [E.out]
      exact ⟨hb, _, rfl, own⟩
end Go.Proofs.YtadcfedjmofjjaaDoor
