/-
  A line: the walk of the given reader's line.
-/
import Derived.Test.YtadcfedjmofjjaaDoorL2
import Derived.Test.YtadcfedjmofjjaaDoorN3
namespace Go.Proofs.YtadcfedjmofjjaaDoor
open Go.RowKit
def LinePost (w : World) (p : Nat) (t : Tk.Table) (st : Nat) (s : List UInt8) (e : Ending) (w' : World) : Prop :=
  Below p w w' ∧ match Tk.line t st s with
  | some (t', st') => e = .returned (.bool true) ∧ RMem w' p t' st'
  | none => e = .returned (.bool false)
/-- So many tasks at most, and so many operations of each. -/
def Bd (t : Tk.Table) (n : Nat) : Prop := t.tasks.length ≤ n ∧ ∀ x ∈ t.tasks, x.ops.length ≤ n
def pushT (t : Tk.Table) (wd : List UInt8) (ns : List Int) : Option Tk.Table :=
  if wd = [116, 97, 115, 107] ∧ ns.length = 1 then some { t with tasks := t.tasks ++ [⟨ns.headD 0, []⟩] } else none
/-- What a line with words and numbers does. -/
def doT (t : Tk.Table) (st : Nat) (inner : Bool) (wd : List UInt8) (ns : List Int) : Option (Tk.Table × Nat) :=
  if st < 3 then (if inner = true then none else (aheadT t st wd ns).map (·, st + 1)) else if inner = false then (pushT t wd ns).map (·, st) else (opT t wd ns).map (·, st)
theorem line_nil {t : Tk.Table} {st : Nat} {s : List UInt8} (h : Tk.words s = []) : Tk.line t st s = if Tk.dotted s = true then none else some (t, st) := by
  unfold Tk.line
  rw [h]
theorem line_cons {t : Tk.Table} {st : Nat} {s wd : List UInt8} {ws : List (List UInt8)} (hst : st ≤ 3) (h : Tk.words s = wd :: ws) :
    Tk.line t st s = if wd.head? = some 35 ∧ Tk.dotted s = false then some (t, st) else match Tk.nums ws with
      | none => none
      | some ns => doT t st (Tk.inner s) wd ns := by
  unfold Tk.line doT aheadT pushT opT
  rw [h]
  dsimp only
  by_cases hc : wd.head? = some 35 ∧ Tk.dotted s = false
  · rw [if_pos hc, if_pos hc]
  rw [if_neg hc, if_neg hc]
  rcases Tk.nums ws with _ | ns
  · rfl
  dsimp only
  by_cases h3 : st < 3
  · rw [if_pos h3, if_pos h3]
    rcases Tk.inner s with _ | _
    · have h4 : st = 0 ∨ st = 1 ∨ st = 2 := by omega
      by_cases h5 : some wd = Tk.heads[st]?
      · rcases h4 with rfl | rfl | rfl
        · simp [h5]
        · by_cases h6 : ns.length = 1 <;> simp [h5, h6]
        · simp [h5]
      · simp [h5]
    · simp
  · rw [if_neg h3, if_neg h3]
    rcases Tk.inner s with _ | _
    · rw [if_pos rfl, if_pos rfl]
      by_cases h5 : wd = [116, 97, 115, 107] ∧ ns.length = 1
      · rw [if_pos h5, if_pos h5]; rfl
      · rw [if_neg h5, if_neg h5]; rfl
    · simp only [Bool.true_eq_false, if_false]
      by_cases h5 : t.tasks = []
      · rw [if_pos h5, if_pos h5]; rfl
      · rw [if_neg h5, if_neg h5]
        rcases Tk.kindOf wd ns.length with _ | k <;> rfl
theorem row_cap {w : World} {B : Nat} {e : TypeId} {size m n c : Nat} {a : Option Addr} {xs : List Value} (h : w.ownsRow B e size (.slice a m c) n xs) : n ≤ c ∧ c ≤ maxLen := by
  obtain ⟨a', c', h1, h2, h3⟩ := row_slice h
  injection h1 with _ _ h1
  subst h1
  exact ⟨h2, h3⟩
/-- The address behind 's[1:]'. -/
def tailA (a : Addr) (c : Nat) : Option Addr := if c = 1 then some a else some ⟨a.block, a.off + 1, none⟩
theorem run_tail49 (a : Addr) (n c : Nat) (h1 : 1 ≤ n) (W : World) : (Instr.slice 49 (.slice (some a) n c) (some (.int .i64 1)) none none).run Tryd.prog W = .ok (.slice (tailA a c) (n - 1) (c - 1)) W := by
  have hu := Tryd.underlying49
  have hi := Tryd.sizeOf9
  simp [Instr.slice, Instr.sliceBounds, Instr.sliceBound, asIntOf, run_underlying hu, go_sem]
  rw [if_pos (by omega)]
  rfl
theorem Reads.tail {w : World} {B n c : Nat} {a : Addr} {x : Value} {xs : List Value} (h : Reads w B 1 (some a) (n + 1) (x :: xs)) (hc : n + 1 ≤ c) : Reads w B 1 (tailA a c) n xs := by
  have := h.cut (k := 1) (cap := c) (by omega) hc
  have e : (if c = 1 then some a else (some a).map (·.add (1 * 1))) = tailA a c := by
    unfold tailA
    split
    · rfl
    · show some (a.add 1) = _
      rw [add_pos _ 1 (by decide)]
  rw [e] at this
  simpa using this
/-- A word of a line: not empty, and no longer than the line. -/
theorem words_mem {l : List UInt8} {x : List UInt8} (h : x ∈ Tk.words l) : x ≠ [] ∧ x.length ≤ l.length := by
  suffices key : ∀ (l cur : List UInt8) (x : List UInt8), x ∈ Tk.wordsGo l cur → x ≠ [] ∧ x.length ≤ l.length + cur.length by
    unfold Tk.words at h
    have := key _ _ _ h
    refine ⟨this.1, ?_⟩
    have h2 := this.2
    split at h2
    · rw [List.length_drop, List.length_nil] at h2; omega
    · rw [List.length_nil] at h2; omega
  intro l
  induction l with
  | nil =>
    intro cur x h
    unfold Tk.wordsGo at h
    split at h
    · simp at h
    · rw [List.mem_singleton] at h; subst h; exact ⟨by assumption, by simp⟩
  | cons b l ih =>
    intro cur x h
    unfold Tk.wordsGo at h
    split at h
    · split at h
      · have := ih _ _ h; simp at this ⊢; exact ⟨this.1, by omega⟩
      · rcases List.mem_cons.1 h with rfl | h
        · exact ⟨by assumption, by simp⟩
        · have := ih _ _ h; simp at this ⊢; exact ⟨this.1, by omega⟩
    · have := ih _ _ h; simp at this ⊢; exact ⟨this.1, by omega⟩
theorem words_count (l : List UInt8) : (Tk.words l).length ≤ l.length := by
  suffices key : ∀ (l cur : List UInt8), (Tk.wordsGo l cur).length ≤ l.length + cur.length by
    unfold Tk.words
    have := key (if Tk.dotted l = true then List.drop 2 l else l) []
    have h2 : (if Tk.dotted l = true then List.drop 2 l else l).length ≤ l.length := by split <;> simp
    rw [List.length_nil] at this
    omega
  intro l
  induction l with
  | nil =>
    intro cur
    unfold Tk.wordsGo
    split
    · simp
    · have : 0 < cur.length := List.length_pos_iff.2 (by assumption)
      simp; omega
  | cons b l ih =>
    intro cur
    unfold Tk.wordsGo
    split
    · split
      · have := ih []; simp at this ⊢; omega
      · have := ih []
        have h2 : 0 < cur.length := List.length_pos_iff.2 (by assumption)
        simp at this ⊢; omega
    · have := ih (cur ++ [b]); simp at this ⊢; omega
theorem aheadT_bd {t t' : Tk.Table} {st n : Nat} {wd : List UInt8} {ns : List Int} (hb : Bd t n) (h : aheadT t st wd ns = some t') : Bd t' n := by
  unfold aheadT at h
  split at h
  · cases h
  split at h
  · injection h with h; subst h; exact hb
  split at h
  · split at h
    · injection h with h; subst h; exact hb
    · cases h
  · injection h with h; subst h; exact hb
theorem addOp_bd {ts : List Tk.Task} {o : Tk.Op} {n : Nat} (h1 : ts.length ≤ n) (h2 : ∀ x ∈ ts, x.ops.length ≤ n) : (Tk.addOp ts o).length ≤ n ∧ ∀ x ∈ Tk.addOp ts o, x.ops.length ≤ n + 1 := by
  rcases List.eq_nil_or_concat ts with rfl | ⟨l, y, rfl⟩
  · exact ⟨by simp [Tk.addOp], fun x hx => by simp [Tk.addOp] at hx⟩
  · rw [List.concat_eq_append] at h1 h2 ⊢
    rw [addOp_last]
    refine ⟨by simpa using h1, fun x hx => ?_⟩
    rcases List.mem_append.1 hx with hx | hx
    · have := h2 x (List.mem_append.2 (.inl hx)); omega
    · rw [List.mem_singleton] at hx
      subst hx
      have := h2 y (by simp)
      simp; omega
theorem line_bd {t t' : Tk.Table} {st st' n : Nat} {s : List UInt8} (hst : st ≤ 3) (hb : Bd t n) (h : Tk.line t st s = some (t', st')) : Bd t' (n + 1) ∧ st' ≤ 3 := by
  have up : ∀ {u : Tk.Table}, Bd u n → Bd u (n + 1) := fun hu => ⟨by have := hu.1; omega, fun x hx => by have := hu.2 x hx; omega⟩
  rcases hw : Tk.words s with _ | ⟨wd, ws⟩
  · rw [line_nil hw] at h
    split at h
    · cases h
    · injection h with h; injection h with h1 h2; subst h1 h2; exact ⟨up hb, hst⟩
  · rw [line_cons hst hw] at h
    split at h
    · injection h with h; injection h with h1 h2; subst h1 h2; exact ⟨up hb, hst⟩
    · split at h
      · cases h
      · unfold doT at h
        split at h
        · split at h
          · cases h
          · rw [Option.map_eq_some_iff] at h
            obtain ⟨u, h1, h2⟩ := h
            injection h2 with h2 h3
            subst h2 h3
            exact ⟨up (aheadT_bd hb h1), by omega⟩
        · split at h
          · rw [Option.map_eq_some_iff] at h
            obtain ⟨u, h1, h2⟩ := h
            injection h2 with h2 h3
            subst h2 h3
            refine ⟨?_, hst⟩
            unfold pushT at h1
            split at h1
            · injection h1 with h1
              subst h1
              refine ⟨by simp; exact hb.1, fun x hx => ?_⟩
              rcases List.mem_append.1 hx with hx | hx
              · have := hb.2 x hx; omega
              · rw [List.mem_singleton] at hx; subst hx; simp
            · cases h1
          · rw [Option.map_eq_some_iff] at h
            obtain ⟨u, h1, h2⟩ := h
            injection h2 with h2 h3
            subst h2 h3
            refine ⟨?_, hst⟩
            unfold opT at h1
            split at h1
            · cases h1
            · split at h1
              · injection h1 with h1
                subst h1
                exact ⟨Nat.le_succ_of_le (addOp_bd hb.1 hb.2).1, (addOp_bd hb.1 hb.2).2⟩
              · cases h1
section
variable {w : World} {p : Nat} {t : Tk.Table} {st : Nat}
set_option maxRecDepth 100000 in
set_option maxHeartbeats 8000000 in
theorem line_any (h : RMem w p t st) (hst : st ≤ 3) (s : ByteArray) (hs : s.size ≤ 1000000) (bd : Bd t 1000000) : Calls Tryd.prog 21 #[.pointer (some ⟨p, 0, none⟩), .string s] w (LinePost w p t st (bytesOf s)) := by
  have hp := h.lt
  have hcount := words_count (bytesOf s)
  have hmem : ∀ x, x ∈ Tk.words (bytesOf s) → x ≠ [] ∧ x.length ≤ (bytesOf s).length := fun x hx => words_mem hx
  have hbl := bytesOf_len s
  have HBD := Lib.hid bd
  have HR := Lib.hid h
  rcases hws : Tk.words (bytesOf s) with _ | ⟨wd, ws⟩
  · have LE := Lib.hid (line_nil (t := t) (st := st) hws)
    have HWS := Lib.hid hws
    clear hcount hmem hbl bd h hws
    go_enter Tryd.func21, Tryd.ntmps21
    go_wp2_with fail
    refine (words_any s w hs).mono ?_
    rintro e w1 ⟨v, rfl, own, b1⟩
    rw [HWS.out] at own
    obtain ⟨A, c, rfl, _, _⟩ := row_slice own
    generalize Tk.inner (bytesOf s) = ib at *
    rcases hd : Tk.dotted (bytesOf s) with _ | _
    · have E : Hid (Tk.line t st (bytesOf s) = some (t, st)) := by show _ = _; rw [LE.out, hd]; rfl
      clear hd
      go_wp2_with fail
      go_ret
      unfold LinePost
      rw [E.out]
      exact ⟨b1.mono (by omega), rfl, HR.out.below b1⟩
    · have E : Hid (Tk.line t st (bytesOf s) = none) := by show _ = _; rw [LE.out, hd]; rfl
      clear hd
      go_wp2_with fail
      go_ret
      unfold LinePost
      rw [E.out]
      exact ⟨b1.mono (by omega), rfl⟩
  · have LE := Lib.hid (line_cons (t := t) (s := bytesOf s) hst hws)
    rw [hws] at hcount
    simp at hcount
    have hwl : ws.length ≤ 1000000 := by omega
    have hx : ∀ x ∈ ws, x.length ≤ 1000000 := fun x hx => by have := (hmem x (by rw [hws]; exact List.mem_cons_of_mem _ hx)).2; omega
    have hwne : wd ≠ [] := (hmem wd (by rw [hws]; exact List.mem_cons_self)).1
    have HX := Lib.hid hx
    have HWS := Lib.hid hws
    obtain ⟨S, hS⟩ : ∃ S : ByteArray, S = ⟨wd.toArray⟩ := ⟨_, rfl⟩
    have hsz : 0 < S.size := by rw [hS, size_str]; exact List.length_pos_iff.2 hwne
    have hsz' : (0 : Int) < S.size := by omega
    obtain ⟨cc, hcc⟩ : ∃ cc, cc = S[0]'hsz := ⟨_, rfl⟩
    have hg0 : (S[0]'hsz).toNat = cc.toNat := by rw [hcc]
    have hhd : wd.head? = some cc := by
      rw [List.head?_eq_getElem?, List.getElem?_eq_getElem (List.length_pos_iff.2 hwne), hcc]
      subst hS
      rfl
    have HS := Lib.hid hS
    have HHD := Lib.hid hhd
    clear hx hmem bd h hws hbl hwne hcc hhd hS
    go_enter Tryd.func21, Tryd.ntmps21
    go_wp2_with fail
    refine (words_any s w hs).mono ?_
    rintro e w1 ⟨v, rfl, own, b1⟩
    rw [HWS.out] at own
    have own' := own
    obtain ⟨g, c, rfl, hgl, hgz⟩ := own.form (by simp)
    obtain ⟨hcc2, hcc3⟩ := row_cap own
    have hrd := Reads.of_own own
    obtain ⟨ad, eA, had, hc0⟩ := hrd.head
    injection eA with eA
    subst eA
    have hc0' : w1.cell? ⟨g, 0, none⟩ = some (.string S) := by rw [hc0, HS.out]; rfl
    have hr1 := HR.out.below b1
    have hz1 := b1.size
    have hn1 : 0 < (wd :: ws).length := by simp
    have hn2 : ((wd :: ws).length : Int) = ws.length + 1 := by simp
    have HN2 := Lib.hid hn2
    have HR1 := Lib.hid hr1
    have HRD := Lib.hid hrd
    obtain ⟨N, hN⟩ : ∃ N, N = (wd :: ws).length := ⟨_, rfl⟩
    rw [← hN] at hn1 hcc2
    have HN := Lib.hid hN
    obtain ⟨ib, eib⟩ : ∃ ib, Tk.inner (bytesOf s) = ib := ⟨_, rfl⟩
    obtain ⟨db, edb⟩ : ∃ db, Tk.dotted (bytesOf s) = db := ⟨_, rfl⟩
    rw [eib, edb, ← hN]
    rw [eib, edb] at LE
    clear eib edb hc0 own own' hrd hr1 hn2 hN
    have hn0 : (0 : Int) < N := by omega
    have hnz : ((N : Int) == 0) = false := by simp; omega
    have hnz' : ¬ (N : Int) = 0 := by omega
    by_cases h35 : cc.toNat = 35 ∧ db = false
    · obtain ⟨h35, rfl⟩ := h35
      have E : Hid (Tk.line t st (bytesOf s) = some (t, st)) := by
        show _ = _
        rw [LE.out, if_pos ⟨by rw [HHD.out]; congr 1; exact UInt8.toNat_inj.1 h35, rfl⟩]
      have e1 : ((cc.toNat : Int) == 35) = true := by rw [h35]; rfl
      clear h35
      go_wp2_with fail
      go_ret
      unfold LinePost
      rw [E.out]
      exact ⟨b1.mono (by omega), rfl, HR1.out⟩
    · have E : Hid (Tk.line t st (bytesOf s) = match Tk.nums ws with
          | none => none
          | some ns => doT t st ib wd ns) := by
        show _ = _
        rw [LE.out, if_neg]
        rintro ⟨q1, q2⟩
        rw [HHD.out] at q1
        injection q1 with q1
        exact h35 ⟨by rw [q1]; rfl, q2⟩
      have h36 : ((cc.toNat : Int) == 35) = false ∨ ((cc.toNat : Int) == 35) = true ∧ db = true := by
        by_cases q : cc.toNat = 35
        · right
          refine ⟨by rw [q]; rfl, ?_⟩
          rcases db with _ | _
          · exact absurd ⟨q, rfl⟩ h35
          · rfl
        · left
          simp
          omega
      clear h35 LE
      have hsl := run_tail49 ⟨g, 0, none⟩ N c (by omega)
      have htl : Hid (Reads w1 w1.heap.size 1 (tailA ⟨g, 0, none⟩ c) ws.length (ws.map strV)) := Reads.tail HRD.out (by have := HN.out; simp at this; omega)
      have HNL : Hid (N - 1 = ws.length) := by show _ = _; have := HN.out; simp at this; omega
      generalize tailA ⟨g, 0, none⟩ c = TA at *
      rcases h36 with e1 | ⟨e1, rfl⟩
      all_goals
        go_wp2_with fail
        rw [HNL.out]
        refine (numbers_any ws w1 TA (c - 1) htl.out hwl HX.out).mono ?_
        rintro e w2 ⟨b2, hnum⟩
        have hb2 := b1.trans (b2.mono hz1)
        have hz2 := b2.size
        rcases hns : Tk.nums ws with _ | ns
        · rw [hns] at hnum E
          have hnum' : e = .returned (.tuple #[.slice none 0 0, .bool false]) := hnum
          subst hnum'
          clear hns hnum hsl
          go_wp2_with fail
          go_ret
          unfold LinePost
          rw [E.out]
          exact ⟨hb2.mono (by omega), rfl⟩
        · rw [hns] at hnum E
          have hnum' : ∃ v, e = .returned (.tuple #[v, .bool true]) ∧ w2.ownsRow w1.heap.size 3 1 v ns.length (intV ns) := hnum
          obtain ⟨lv, rfl, own2⟩ := hnum'
          clear hns hnum hsl
          have hr2 := HR1.out.below b2
          have hrd2 : Reads w2 w2.heap.size 1 (some ⟨g, 0, none⟩) N ((wd :: ws).map strV) := by
            have h9 := (HRD.out.below b2 (Nat.le_refl _)).more hz2
            rw [← HN.out] at h9
            exact h9
          have own3 := row_mono (base' := p + 1) own2 (by omega)
          have HRD2 := Lib.hid hrd2
          have HR2 := Lib.hid hr2
          have OWN3 := Lib.hid own3
          obtain ⟨A2, c2, rfl, hA1, hA2⟩ := row_slice own2
          obtain ⟨V1, V2, V3, hw, ht⟩ := hr2
          have k4 := hw.cell 4
          simp at k4
          have hp2 : p < w2.heap.size := by omega
          clear hrd2 own3 own2 hw ht
          by_cases h3 : st < 3
          · rcases ib with _ | _
            · have h4 : st = 0 ∨ st = 1 ∨ st = 2 := by omega
              rcases h4 with rfl | rfl | rfl
              all_goals
                go_wp2_with fail
                first
                  | refine (ahead0_any HR2.out HRD2.out OWN3.out).mono ?_
                  | refine (ahead1_any HR2.out HRD2.out OWN3.out).mono ?_
                  | refine (ahead2_any HR2.out HRD2.out OWN3.out).mono ?_
                rintro e w3 ⟨b3, hm⟩
                have hb3 := (hb2.mono (Nat.le_of_lt hp)).trans b3
                generalize hat : aheadT t _ wd ns = at_ at hm
                rcases at_ with _ | t'
                · have hm' : e = .returned (.bool false) := hm
                  subst hm'
                  have E2 := Lib.hid (E.out.trans (show doT t _ false wd ns = none by unfold doT; rw [if_pos (by omega), if_neg (by decide), hat]; rfl))
                  clear hm hat
                  go_wp2_with fail
                  go_ret
                  unfold LinePost
                  rw [E2.out]
                  exact ⟨hb3, rfl⟩
                · have hm' : e = .returned (.bool true) ∧ RMem w3 p t' _ := hm
                  obtain ⟨rfl, hm2⟩ := hm'
                  have E2 := Lib.hid (E.out.trans (show doT t _ false wd ns = some (t', _) by unfold doT; rw [if_pos (by omega), if_neg (by decide), hat]; rfl))
                  clear hm hat
                  go_wp2_with fail
                  go_ret
                  unfold LinePost
                  rw [E2.out]
                  exact ⟨hb3, rfl, hm2⟩
            · have E2 := Lib.hid (E.out.trans (show doT t st true wd ns = none by unfold doT; rw [if_pos h3, if_pos rfl]))
              have h3' : (st : Int) < 3 := by omega
              clear h3
              go_wp2_with fail
              go_ret
              unfold LinePost
              rw [E2.out]
              exact ⟨hb2.mono (by omega), rfl⟩
          · obtain rfl : st = 3 := by omega
            clear h3
            rcases ib with _ | _
            · have hc2 := (b2.cell (p := ⟨g, 0, none⟩) hgz).trans hc0'
              have hSl : S.toList = wd := by rw [ByteArray.toList_eq, HS.out]
              have hgz2 : g < w2.heap.size := by omega
              by_cases hx : wd = [116, 97, 115, 107]
              · have e4 : (S.toList != [116, 97, 115, 107]) = false := by rw [hSl, hx]; rfl
                have e5 : S.toList = [116, 97, 115, 107] := by rw [hSl, hx]
                have e6 : (S.toList == [116, 97, 115, 107]) = true := by rw [hSl, hx]; rfl
                by_cases h1 : ns.length = 1
                · obtain ⟨x, rfl⟩ := List.length_eq_one_iff.1 h1
                  have E2 := Lib.hid (E.out.trans (show doT t 3 false wd [x] = some ({ t with tasks := t.tasks ++ [⟨x, []⟩] }, 3) by unfold doT pushT; rw [if_neg (by decide), if_pos rfl, if_pos ⟨hx, rfl⟩]; rfl))
                  clear hx hSl h1
                  obtain ⟨V1, V2, V3, hw, ht⟩ := HR2.out
                  obtain ⟨l, el, htk⟩ := ht.tasks
                  have hll : l.length ≤ 1000000 := by have := HBD.out.1; rw [← el, List.length_map] at this; exact this
                  have LM := Lib.hid el
                  have own3 := OWN3.out
                  obtain ⟨g3, cap3, eg3, hg0, hgl3⟩ := own3.form (by simp)
                  injection eg3 with eg3
                  subst eg3
                  have kg3 := own3.cellAt 0 (by simp)
                  simp [intV] at kg3
                  have hgz3 : g3 < w2.heap.size + 1 := by omega
                  have hgp : ¬ g3 = p := by omega
                  have hgp' : ¬ p = g3 := by omega
                  have k0 := hw.cell 0
                  have z0 := hw.frozen 0
                  simp at k0
                  have hop : V1.ownBlock ≠ some p := row_whole_ne htk.row hw (by decide)
                  have ho3 : V1.ownBlock ≠ some g3 := fun e => row_kind htk.row own3 (by decide) g3 e rfl
                  obtain ⟨i0, hi, hz0, hzz1, hzz2⟩ := info_parts info32
                  clear el own3
                  go_wp2_with fail
                  refine wp_region_held_drew (S := fun w' => w'.cell? ⟨g3, 0, none⟩ = some (.int .i64 x)) (by kernel_rfl) ?_ (fun hHeld => ?_)
                  · (try dsimp only)
                    go_keep
                  refine wpAnyH_take (i := 0) (v := ?_) rfl (by kernel_rfl) (by kernel_rfl) (by kernel_rfl) (fun _ _ _ h => h) (Or.inl ⟨by rfl, ?_⟩) (by assumption) ?_
                  rotate_left
                  · intro w hSw
                    (try dsimp only at hSw)
                    go_simp
                    with_reducible rfl
                  try simp only [Act.put, List.setIfInBounds_toArray]
                  refine wpAnyH_take (i := 1) (v := ?_) rfl (by kernel_rfl) (by kernel_rfl) (by kernel_rfl) (fun _ _ _ h => h) (Or.inl ⟨by rfl, ?_⟩) (by assumption) ?_
                  rotate_left
                  · intro w hSw
                    (try dsimp only at hSw)
                    go_simp
                    with_reducible rfl
                  try simp only [Act.put]
                  refine wpAnyH_take (i := 2) (v := ?_) rfl (by kernel_rfl) (by kernel_rfl) (by kernel_rfl) (fun _ _ _ h => h) (Or.inl ⟨by rfl, ?_⟩) (by assumption) ?_
                  rotate_left
                  · intro w hSw
                    (try dsimp only at hSw)
                    go_simp
                    with_reducible rfl
                  try simp only [Act.put]
                  refine wpAnyH_take (i := 3) (v := ?_) rfl (by kernel_rfl) (by kernel_rfl) (by kernel_rfl) (fun _ _ _ h => h) (Or.inl ⟨by rfl, ?_⟩) (by assumption) ?_
                  rotate_left
                  · intro w hSw
                    (try dsimp only at hSw)
                    go_simp
                    with_reducible rfl
                  try simp only [Act.put]
                  refine wpAnyH_take (i := 4) (v := ?_) rfl (by kernel_rfl) (by kernel_rfl) (by kernel_rfl) (fun _ _ _ h => h) (Or.inl ⟨by rfl, ?_⟩) (by assumption) ?_
                  rotate_left
                  · intro w hSw
                    (try dsimp only at hSw)
                    go_simp
                    with_reducible rfl
                  try simp only [Act.put]
                  refine wpAnyH_take (i := 6) (v := ?_) rfl (by kernel_rfl) (by kernel_rfl) (by kernel_rfl) (fun _ _ _ h => h) (Or.inl ⟨by rfl, ?_⟩) (by assumption) ?_
                  rotate_left
                  · intro w hSw
                    (try dsimp only at hSw)
                    go_simp
                    with_reducible rfl
                  try simp only [Act.put]
                  refine wpAnyH_take (i := 7) (v := ?_) rfl (by kernel_rfl) (by kernel_rfl) (by kernel_rfl) (fun _ _ _ h => h) (Or.inl ⟨by rfl, ?_⟩) (by assumption) ?_
                  rotate_left
                  · intro w hSw
                    (try dsimp only at hSw)
                    go_simp
                    with_reducible rfl
                  try simp only [Act.put]
                  refine wpAnyH_take (i := 8) (v := ?_) rfl (by kernel_rfl) (by kernel_rfl) (by kernel_rfl) (fun _ _ _ h => h) (Or.inl ⟨by rfl, ?_⟩) (by assumption) ?_
                  rotate_left
                  · intro w hSw
                    (try dsimp only at hSw)
                    go_simp
                    with_reducible rfl
                  try simp only [Act.put]
                  refine wpAnyH_take (i := 9) (v := ?_) rfl (by kernel_rfl) (by kernel_rfl) (by kernel_rfl) (fun _ _ _ h => h) (Or.inl ⟨by rfl, ?_⟩) (by assumption) ?_
                  rotate_left
                  · intro w hSw
                    (try dsimp only at hSw)
                    go_simp
                    with_reducible rfl
                  try simp only [Act.put]
                  refine wpAnyH_ready (rs := [5, 10]) (by kernel_rfl) (by simp) ?_
                  refine AllReadyH.cons rfl (fun K hK => ?_) ?_
                  · go_simp
                    refine hK.out _ _ ?_ (fun hHeld => ?_)
                    · (try dsimp only)
                      go_keep
                    clear hK K
                    try simp only [Act.put, List.setIfInBounds_toArray, List.set_cons_zero, List.set_cons_succ]
                    refine wpAnyH_ready (rs := [10]) (by kernel_rfl) (by simp) ?_
                    refine AllReadyH.cons rfl (fun K hK => ?_) ?_
                    · go_simp
                      refine hK.out _ _ ?_ (fun hHeld => ?_)
                      · (try dsimp only)
                        go_keep
                      clear hK K
                      try simp only [Act.put, List.setIfInBounds_toArray, List.set_cons_zero, List.set_cons_succ]
                      refine wpAnyH_ready (rs := [11]) (by kernel_rfl) (by simp) ?_
                      refine AllReadyH.cons rfl (fun K hK => ?_) ?_
                      · (refine step_append_lies _ (by rfl) _ _ _ (by rfl) (p + 1) 32 i0 _ 2 32 Tryd.underlying23 hi hz0 hzz1 hzz2 rfl (by omega) V1 l.length (l.flatMap taskC) (by rfl) ((htk.row.alloc _).drew) ⟨w2.heap.size, 0, none⟩ 1 1 [.int .i64 x, .slice none 0 0] (by rfl) (by rfl) (World.news_of_block (cs := #[.int .i64 x, .slice none 0 0]) (t := 32) (fr := (0, 0)) (heap_alloc_new _ _)) (by simp [Value.oneCell']) (by omega) (by unfold maxLen; omega) (by omega) (by simp; omega) (w2.heap.size + 1) (by simp) ?_; intro gg cap w5 hown1 hgrow hat hlt1; have yw := Whole.grown (hw.alloc _).drew hgrow hop; have y1 := yw.cell 0; have y2 := yw.frozen 0; have y3 := (hgrow.cell_far (a := ⟨g3, 0, none⟩) (by simp; omega) (fun e => ho3 e.symm)).trans ((World.cell?_alloc_lt w2 (.cells #[.int .i64 x, .slice none 0 0] 32) ⟨g3, 0, none⟩ hgl3).trans kg3); simp at y1)
                        refine hK.out _ _ ?_ (fun hHeld => ?_)
                        · (try dsimp only)
                          go_keep
                        clear hK K
                        try simp only [Act.put, List.setIfInBounds_toArray]
                        refine wpAnyH_take (i := 12) (v := ?_) rfl (by kernel_rfl) (by kernel_rfl) (by kernel_rfl) (fun _ _ _ h => h) (Or.inl ⟨by rfl, ?_⟩) (by assumption) ?_
                        rotate_left
                        · intro w hSw
                          (try dsimp only at hSw)
                          go_simp
                          with_reducible rfl
                        try simp only [Act.put]
                        refine wpAnyH_take (i := 13) (v := ?_) rfl (by kernel_rfl) (by kernel_rfl) (by kernel_rfl) (fun _ _ _ h => h) (Or.inl ⟨by rfl, ?_⟩) (by assumption) ?_
                        rotate_left
                        · intro w hSw
                          (try dsimp only at hSw)
                          go_simp
                          with_reducible rfl
                        try simp only [Act.put]
                        refine wpAnyH_take (i := 14) (v := ?_) rfl (by kernel_rfl) (by kernel_rfl) (by kernel_rfl) (fun _ _ _ h => h) (Or.inl ⟨by rfl, ?_⟩) (by assumption) ?_
                        rotate_left
                        · intro w hSw
                          (try dsimp only at hSw)
                          go_simp
                          with_reducible rfl
                        try simp only [Act.put]
                        refine wpAnyH_ready (rs := [15]) (by kernel_rfl) (by simp) ?_
                        refine AllReadyH.cons rfl (fun K hK => ?_) ?_
                        · go_simp
                          refine hK.out _ _ ?_ (fun hHeld => ?_)
                          · (try dsimp only)
                            go_keep
                          clear hK K
                          try simp only [Act.put, List.setIfInBounds_toArray, List.set_cons_zero, List.set_cons_succ]
                          refine wpAnyH_done (by kernel_rfl) ?_ _
                          go_wp2_with fail
                          go_ret
                          unfold LinePost
                          rw [E2.out]
                          have hs5 : ∀ k', k' < w2.heap.size → ((w2.alloc (.cells #[.int .i64 x, .slice none 0 0] 32)).drew).heap[k']? = w2.heap[k']? := fun k' hk' => Below.heap_alloc w2 _ k' hk'
                          have hz5 : w2.heap.size ≤ ((w2.alloc (.cells #[.int .i64 x, .slice none 0 0] 32)).drew).heap.size := by simp
                          have hro := htk.row
                          refine ⟨((((hb2.mono (Nat.le_of_lt hp)).alloc (by omega) _).drew).grown hgrow (by simp; omega) (fun k' hk' => by have := (hro.lt k' hk').1; omega)).setCell (Nat.le_refl _) _, rfl, _, V2, V3, (Whole.grown (hw.alloc _).drew hgrow hop).put 0 _, ?_⟩
                          have htab : Tab w5 (p + 1) (.slice (some ⟨gg, 0, none⟩) (l.length + 1) cap) V2 V3 { t with tasks := t.tasks ++ [⟨x, []⟩] } := by
                            refine ⟨⟨l ++ [(⟨x, []⟩, .slice none 0 0)], by simp [LM.out], ?_⟩, ?_, ?_⟩
                            · exact htk.push hown1 hgrow hs5 hz5
                            · exact row_grown ht.sems hgrow hs5 hz5 (fun k' hk' e => row_kind ht.sems hro (by decide) k' hk' e)
                            · exact row_grown ht.queues hgrow hs5 hz5 (fun k' hk' e => row_kind ht.queues hro (by decide) k' hk' e)
                          exact htab.far (by show p < p + 1; omega) _
                        exact AllReadyH.nil
                      exact AllReadyH.nil
                    exact AllReadyH.nil
                  refine AllReadyH.cons rfl (fun K hK => ?_) ?_
                  · go_simp
                    refine hK.out _ _ ?_ (fun hHeld => ?_)
                    · (try dsimp only)
                      go_keep
                    clear hK K
                    try simp only [Act.put, List.setIfInBounds_toArray, List.set_cons_zero, List.set_cons_succ]
                    refine wpAnyH_ready (rs := [5]) (by kernel_rfl) (by simp) ?_
                    refine AllReadyH.cons rfl (fun K hK => ?_) ?_
                    · go_simp
                      refine hK.out _ _ ?_ (fun hHeld => ?_)
                      · (try dsimp only)
                        go_keep
                      clear hK K
                      try simp only [Act.put, List.setIfInBounds_toArray, List.set_cons_zero, List.set_cons_succ]
                      refine wpAnyH_ready (rs := [11]) (by kernel_rfl) (by simp) ?_
                      refine AllReadyH.cons rfl (fun K hK => ?_) ?_
                      · (refine step_append_lies _ (by rfl) _ _ _ (by rfl) (p + 1) 32 i0 _ 2 32 Tryd.underlying23 hi hz0 hzz1 hzz2 rfl (by omega) V1 l.length (l.flatMap taskC) (by rfl) ((htk.row.alloc _).drew) ⟨w2.heap.size, 0, none⟩ 1 1 [.int .i64 x, .slice none 0 0] (by rfl) (by rfl) (World.news_of_block (cs := #[.int .i64 x, .slice none 0 0]) (t := 32) (fr := (0, 0)) (heap_alloc_new _ _)) (by simp [Value.oneCell']) (by omega) (by unfold maxLen; omega) (by omega) (by simp; omega) (w2.heap.size + 1) (by simp) ?_; intro gg cap w5 hown1 hgrow hat hlt1; have yw := Whole.grown (hw.alloc _).drew hgrow hop; have y1 := yw.cell 0; have y2 := yw.frozen 0; have y3 := (hgrow.cell_far (a := ⟨g3, 0, none⟩) (by simp; omega) (fun e => ho3 e.symm)).trans ((World.cell?_alloc_lt w2 (.cells #[.int .i64 x, .slice none 0 0] 32) ⟨g3, 0, none⟩ hgl3).trans kg3); simp at y1)
                        refine hK.out _ _ ?_ (fun hHeld => ?_)
                        · (try dsimp only)
                          go_keep
                        clear hK K
                        try simp only [Act.put, List.setIfInBounds_toArray]
                        refine wpAnyH_take (i := 12) (v := ?_) rfl (by kernel_rfl) (by kernel_rfl) (by kernel_rfl) (fun _ _ _ h => h) (Or.inl ⟨by rfl, ?_⟩) (by assumption) ?_
                        rotate_left
                        · intro w hSw
                          (try dsimp only at hSw)
                          go_simp
                          with_reducible rfl
                        try simp only [Act.put]
                        refine wpAnyH_take (i := 13) (v := ?_) rfl (by kernel_rfl) (by kernel_rfl) (by kernel_rfl) (fun _ _ _ h => h) (Or.inl ⟨by rfl, ?_⟩) (by assumption) ?_
                        rotate_left
                        · intro w hSw
                          (try dsimp only at hSw)
                          go_simp
                          with_reducible rfl
                        try simp only [Act.put]
                        refine wpAnyH_take (i := 14) (v := ?_) rfl (by kernel_rfl) (by kernel_rfl) (by kernel_rfl) (fun _ _ _ h => h) (Or.inl ⟨by rfl, ?_⟩) (by assumption) ?_
                        rotate_left
                        · intro w hSw
                          (try dsimp only at hSw)
                          go_simp
                          with_reducible rfl
                        try simp only [Act.put]
                        refine wpAnyH_ready (rs := [15]) (by kernel_rfl) (by simp) ?_
                        refine AllReadyH.cons rfl (fun K hK => ?_) ?_
                        · go_simp
                          refine hK.out _ _ ?_ (fun hHeld => ?_)
                          · (try dsimp only)
                            go_keep
                          clear hK K
                          try simp only [Act.put, List.setIfInBounds_toArray, List.set_cons_zero, List.set_cons_succ]
                          refine wpAnyH_done (by kernel_rfl) ?_ _
                          go_wp2_with fail
                          go_ret
                          unfold LinePost
                          rw [E2.out]
                          have hs5 : ∀ k', k' < w2.heap.size → ((w2.alloc (.cells #[.int .i64 x, .slice none 0 0] 32)).drew).heap[k']? = w2.heap[k']? := fun k' hk' => Below.heap_alloc w2 _ k' hk'
                          have hz5 : w2.heap.size ≤ ((w2.alloc (.cells #[.int .i64 x, .slice none 0 0] 32)).drew).heap.size := by simp
                          have hro := htk.row
                          refine ⟨((((hb2.mono (Nat.le_of_lt hp)).alloc (by omega) _).drew).grown hgrow (by simp; omega) (fun k' hk' => by have := (hro.lt k' hk').1; omega)).setCell (Nat.le_refl _) _, rfl, _, V2, V3, (Whole.grown (hw.alloc _).drew hgrow hop).put 0 _, ?_⟩
                          have htab : Tab w5 (p + 1) (.slice (some ⟨gg, 0, none⟩) (l.length + 1) cap) V2 V3 { t with tasks := t.tasks ++ [⟨x, []⟩] } := by
                            refine ⟨⟨l ++ [(⟨x, []⟩, .slice none 0 0)], by simp [LM.out], ?_⟩, ?_, ?_⟩
                            · exact htk.push hown1 hgrow hs5 hz5
                            · exact row_grown ht.sems hgrow hs5 hz5 (fun k' hk' e => row_kind ht.sems hro (by decide) k' hk' e)
                            · exact row_grown ht.queues hgrow hs5 hz5 (fun k' hk' e => row_kind ht.queues hro (by decide) k' hk' e)
                          exact htab.far (by show p < p + 1; omega) _
                        exact AllReadyH.nil
                      exact AllReadyH.nil
                    exact AllReadyH.nil
                  exact AllReadyH.nil
                · have h1' : ((ns.length : Int) != 1) = true := by simp; omega
                  have h2' : ((ns.length : Int) == 1) = false := by simp; omega
                  have h3' : ¬ (ns.length : Int) = 1 := by omega
                  have E2 := Lib.hid (E.out.trans (show doT t 3 false wd ns = none by unfold doT pushT; rw [if_neg (by decide), if_pos rfl, if_neg (fun h => h1 h.2)]; rfl))
                  clear hx hSl h1
                  go_wp2_with fail
                  go_ret
                  unfold LinePost
                  rw [E2.out]
                  exact ⟨hb2.mono (by omega), rfl⟩
              · have e4 : (S.toList != [116, 97, 115, 107]) = true := by rw [hSl]; exact bne_iff_ne.2 hx
                have e5 : ¬ S.toList = [116, 97, 115, 107] := by rw [hSl]; exact hx
                have e6 : (S.toList == [116, 97, 115, 107]) = false := by rw [hSl]; exact beq_eq_false_iff_ne.2 hx
                have E2 := Lib.hid (E.out.trans (show doT t 3 false wd ns = none by unfold doT pushT; rw [if_neg (by decide), if_pos rfl, if_neg (fun h => hx h.1)]; rfl))
                clear hx hSl
                go_wp2_with fail
                go_ret
                unfold LinePost
                rw [E2.out]
                exact ⟨hb2.mono (by omega), rfl⟩
            · go_wp2_with fail
              have hop : Calls Tryd.prog 41 #[.pointer (some ⟨p, 0, none⟩), .slice (some ⟨g, 0, none⟩) N c, .slice A2 ns.length c2] w2 (OpPost w2 p t 3 wd ns) := by
                by_cases hte : t.tasks = []
                · exact op_none HR2.out hte
                · exact op_some HR2.out hte HRD2.out OWN3.out HBD.out.1 HBD.out.2
              refine hop.mono ?_
              rintro e w3 ⟨b3, hm⟩
              have hb3 := (hb2.mono (Nat.le_of_lt hp)).trans b3
              generalize hat : opT t wd ns = at_ at hm
              rcases at_ with _ | t'
              · have hm' : e = .returned (.bool false) := hm
                subst hm'
                have E2 := Lib.hid (E.out.trans (show doT t 3 true wd ns = none by unfold doT; rw [if_neg (by decide), if_neg (by decide), hat]; rfl))
                clear hm hat hop
                go_wp2_with fail
                go_ret
                unfold LinePost
                rw [E2.out]
                exact ⟨hb3, rfl⟩
              · have hm' : e = .returned (.bool true) ∧ RMem w3 p t' 3 := hm
                obtain ⟨rfl, hm2⟩ := hm'
                have E2 := Lib.hid (E.out.trans (show doT t 3 true wd ns = some (t', 3) by unfold doT; rw [if_neg (by decide), if_neg (by decide), hat]; rfl))
                clear hm hat hop
                go_wp2_with fail
                go_ret
                unfold LinePost
                rw [E2.out]
                exact ⟨hb3, rfl, hm2⟩
end
end Go.Proofs.YtadcfedjmofjjaaDoor
