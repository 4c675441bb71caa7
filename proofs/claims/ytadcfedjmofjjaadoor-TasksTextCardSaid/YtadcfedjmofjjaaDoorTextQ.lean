/-
  A table's text is read again. No program is named here.
-/
import Derived.Test.YtadcfedjmofjjaaDoorTextP
namespace Go.Proofs.YtadcfedjmofjjaaDoor
namespace Tk
/-- The numbers of a table are small enough to be read again, and its operations have names. -/
structure Reads (t : Table) : Prop where
  sems : ∀ n ∈ t.sems, -1 ≤ n ∧ n ≤ 9999
  mutexes : -1 ≤ t.mutexes ∧ t.mutexes ≤ 9999
  queues : ∀ n ∈ t.queues, -1 ≤ n ∧ n ≤ 9999
  prio : ∀ x ∈ t.tasks, -1 ≤ x.prio ∧ x.prio ≤ 9999
  ops : ∀ x ∈ t.tasks, ∀ o ∈ x.ops, ∃ k : Nat, o.kind = k ∧ k < 15 ∧ -1 ≤ o.a ∧ o.a ≤ 9999 ∧ -1 ≤ o.b ∧ o.b ≤ 9999 ∧ ((names.getD k ([], 0)).2 ≤ 1 → o.b = 0) ∧ ((names.getD k ([], 0)).2 = 0 → o.a = 0)
theorem fits_op {o : Op} {i : Int} (h : o.fits i = true) (hi : i ≤ 9999) : ∃ k : Nat, o.kind = k ∧ k < 15 ∧ -1 ≤ o.a ∧ o.a ≤ 9999 ∧ -1 ≤ o.b ∧ o.b ≤ 9999 ∧ ((names.getD k ([], 0)).2 ≤ 1 → o.b = 0) ∧ ((names.getD k ([], 0)).2 = 0 → o.a = 0) := by
  unfold Op.fits at h
  rcases hb : bounds o.kind i with _ | ⟨a, l, b⟩
  · rw [hb] at h; cases h
  rw [hb] at h
  have h := of_decide_eq_true h
  have hk : ∃ k : Nat, o.kind = k ∧ k < 15 := by
    have : 0 ≤ o.kind ∧ o.kind < 15 := by
      unfold bounds at hb
      by_cases q : 0 ≤ o.kind ∧ o.kind < 15
      · exact q
      · rw [if_neg (by omega), if_neg (by omega), if_neg (by omega), if_neg (by omega), if_neg (by omega), if_neg (by omega), if_neg (by omega), if_neg (by omega)] at hb
        cases hb
    exact ⟨o.kind.toNat, by omega, by omega⟩
  obtain ⟨k, ek, hk⟩ := hk
  refine ⟨k, ek, hk, ?_⟩
  rw [ek] at hb
  have cases15 : k = 0 ∨ k = 1 ∨ k = 2 ∨ k = 3 ∨ k = 4 ∨ k = 5 ∨ k = 6 ∨ k = 7 ∨ k = 8 ∨ k = 9 ∨ k = 10 ∨ k = 11 ∨ k = 12 ∨ k = 13 ∨ k = 14 := by omega
  rcases cases15 with rfl | rfl | rfl | rfl | rfl | rfl | rfl | rfl | rfl | rfl | rfl | rfl | rfl | rfl | rfl <;>
  · simp [bounds] at hb
    obtain ⟨rfl, rfl, rfl⟩ := hb
    refine ⟨by omega, by omega, by omega, by omega, fun q => ?_, fun q => ?_⟩ <;> first | omega | exact absurd q (by decide)
theorem opsFit_mem {l : List Op} : ∀ {i : Int}, opsFit l i = true → i + l.length ≤ 9999 → ∀ o ∈ l, ∃ j : Int, j ≤ 9999 ∧ o.fits j = true := by
  induction l with
  | nil => intro i _ _ o ho; cases ho
  | cons x l ih =>
    intro i h hi o ho
    unfold opsFit at h
    rw [Bool.and_eq_true] at h
    rw [List.length_cons] at hi
    rcases List.mem_cons.1 ho with rfl | ho
    · exact ⟨i, by omega, h.1⟩
    · exact ih h.2 (by omega) o ho
theorem fits_reads {t : Table} (h : t.fits = true) : Reads t := by
  unfold Table.fits at h
  rw [Bool.and_eq_true, Bool.and_eq_true, Bool.and_eq_true] at h
  obtain ⟨⟨⟨h1, h2⟩, h3⟩, h4⟩ := h
  have h1 := of_decide_eq_true h1
  have key : ∀ x ∈ t.tasks, (0 ≤ x.prio ∧ x.prio ≤ 31 ∧ x.ops.length ≤ 100) ∧ opsFit x.ops 0 = true := by
    intro x hx
    have := List.all_eq_true.1 h4 x hx
    unfold Task.fits at this
    rw [Bool.and_eq_true] at this
    exact ⟨of_decide_eq_true this.1, this.2⟩
  refine ⟨fun n hn => ?_, by omega, fun n hn => ?_, fun x hx => ?_, fun x hx o ho => ?_⟩
  · have := of_decide_eq_true (List.all_eq_true.1 h2 n hn)
    omega
  · have := of_decide_eq_true (List.all_eq_true.1 h3 n hn)
    omega
  · have := (key x hx).1
    omega
  · obtain ⟨j, hj, hf⟩ := opsFit_mem (key x hx).2 (by have := (key x hx).1; omega) o ho
    exact fits_op hf hj
theorem name_facts : ∀ k, k < 15 → (∀ b ∈ (names.getD k ([], 0)).1, b ≠ 32 ∧ b ≠ 10 ∧ b ≠ 35) ∧ (names.getD k ([], 0)).1 ≠ [] ∧ kindOf (names.getD k ([], 0)).1 (names.getD k ([], 0)).2 = some k ∧ (names.getD k ([], 0)).2 ≤ 2 := by decide
/-- What a line of a text is. -/
structure Good (l : List UInt8) : Prop where
  ten : ∀ b ∈ l, b ≠ 10
  dot : dotted l = false
  words : ∃ w ws, words l = w :: ws ∧ w.head? ≠ some 35
theorem head_line (w : List UInt8) (l : List Int) (hw : ∀ b ∈ w, b ≠ 32 ∧ b ≠ 10 ∧ b ≠ 35) (hn : w ≠ []) (hd : dotted (w ++ numbers l) = false) : Good (w ++ numbers l) ∧ Tk.words (w ++ numbers l) = w :: l.map numStr := by
  have e := words_of w l (fun b hb => (hw b hb).1) hn hd
  refine ⟨⟨?_, hd, ⟨w, _, e, ?_⟩⟩, e⟩
  · intro b hb
    rcases List.mem_append.1 hb with hb | hb
    · exact (hw b hb).2.1
    · exact numbers_ten l b hb
  · rcases w with _ | ⟨a, w⟩
    · exact absurd rfl hn
    · intro h
      injection h with h
      exact (hw a (.head _)).2.2 h
theorem in_line (w : List UInt8) (l : List Int) (hw : ∀ b ∈ w, b ≠ 32 ∧ b ≠ 10 ∧ b ≠ 35) (hn : w ≠ []) : Good (32 :: (w ++ numbers l)) ∧ inner (32 :: (w ++ numbers l)) = true ∧ Tk.words (32 :: (w ++ numbers l)) = w :: l.map numStr := by
  obtain ⟨hd, hi, e⟩ := words_in w l (fun b hb => (hw b hb).1) hn
  refine ⟨⟨?_, hd, ⟨w, _, e, ?_⟩⟩, hi, e⟩
  · intro b hb
    rcases List.mem_cons.1 hb with rfl | hb
    · decide
    rcases List.mem_append.1 hb with hb | hb
    · exact (hw b hb).2.1
    · exact numbers_ten l b hb
  · rcases w with _ | ⟨a, w⟩
    · exact absurd rfl hn
    · intro h
      injection h with h
      exact (hw a (.head _)).2.2 h
theorem line_of {t : Table} {h : Nat} {l w : List UInt8} {ws : List (List UInt8)} {ns : List Int} (hg : Good l) (hw : words l = w :: ws) (hn : nums ws = some ns) :
    line t h l = if h < 3 then
          if inner l = true ∨ some w ≠ heads[h]? then Option.none
          else if h = 0 then some ({ t with sems := ns }, 1)
          else if h = 1 then (if ns.length = 1 then some ({ t with mutexes := ns.headD 0 }, 2) else Option.none)
          else some ({ t with queues := ns }, 3)
        else if inner l = false then
          if w = [116, 97, 115, 107] ∧ ns.length = 1 then some ({ t with tasks := t.tasks ++ [⟨ns.headD 0, []⟩] }, h) else Option.none
        else if t.tasks = [] then Option.none
        else match kindOf w ns.length with
          | some k => some ({ t with tasks := addOp t.tasks ⟨k, ns.getD 0 0, ns.getD 1 0⟩ }, h)
          | Option.none => Option.none := by
  obtain ⟨w', ws', e, hh⟩ := hg.words
  rw [hw] at e
  injection e with e1 e2
  subst e1
  unfold line
  rw [hw]
  show (if w.head? = some 35 ∧ dotted l = false then _ else _) = _
  rw [if_neg fun q => hh q.1, hn]
  rfl
theorem opLine_law {o : Op} {k : Nat} (e : o.kind = k) (hk : k < 15) (h1 : -1 ≤ o.a ∧ o.a ≤ 9999 ∧ -1 ≤ o.b ∧ o.b ≤ 9999) (hb : (names.getD k ([], 0)).2 ≤ 1 → o.b = 0) (ha : (names.getD k ([], 0)).2 = 0 → o.a = 0) :
    Good (opLine o) ∧ ∀ (t : Table) (ts : List Task) (x : Task), t.tasks = ts ++ [x] → line t 3 (opLine o) = some ({ t with tasks := ts ++ [{ x with ops := x.ops ++ [o] }] }, 3) := by
  obtain ⟨hw, hn, hkind, hargs⟩ := name_facts k hk
  have eo : opLine o = 32 :: ((names.getD k ([], 0)).1 ++ numbers (opArgs o)) := by
    unfold opLine
    rw [e]
    rfl
  obtain ⟨hg, hi, hws⟩ := in_line _ (opArgs o) hw hn
  rw [← eo] at hg hi hws
  have hl : (opArgs o).length = (names.getD k ([], 0)).2 := by
    unfold opArgs
    rw [e, List.length_take]
    show min (names.getD k ([], 0)).2 2 = _
    omega
  have hnums : nums ((opArgs o).map numStr) = some (opArgs o) := by
    apply nums_numStr
    intro n hn
    have := List.mem_of_mem_take hn
    simp at this
    omega
  refine ⟨hg, fun t ts x ht => ?_⟩
  rw [line_of hg hws hnums, if_neg (by decide), if_neg (by rw [hi]; decide), if_neg (by rw [ht]; simp), hl, hkind]
  have hao : (⟨(k : Int), (opArgs o).getD 0 0, (opArgs o).getD 1 0⟩ : Op) = o := by
    have : (names.getD k ([], 0)).2 = 0 ∨ (names.getD k ([], 0)).2 = 1 ∨ (names.getD k ([], 0)).2 = 2 := by omega
    unfold opArgs
    rw [e]
    show (⟨(k : Int), (([o.a, o.b] : List Int).take (names.getD k ([], 0)).2).getD 0 0, (([o.a, o.b] : List Int).take (names.getD k ([], 0)).2).getD 1 0⟩ : Op) = o
    obtain ⟨kind, a, b⟩ := o
    simp only at e ha hb ⊢
    rcases this with q | q | q <;> rw [q]
    · rw [ha q, hb (by omega), e]
      rfl
    · rw [hb (by omega), e]
      rfl
    · rw [e]
      rfl
  show some ({ t with tasks := addOp t.tasks _ }, 3) = _
  rw [hao, ht]
  unfold addOp
  rw [List.dropLast_concat, List.getLast?_concat]
theorem ops_run (ops : List Op) : (∀ o ∈ ops, ∃ k : Nat, o.kind = k ∧ k < 15 ∧ -1 ≤ o.a ∧ o.a ≤ 9999 ∧ -1 ≤ o.b ∧ o.b ≤ 9999 ∧ ((names.getD k ([], 0)).2 ≤ 1 → o.b = 0) ∧ ((names.getD k ([], 0)).2 = 0 → o.a = 0)) →
    ∀ i (t : Table) ts x, t.tasks = ts ++ [x] → linesRun (ops.map opLine) i t 3 = .inl ({ t with tasks := ts ++ [{ x with ops := x.ops ++ ops }] }, 3) := by
  induction ops with
  | nil =>
    intro _ i t ts x ht
    show Sum.inl (t, 3) = _
    rw [List.append_nil, ← ht]
  | cons o ops ih =>
    intro h i t ts x ht
    obtain ⟨k, e, hk, a1, a2, b1, b2, hb, ha⟩ := h o (.head _)
    rw [List.map_cons, linesRun, (opLine_law e hk ⟨a1, a2, b1, b2⟩ hb ha).2 t ts x ht]
    show linesRun (ops.map opLine) (i + 1) { t with tasks := ts ++ [{ x with ops := x.ops ++ [o] }] } 3 = _
    rw [ih (fun o' ho => h o' (.tail _ ho)) (i + 1) _ ts { x with ops := x.ops ++ [o] } rfl]
    simp
theorem task_word : ∀ b ∈ ([116, 97, 115, 107] : List UInt8), b ≠ 32 ∧ b ≠ 10 ∧ b ≠ 35 := by decide
theorem taskHead_law (x : Task) (hp : -1 ≤ x.prio ∧ x.prio ≤ 9999) : Good ([116, 97, 115, 107] ++ numbers [x.prio]) ∧ ∀ t : Table, line t 3 ([116, 97, 115, 107] ++ numbers [x.prio]) = some ({ t with tasks := t.tasks ++ [⟨x.prio, []⟩] }, 3) := by
  obtain ⟨hg, hws⟩ := head_line [116, 97, 115, 107] [x.prio] task_word (by decide) rfl
  refine ⟨hg, fun t => ?_⟩
  rw [line_of hg hws (nums_numStr _ (by simpa using hp)), if_neg (by decide), if_pos (show inner ([116, 97, 115, 107] ++ numbers [x.prio]) = false from rfl), if_pos (show ([116, 97, 115, 107] : List UInt8) = [116, 97, 115, 107] ∧ [x.prio].length = 1 from ⟨rfl, rfl⟩)]
  rfl
theorem tasks_run (l : List Task) : (∀ x ∈ l, -1 ≤ x.prio ∧ x.prio ≤ 9999) → (∀ x ∈ l, ∀ o ∈ x.ops, ∃ k : Nat, o.kind = k ∧ k < 15 ∧ -1 ≤ o.a ∧ o.a ≤ 9999 ∧ -1 ≤ o.b ∧ o.b ≤ 9999 ∧ ((names.getD k ([], 0)).2 ≤ 1 → o.b = 0) ∧ ((names.getD k ([], 0)).2 = 0 → o.a = 0)) →
    ∀ i (t : Table), linesRun (l.flatMap taskLines) i t 3 = .inl ({ t with tasks := t.tasks ++ l }, 3) := by
  induction l with
  | nil => intro _ _ i t; show Sum.inl (t, 3) = _; rw [List.append_nil]
  | cons x l ih =>
    intro hp ho i t
    have e1 : linesRun (taskLines x) i t 3 = .inl ({ t with tasks := t.tasks ++ [x] }, 3) := by
      unfold taskLines
      rw [linesRun, (taskHead_law x (hp x (.head _))).2 t]
      show linesRun (x.ops.map opLine) (i + 1) { t with tasks := t.tasks ++ [⟨x.prio, []⟩] } 3 = _
      rw [ops_run x.ops (ho x (.head _)) (i + 1) _ t.tasks ⟨x.prio, []⟩ rfl]
      simp
    rw [List.flatMap_cons, linesRun_append _ _ _ _ _ _ _ e1, ih (fun y hy => hp y (.tail _ hy)) (fun y hy => ho y (.tail _ hy))]
    simp
theorem textLines_run {t : Table} (h : Reads t) : linesRun (textLines t) 1 Table.none 0 = .inl (t, 3) := by
  obtain ⟨g1, w1⟩ := head_line [115, 101, 109, 115] t.sems (by decide) (by decide) rfl
  obtain ⟨g2, w2⟩ := head_line [109, 117, 116, 101, 120, 101, 115] [t.mutexes] (by decide) (by decide) rfl
  obtain ⟨g3, w3⟩ := head_line [113, 117, 101, 117, 101, 115] t.queues (by decide) (by decide) rfl
  unfold textLines
  rw [linesRun, line_of g1 w1 (nums_numStr _ h.sems), if_pos (by decide), if_neg (by simp [inner, dotted, heads]), if_pos rfl]
  show linesRun (_ :: _) 2 _ 1 = _
  rw [linesRun, line_of g2 w2 (nums_numStr _ (by simpa using h.mutexes)), if_pos (by decide), if_neg (by simp [inner, dotted, heads]), if_neg (by decide), if_pos (show 1 = 1 from rfl), if_pos (show [t.mutexes].length = 1 from rfl)]
  show linesRun (_ :: _) 3 _ 2 = _
  rw [linesRun, line_of g3 w3 (nums_numStr _ h.queues), if_pos (by decide), if_neg (by simp [inner, dotted, heads]), if_neg (by decide), if_neg (by decide)]
  show linesRun (t.tasks.flatMap taskLines) 4 _ 3 = _
  rw [tasks_run t.tasks h.prio h.ops]
  rfl
theorem textLines_good {t : Table} (h : Reads t) : ∀ l ∈ textLines t, Good l := by
  intro l hl
  unfold textLines at hl
  rcases List.mem_cons.1 hl with rfl | hl
  · exact (head_line [115, 101, 109, 115] t.sems (by decide) (by decide) rfl).1
  rcases List.mem_cons.1 hl with rfl | hl
  · exact (head_line [109, 117, 116, 101, 120, 101, 115] [t.mutexes] (by decide) (by decide) rfl).1
  rcases List.mem_cons.1 hl with rfl | hl
  · exact (head_line [113, 117, 101, 117, 101, 115] t.queues (by decide) (by decide) rfl).1
  obtain ⟨x, hx, hl⟩ := List.mem_flatMap.1 hl
  unfold taskLines at hl
  rcases List.mem_cons.1 hl with rfl | hl
  · exact (taskHead_law x (h.prio x hx)).1
  · obtain ⟨o, ho, rfl⟩ := List.mem_map.1 hl
    obtain ⟨k, e, hk, a1, a2, b1, b2, hb, ha⟩ := h.ops x hx o ho
    exact (opLine_law e hk ⟨a1, a2, b1, b2⟩ hb ha).1
/-- A text whose lines read as the table's is the table. -/
theorem parse_lines {t : Table} {s : List UInt8} (ht : t.fits = true) (hs : linesRun (lines s) 1 Table.none 0 = .inl (t, 3)) : parse s = (t, 0, 0) := by
  unfold parse
  rw [hs]
  show (if 3 < 3 then _ else _) = _
  rw [if_neg (by decide), if_pos ht]
theorem parse_text {t : Table} (ht : t.fits = true) : parse (text t) = (t, 0, 0) := by
  have h := fits_reads ht
  apply parse_lines ht
  unfold text
  rw [if_pos ht, lines_unlines _ fun l hl => (textLines_good h l hl).ten]
  exact textLines_run h
end Tk
end Go.Proofs.YtadcfedjmofjjaaDoor
