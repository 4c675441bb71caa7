/-
  TasksMany: the walk of the law.
-/
import Derived.Test.YtadcfedjmofjjaaDoorMany
import Derived.Deep.RegionHeld3
import Derived.Deep.LoopGhost
import Derived.Deep.DeepCutAuto
namespace Go.Proofs.YtadcfedjmofjjaaDoor
open Go.RowKit
def manyTasks (N OPS : Nat) : List Tk.Task := match N with
  | 0 => []
  | M + 1 => List.replicate M ⟨0, []⟩ ++ [⟨0, List.replicate OPS ⟨1, 0, 0⟩⟩]
def upTo (n : Nat) (d : Int) : List Int := List.map (fun (i : Nat) => (i : Int) + d) (List.range n)
/-- The law's table. -/
def manyT (N OPS S Q : Nat) : Tk.Table := { tasks := manyTasks N OPS, sems := upTo S 0, mutexes := 0, queues := upTo Q 1 }
theorem upTo_succ (n : Nat) (d : Int) : upTo (n + 1) d = upTo n d ++ [(n : Int) + d] := by simp [upTo, List.range_succ]
theorem upTo_len (n : Nat) (d : Int) : (upTo n d).length = n := by simp [upTo]
theorem manyTasks_len (N OPS : Nat) : (manyTasks N OPS).length = N := by rcases N with _ | M <;> simp [manyTasks]
theorem manyTasks_one (M : Nat) : manyTasks (M + 1) 0 = List.replicate (M + 1) (⟨0, []⟩ : Tk.Task) := by
  show List.replicate M _ ++ [(⟨0, []⟩ : Tk.Task)] = _
  rw [List.replicate_succ']
theorem yields_fit (n : Nat) : ∀ i, Tk.opsFit (List.replicate n ⟨1, 0, 0⟩) i = true := by
  induction n with
  | zero => intro i; rfl
  | succ n ih =>
    intro i
    rw [List.replicate_succ, Tk.opsFit, ih]
    have : (⟨1, 0, 0⟩ : Tk.Op).fits i = true := by
      unfold Tk.Op.fits Tk.bounds
      simp
    rw [this]
    rfl
theorem manyFits {N OPS S Q : Nat} (hS : S ≤ 12) (hQ : Q ≤ 12) : (manyT N OPS S Q).fits = decide (1 ≤ N ∧ N ≤ 32 ∧ OPS ≤ 100 ∧ S ≤ 8 ∧ Q ≤ 8) := by
  have h1 : (upTo S 0).all (fun n => decide (0 ≤ n ∧ n ≤ 100)) = true := by
    rw [List.all_eq_true]
    intro x hx
    obtain ⟨i, hi, rfl⟩ := List.mem_map.1 hx
    have := List.mem_range.1 hi
    exact decide_eq_true (by omega)
  have h2 : (upTo Q 1).all (fun n => decide (1 ≤ n ∧ n ≤ 16)) = true := by
    rw [List.all_eq_true]
    intro x hx
    obtain ⟨i, hi, rfl⟩ := List.mem_map.1 hx
    have := List.mem_range.1 hi
    exact decide_eq_true (by omega)
  have h0 : (⟨0, []⟩ : Tk.Task).fits = true := by decide
  have hl : (⟨0, List.replicate OPS ⟨1, 0, 0⟩⟩ : Tk.Task).fits = decide (OPS ≤ 100) := by
    unfold Tk.Task.fits
    rw [yields_fit]
    simp
  rcases N with _ | M
  · simp [Tk.Table.fits, manyT, manyTasks]
  · have h3 : (manyTasks (M + 1) OPS).all Tk.Task.fits = decide (OPS ≤ 100) := by
      show (List.replicate M _ ++ [_]).all _ = _
      rw [List.all_append, List.all_cons, List.all_nil, Bool.and_true, hl]
      have : (List.replicate M (⟨0, []⟩ : Tk.Task)).all Tk.Task.fits = true := by
        rw [List.all_eq_true]
        intro x hx
        rw [(List.mem_replicate.1 hx).2]
        exact h0
      rw [this, Bool.true_and]
    unfold Tk.Table.fits
    show (_ && (upTo S 0).all _ && (upTo Q 1).all _ && (manyTasks (M + 1) OPS).all _) = _
    rw [h1, h2, h3]
    show (decide (1 ≤ (manyTasks (M + 1) OPS).length ∧ (manyTasks (M + 1) OPS).length ≤ 32 ∧ (upTo S 0).length ≤ 8 ∧ 0 ≤ (0 : Int) ∧ (0 : Int) ≤ 8 ∧ (upTo Q 1).length ≤ 8) && true && true && decide (OPS ≤ 100)) = _
    rw [manyTasks_len, upTo_len, upTo_len]
    rw [Bool.and_true, Bool.and_true, ← Bool.decide_and]
    exact decide_eq_decide.2 (by omega)
theorem info3' : ∃ i, Tryd.prog.info? 3 = some i ∧ i.zero = some (.int .i64 0) ∧ i.size = 1 ∧ i.bytes = 8 := info_parts info3
theorem manyOp {w1 wr w5 : World} {M m : Nat} {l : List (Tk.Task × Value)} {x : Tk.Task} {hv V2 V3 : Value} {g c gg cap : Nat} {o : Obj} {s q : List Int} {mu : Int} (h : MT w1 wr ⟨manyTasks (M + 1) m, s, mu, q⟩ (.slice (some ⟨g, 0, none⟩) (l.length + 1) c) V2 V3) (et : manyTasks (M + 1) m = l.map Prod.fst ++ [x])
    (htk : Tasks wr (w1.heap.size + 1) (.slice (some ⟨g, 0, none⟩) (l.length + 1) c) (l ++ [(x, hv)])) (hx : x = ⟨0, List.replicate m ⟨1, 0, 0⟩⟩)
    (hown : w5.ownsRow (w1.heap.size + 1) 34 3 (.slice (some ⟨gg, 0, none⟩) (x.ops.length + 1) cap) (x.ops.length + 1) (opsC x.ops ++ [.int .i64 1, .int .i64 0, .int .i64 0])) (hgrow : ((wr.alloc o).drew).grownBy w5 hv.ownBlock)
    (hat : hv.ownBlock = some gg ∨ gg = wr.heap.size + 1) :
    MT w1 (w5.setCell ⟨g, l.length * 2 + 1, none⟩ (.slice (some ⟨gg, 0, none⟩) (x.ops.length + 1) cap)) ⟨manyTasks (M + 1) (m + 1), s, mu, q⟩ (.slice (some ⟨g, 0, none⟩) (l.length + 1) c) V2 V3 := by
  have k := MT.op h htk hown hgrow hat
  have e : manyTasks (M + 1) (m + 1) = l.map Prod.fst ++ [{ x with ops := x.ops ++ [⟨1, 0, 0⟩] }] := by
    have e1 : List.replicate M (⟨0, []⟩ : Tk.Task) ++ [⟨0, List.replicate m ⟨1, 0, 0⟩⟩] = l.map Prod.fst ++ [x] := et
    have e2 := (List.append_inj' e1 rfl).1
    rw [hx]
    show List.replicate M _ ++ [_] = _
    rw [← e2, List.replicate_succ']
  rw [e]
  exact k
set_option maxRecDepth 100000 in
set_option maxHeartbeats 8000000 in
theorem tasksMany_any (n ops sems queues : Int) (w : World) (m0 : Int) (hm : w.cell? ⟨0, 0, none⟩ = some (.int .i64 m0)) (hp : Pow w) : Calls Tryd.prog 7 #[.int .i64 n, .int .i64 ops, .int .i64 sems, .int .i64 queues] w fun e w' => e = .returned (.bool true) ∧ Below w.heap.size w w' := by
  have hz0 : 0 < w.heap.size := block_lt_of_cell hm
  have HM := Lib.hid hm
  have HP := Lib.hid hp
  clear hm hp
  obtain ⟨i3, hi3, hi30, hi31, hi32⟩ := info3'
  obtain ⟨i0, hi, hz0', hz1', hz2⟩ := info_parts info34
  obtain ⟨i2, hi2, hi20, hi21, hi22⟩ := info_parts info32
  by_cases b0 : n < 0
  · as_aux_lemma =>
      go_enter Tryd.func7, Tryd.ntmps7
      go_wp2_with fail
      refine (alive_any w m0 HM.out).mono ?_
      rintro e w1 ⟨rfl, hb1⟩
      go_wp2_with fail
      go_ret
      exact ⟨rfl, hb1⟩
  by_cases b1 : 40 < n
  · as_aux_lemma =>
      go_enter Tryd.func7, Tryd.ntmps7
      go_wp2_with fail
      refine (alive_any w m0 HM.out).mono ?_
      rintro e w1 ⟨rfl, hb1⟩
      go_wp2_with fail
      go_ret
      exact ⟨rfl, hb1⟩
  by_cases b2 : ops < 0
  · as_aux_lemma =>
      go_enter Tryd.func7, Tryd.ntmps7
      go_wp2_with fail
      refine (alive_any w m0 HM.out).mono ?_
      rintro e w1 ⟨rfl, hb1⟩
      go_wp2_with fail
      go_ret
      exact ⟨rfl, hb1⟩
  by_cases b3 : 110 < ops
  · as_aux_lemma =>
      go_enter Tryd.func7, Tryd.ntmps7
      go_wp2_with fail
      refine (alive_any w m0 HM.out).mono ?_
      rintro e w1 ⟨rfl, hb1⟩
      go_wp2_with fail
      go_ret
      exact ⟨rfl, hb1⟩
  by_cases b4 : sems < 0
  · as_aux_lemma =>
      go_enter Tryd.func7, Tryd.ntmps7
      go_wp2_with fail
      refine (alive_any w m0 HM.out).mono ?_
      rintro e w1 ⟨rfl, hb1⟩
      go_wp2_with fail
      go_ret
      exact ⟨rfl, hb1⟩
  by_cases b5 : 12 < sems
  · as_aux_lemma =>
      go_enter Tryd.func7, Tryd.ntmps7
      go_wp2_with fail
      refine (alive_any w m0 HM.out).mono ?_
      rintro e w1 ⟨rfl, hb1⟩
      go_wp2_with fail
      go_ret
      exact ⟨rfl, hb1⟩
  by_cases b6 : queues < 0
  · as_aux_lemma =>
      go_enter Tryd.func7, Tryd.ntmps7
      go_wp2_with fail
      refine (alive_any w m0 HM.out).mono ?_
      rintro e w1 ⟨rfl, hb1⟩
      go_wp2_with fail
      go_ret
      exact ⟨rfl, hb1⟩
  by_cases b7 : 12 < queues
  · as_aux_lemma =>
      go_enter Tryd.func7, Tryd.ntmps7
      go_wp2_with fail
      refine (alive_any w m0 HM.out).mono ?_
      rintro e w1 ⟨rfl, hb1⟩
      go_wp2_with fail
      go_ret
      exact ⟨rfl, hb1⟩
  obtain ⟨N, rfl⟩ := Int.eq_ofNat_of_zero_le (show 0 ≤ n by omega)
  obtain ⟨OPS, rfl⟩ := Int.eq_ofNat_of_zero_le (show 0 ≤ ops by omega)
  obtain ⟨S, rfl⟩ := Int.eq_ofNat_of_zero_le (show 0 ≤ sems by omega)
  obtain ⟨Q, rfl⟩ := Int.eq_ofNat_of_zero_le (show 0 ≤ queues by omega)
  go_enter Tryd.func7, Tryd.ntmps7
  go_wp2_with fail
  refine (alive_any w m0 HM.out).mono ?_
  rintro e w1 ⟨rfl, hb1⟩
  have hz1 := hb1.size
  have HB1 := Lib.hid hb1
  clear hb1
  go_wp2_with fail
  have hnil := Lib.hid (MT.nil w1)
  go_loopg [11] N (fun kk i wr => ∃ (j : Nat) (V1 : Value), j ≤ N ∧ i = .int .i64 j ∧ MT w1 wr ⟨List.replicate j ⟨0, []⟩, [], 0, []⟩ V1 (.slice none 0 0) (.slice none 0 0) ∧ N - j ≤ kk)
  case atStart => exact ⟨0, _, Nat.zero_le _, rfl, hnil.out, by omega⟩
  case round =>
    obtain ⟨j, V1, hj, rfl, hMT, hkk⟩ := hrel
    by_cases hlt : j < N
    · have hlt' : (j : Int) < N := by omega
      obtain ⟨l, el, hl⟩ := hMT.tab.tasks
      have hln : Hid (l.length = j) := by show _ = _; rw [← List.length_map (f := Prod.fst), el]; simp
      have hz3 := hMT.below.size
      have k0 := hMT.blk.cell 0
      simp at k0
      go_wp2_with (at_builtin; refine wpList_append_lies _ rfl _ _ _ rfl (w1.heap.size + 1) 32 i2 _ 2 32 Tryd.underlying23 hi2 hi20 hi21 hi22 rfl (by decide) V1 l.length (l.flatMap taskC) rfl (hl.row.alloc _) ⟨wr.heap.size, 0, none⟩ 1 1 [.int .i64 0, .slice none 0 0] rfl rfl (World.news_of_block (cs := #[.int .i64 0, .slice none 0 0]) (t := 32) (fr := (0, 0)) (heap_alloc_new _ _)) (by simp [Value.oneCell']) (by decide) ?c1 ?c2 ?c3 _ rfl ?_)
      case c1 => have := hln.out; unfold maxLen; omega
      case c2 => have := hln.out; omega
      intro g cap w5 hown hgrow _ _
      have hne : V1.ownBlock ≠ some w1.heap.size := fun e => by have := (hl.row.lt _ e).1; omega
      have hw5 := Whole.grown (hMT.blk.alloc _) hgrow hne
      have k1 := hw5.cell 0
      have k2 := hw5.frozen 0
      simp at k1
      go_wp2_with fail
      go_roundg (N - (j + 1))
      case measure => omega
      case rel => exact ⟨j + 1, _, by omega, by go_num, by have k := MT.push hMT el hl hown hgrow; rw [List.replicate_succ']; exact k, Nat.le_refl _⟩
    · have hge : ¬ (j : Int) < N := by omega
      have hjN : N = j := by omega
      subst hjN
      have HMT := Lib.hid hMT
      clear hMT hnil
      go_upto_if 68 with fail
      go_cut [] (fun wx => ∃ V1, MT w1 wx ⟨manyTasks N OPS, [], 0, []⟩ V1 (.slice none 0 0) (.slice none 0 0))
      case first =>
        rcases N with _ | M
        · have hb : ¬ (0 : Int) < ((0 : Nat) : Int) := by omega
          go_wp2_with fail
          go_meet
          exact ⟨_, HMT.out⟩
        · have hb : (0 : Int) < ((M + 1 : Nat) : Int) := by omega
          have hb2 : (0 : Int) < (M : Int) + 1 := by omega
          go_wp2_with fail
          go_loopg [12] OPS (fun kk i wr => ∃ (m : Nat) (V1 : Value), m ≤ OPS ∧ i = .int .i64 m ∧ MT w1 wr ⟨manyTasks (M + 1) m, [], 0, []⟩ V1 (.slice none 0 0) (.slice none 0 0) ∧ OPS - m ≤ kk)
          case atStart => exact ⟨0, _, Nat.zero_le _, rfl, by rw [manyTasks_one]; exact HMT.out, by omega⟩
          case round =>
            obtain ⟨m, V1, hm, rfl, hMT, hkk⟩ := hrel
            by_cases hlt : m < OPS
            · have hlt' : (m : Int) < OPS := by omega
              obtain ⟨l, x, hv, g, c, htk, et, rfl⟩ := hMT.tab.last (by show List.replicate M _ ++ [_] ≠ []; simp)
              have e1 : List.replicate M (⟨0, []⟩ : Tk.Task) ++ [⟨0, List.replicate m ⟨1, 0, 0⟩⟩] = l.map Prod.fst ++ [x] := et
              have e2 := (List.append_inj' e1 rfl).1
              have e3 := (List.append_inj' e1 rfl).2
              have hxo : x = ⟨0, List.replicate m ⟨1, 0, 0⟩⟩ := by injection e3 with e3; exact e3.symm
              have hln : M = l.length := by have := congrArg List.length e2; simpa using this
              subst hln
              clear e1 e2 e3
              have hxb : x.ops.length ≤ 110 := by rw [hxo]; simp; omega
              have HXO := Lib.hid hxo
              clear hxo
              have hwp := hMT.blk
              have hrow := htk.row
              have hto := htk.ops (x, hv) (by simp)
              have hop : hv.ownBlock ≠ some w1.heap.size := fun e => by have := (hto.lt _ e).1; omega
              have hog : hv.ownBlock ≠ some g := fun e => row_kind hto hrow (by decide) g e rfl
              have hgB := (hrow.lt g rfl).1
              have hgl := (hrow.lt g rfl).2
              have k0 := hwp.cell 0
              simp at k0
              obtain ⟨k1, k2⟩ := last_cell (by simpa using hrow)
              have hrow' : wr.ownsRow (w1.heap.size + 1) 32 2 (.slice (some ⟨g, 0, none⟩) (l.length + 1) c) (l.length + 1) ((l ++ [(x, hv)]).flatMap taskC) := by simpa using hrow
              have HROW := Lib.hid hrow'
              have HTO := Lib.hid hto
              have ib0 : (0 : Int) ≤ (l.length : Int) := by omega
              have ib1 : (l.length : Int) < (l.length : Int) + 1 := by omega
              have ib2 : (l.length : Int) < ((l.length + 1 : Nat) : Int) := by omega
              have ib3 : l.length < l.length + 1 := by omega
              have hwr : IntKind.i64.wrap (l.length : Int) = l.length := by rw [IntKind.wrap_i64]; omega
              have hpg : w1.heap.size ≠ g := by omega
              have hpg' : g ≠ w1.heap.size := by omega
              go_wp2_with fail
              refine wp_region_held_drew (S := fun w' => w'.cell? ⟨w1.heap.size, 0, none⟩ = some (.slice (some ⟨g, 0, none⟩) (l.length + 1) c)) (by kernel_rfl) ?_ (fun hHeld => ?_)
              · (try dsimp only)
                go_keep
              refine wpAnyH_take (i := 0) (v := ?_) rfl (by kernel_rfl) (by kernel_rfl) (by kernel_rfl) (fun _ _ _ h => h) (Or.inl ⟨by rfl, ?_⟩) (by assumption) ?_
              rotate_left
              · intro w hSw
                (try dsimp only at hSw)
                go_simp
                with_reducible rfl
              try simp only [Act.put, List.setIfInBounds_toArray]
              refine wpAnyH_take (i := 1) (v := ?_) rfl (by kernel_rfl) (by kernel_rfl) (by kernel_rfl) (fun _ _ _ h => h) (Or.inl ⟨by rfl, ?_⟩) (by assumption) ?_
              rotate_left
              · intro w hSw
                (try dsimp only at hSw)
                go_simp
                with_reducible rfl
              try simp only [Act.put]
              refine wpAnyH_take (i := 2) (v := ?_) rfl (by kernel_rfl) (by kernel_rfl) (by kernel_rfl) (fun _ _ _ h => h) (Or.inl ⟨by rfl, ?_⟩) (by assumption) ?_
              rotate_left
              · intro w hSw
                (try dsimp only at hSw)
                go_simp
                with_reducible rfl
              try simp only [Act.put]
              refine wpAnyH_take (i := 3) (v := ?_) rfl (by kernel_rfl) (by kernel_rfl) (by kernel_rfl) (fun _ _ _ h => h) (Or.inl ⟨by rfl, ?_⟩) (by assumption) ?_
              rotate_left
              · intro w hSw
                (try dsimp only at hSw)
                go_simp
                with_reducible rfl
              try simp only [Act.put]
              refine wpAnyH_take (i := 4) (v := ?_) rfl (by kernel_rfl) (by kernel_rfl) (by kernel_rfl) (fun _ _ _ h => h) (Or.inl ⟨by rfl, ?_⟩) (by assumption) ?_
              rotate_left
              · intro w hSw
                (try dsimp only at hSw)
                go_simp
                with_reducible rfl
              try simp only [Act.put]
              refine wpAnyH_take (i := 5) (v := ?_) rfl (by kernel_rfl) (by kernel_rfl) (by kernel_rfl) (fun _ _ _ h => h) (Or.inl ⟨by rfl, ?_⟩) (by assumption) ?_
              rotate_left
              · intro w hSw
                (try dsimp only at hSw)
                go_simp
                with_reducible rfl
              try simp only [Act.put]
              refine wpAnyH_take (i := 6) (v := ?_) rfl (by kernel_rfl) (by kernel_rfl) (by kernel_rfl) (fun _ _ _ h => h) (Or.inl ⟨by rfl, ?_⟩) (by assumption) ?_
              rotate_left
              · intro w hSw
                (try dsimp only at hSw)
                go_simp
                with_reducible rfl
              try simp only [Act.put]
              refine wpAnyH_take (i := 7) (v := ?_) rfl (by kernel_rfl) (by kernel_rfl) (by kernel_rfl) (fun _ _ _ h => h) (Or.inl ⟨by rfl, ?_⟩) (by assumption) ?_
              rotate_left
              · intro w hSw
                (try dsimp only at hSw)
                go_simp
                with_reducible rfl
              try simp only [Act.put]
              refine wpAnyH_take (i := 8) (v := ?_) rfl (by kernel_rfl) (by kernel_rfl) (by kernel_rfl) (fun _ _ _ h => h) (Or.inl ⟨by rfl, ?_⟩) (by assumption) ?_
              rotate_left
              · intro w hSw
                (try dsimp only at hSw)
                go_simp
                with_reducible rfl
              try simp only [Act.put]
              refine wpAnyH_take (i := 9) (v := ?_) rfl (by kernel_rfl) (by kernel_rfl) (by kernel_rfl) (fun _ _ _ h => h) (Or.inl ⟨by rfl, ?_⟩) (by assumption) ?_
              rotate_left
              · intro w hSw
                (try dsimp only at hSw)
                go_simp
                with_reducible rfl
              try simp only [Act.put]
              refine wpAnyH_take (i := 11) (v := ?_) rfl (by kernel_rfl) (by kernel_rfl) (by kernel_rfl) (fun _ _ _ h => h) (Or.inl ⟨by rfl, ?_⟩) (by assumption) ?_
              rotate_left
              · intro w hSw
                (try dsimp only at hSw)
                go_simp
                with_reducible rfl
              try simp only [Act.put]
              refine wpAnyH_ready (rs := [10, 12]) (by kernel_rfl) (by simp) ?_
              refine AllReadyH.cons rfl (fun K hK => ?_) ?_
              · go_simp
                refine hK.out _ _ ?_ (fun hHeld => ?_)
                · (try dsimp only)
                  go_keep
                clear hK K
                try simp only [Act.put, List.setIfInBounds_toArray, List.set_cons_zero, List.set_cons_succ]
                refine wpAnyH_ready (rs := [12]) (by kernel_rfl) (by simp) ?_
                refine AllReadyH.cons rfl (fun K hK => ?_) ?_
                · go_simp
                  refine hK.out _ _ ?_ (fun hHeld => ?_)
                  · (try dsimp only)
                    go_keep
                  clear hK K
                  try simp only [Act.put, List.setIfInBounds_toArray, List.set_cons_zero, List.set_cons_succ]
                  refine wpAnyH_ready (rs := [13]) (by kernel_rfl) (by simp) ?_
                  refine AllReadyH.cons rfl (fun K hK => ?_) ?_
                  · (refine step_append_lies _ (by rfl) _ _ _ (by rfl) (w1.heap.size + 1) 34 i0 _ 3 24 Tryd.underlying30 hi hz0' hz1' hz2 rfl (by omega) hv x.ops.length (opsC x.ops) (by rfl) ((HTO.out.alloc _).drew) ⟨wr.heap.size, 0, none⟩ 1 1 [.int .i64 1, .int .i64 0, .int .i64 0] (by rfl) (by rfl) (World.news_of_block (cs := #[.int .i64 1, .int .i64 0, .int .i64 0]) (t := 34) (fr := (0, 0)) (heap_alloc_new _ _)) (by simp [Value.oneCell']) (by omega) (by unfold maxLen; omega) (by omega) (by simp; omega) (wr.heap.size + 1) (by simp) ?_; intro gg cap w5 hown1 hgrow hat hlt1; have y1 := (Whole.grown (hwp.alloc _).drew hgrow hop).cell 0; simp at y1; obtain ⟨y2, y3⟩ := last_cell (row_grown HROW.out hgrow (fun k hk => Below.heap_alloc wr _ k hk) (by simp) (fun k hk e => hog (by rw [e, ← hk]; rfl))))
                    refine hK.out _ _ ?_ (fun hHeld => ?_)
                    · (try dsimp only)
                      go_keep
                    clear hK K
                    try simp only [Act.put, List.setIfInBounds_toArray]
                    refine wpAnyH_take (i := 14) (v := ?_) rfl (by kernel_rfl) (by kernel_rfl) (by kernel_rfl) (fun _ _ _ h => h) (Or.inl ⟨by rfl, ?_⟩) (by assumption) ?_
                    rotate_left
                    · intro w hSw
                      (try dsimp only at hSw)
                      go_simp
                      with_reducible rfl
                    try simp only [Act.put]
                    refine wpAnyH_take (i := 15) (v := ?_) rfl (by kernel_rfl) (by kernel_rfl) (by kernel_rfl) (fun _ _ _ h => h) (Or.inl ⟨by rfl, ?_⟩) (by assumption) ?_
                    rotate_left
                    · intro w hSw
                      (try dsimp only at hSw)
                      go_simp
                      with_reducible rfl
                    try simp only [Act.put]
                    refine wpAnyH_ready (rs := [16]) (by kernel_rfl) (by simp) ?_
                    refine AllReadyH.cons rfl (fun K hK => ?_) ?_
                    · go_simp
                      refine hK.out _ _ ?_ (fun hHeld => ?_)
                      · (try dsimp only)
                        go_keep
                      clear hK K
                      try simp only [Act.put, List.setIfInBounds_toArray, List.set_cons_zero, List.set_cons_succ]
                      refine wpAnyH_done (by kernel_rfl) ?_ _
                      go_wp2_with fail
                      go_roundg (OPS - (m + 1))
                      case measure => omega
                      case rel => exact ⟨m + 1, _, by omega, by go_num, manyOp hMT et htk HXO.out hown1 hgrow hat, Nat.le_refl _⟩
                    exact AllReadyH.nil
                  exact AllReadyH.nil
                exact AllReadyH.nil
              refine AllReadyH.cons rfl (fun K hK => ?_) ?_
              · go_simp
                refine hK.out _ _ ?_ (fun hHeld => ?_)
                · (try dsimp only)
                  go_keep
                clear hK K
                try simp only [Act.put, List.setIfInBounds_toArray, List.set_cons_zero, List.set_cons_succ]
                refine wpAnyH_ready (rs := [10]) (by kernel_rfl) (by simp) ?_
                refine AllReadyH.cons rfl (fun K hK => ?_) ?_
                · go_simp
                  refine hK.out _ _ ?_ (fun hHeld => ?_)
                  · (try dsimp only)
                    go_keep
                  clear hK K
                  try simp only [Act.put, List.setIfInBounds_toArray, List.set_cons_zero, List.set_cons_succ]
                  refine wpAnyH_ready (rs := [13]) (by kernel_rfl) (by simp) ?_
                  refine AllReadyH.cons rfl (fun K hK => ?_) ?_
                  · (refine step_append_lies _ (by rfl) _ _ _ (by rfl) (w1.heap.size + 1) 34 i0 _ 3 24 Tryd.underlying30 hi hz0' hz1' hz2 rfl (by omega) hv x.ops.length (opsC x.ops) (by rfl) ((HTO.out.alloc _).drew) ⟨wr.heap.size, 0, none⟩ 1 1 [.int .i64 1, .int .i64 0, .int .i64 0] (by rfl) (by rfl) (World.news_of_block (cs := #[.int .i64 1, .int .i64 0, .int .i64 0]) (t := 34) (fr := (0, 0)) (heap_alloc_new _ _)) (by simp [Value.oneCell']) (by omega) (by unfold maxLen; omega) (by omega) (by simp; omega) (wr.heap.size + 1) (by simp) ?_; intro gg cap w5 hown1 hgrow hat hlt1; have y1 := (Whole.grown (hwp.alloc _).drew hgrow hop).cell 0; simp at y1; obtain ⟨y2, y3⟩ := last_cell (row_grown HROW.out hgrow (fun k hk => Below.heap_alloc wr _ k hk) (by simp) (fun k hk e => hog (by rw [e, ← hk]; rfl))))
                    refine hK.out _ _ ?_ (fun hHeld => ?_)
                    · (try dsimp only)
                      go_keep
                    clear hK K
                    try simp only [Act.put, List.setIfInBounds_toArray]
                    refine wpAnyH_take (i := 14) (v := ?_) rfl (by kernel_rfl) (by kernel_rfl) (by kernel_rfl) (fun _ _ _ h => h) (Or.inl ⟨by rfl, ?_⟩) (by assumption) ?_
                    rotate_left
                    · intro w hSw
                      (try dsimp only at hSw)
                      go_simp
                      with_reducible rfl
                    try simp only [Act.put]
                    refine wpAnyH_take (i := 15) (v := ?_) rfl (by kernel_rfl) (by kernel_rfl) (by kernel_rfl) (fun _ _ _ h => h) (Or.inl ⟨by rfl, ?_⟩) (by assumption) ?_
                    rotate_left
                    · intro w hSw
                      (try dsimp only at hSw)
                      go_simp
                      with_reducible rfl
                    try simp only [Act.put]
                    refine wpAnyH_ready (rs := [16]) (by kernel_rfl) (by simp) ?_
                    refine AllReadyH.cons rfl (fun K hK => ?_) ?_
                    · go_simp
                      refine hK.out _ _ ?_ (fun hHeld => ?_)
                      · (try dsimp only)
                        go_keep
                      clear hK K
                      try simp only [Act.put, List.setIfInBounds_toArray, List.set_cons_zero, List.set_cons_succ]
                      refine wpAnyH_done (by kernel_rfl) ?_ _
                      go_wp2_with fail
                      go_roundg (OPS - (m + 1))
                      case measure => omega
                      case rel => exact ⟨m + 1, _, by omega, by go_num, manyOp hMT et htk HXO.out hown1 hgrow hat, Nat.le_refl _⟩
                    exact AllReadyH.nil
                  exact AllReadyH.nil
                exact AllReadyH.nil
              exact AllReadyH.nil
            · have hge : ¬ (m : Int) < OPS := by omega
              have hmN : OPS = m := by omega
              subst hmN
              go_wp2_with fail
              go_meet
              exact ⟨_, hMT⟩
      case rest =>
        obtain ⟨V1, hMT0⟩ := hcut
        have HMT0 := Lib.hid hMT0
        clear hMT0 HMT
        go_wp2_with fail
        go_loopg [13] S (fun kk i wr => ∃ (j : Nat) (V2 : Value), j ≤ S ∧ i = .int .i64 j ∧ MT w1 wr ⟨manyTasks N OPS, upTo j 0, 0, []⟩ V1 V2 (.slice none 0 0) ∧ S - j ≤ kk)
        case atStart => exact ⟨0, _, Nat.zero_le _, rfl, HMT0.out, by omega⟩
        case round =>
          obtain ⟨j, V2, hj, rfl, hMT, hkk⟩ := hrel
          have HMT := Lib.hid hMT
          have k0 := hMT.blk.cell 1
          simp at k0
          by_cases hlt : j < S
          · have hlt' : (j : Int) < S := by omega
            have hs := hMT.tab.sems
            have hsl : Hid ((upTo j 0).length = j) := upTo_len j 0
            clear hMT
            go_wp2_with (at_builtin; refine wpList_append_lies _ rfl _ _ _ rfl (w1.heap.size + 1) 3 i3 _ 1 8 Tryd.underlying24 hi3 hi30 hi31 hi32 rfl (by decide) V2 (upTo j 0).length (intV (upTo j 0)) rfl (hs.alloc _) ⟨wr.heap.size, 0, none⟩ 1 1 [.int .i64 j] rfl rfl (World.news_of_block (cs := #[.int .i64 j]) (t := 3) (fr := (0, 0)) (heap_alloc_new _ _)) (by simp [Value.oneCell']) (by decide) ?d1 ?d2 ?d3 _ rfl ?_)
            case d1 => have := hsl.out; unfold maxLen; omega
            case d2 => have := hsl.out; omega
            all_goals try (have := HMT.out.blk.lt; simp; omega)
            intro g cap w5 hown hgrow _ _
            have hne : V2.ownBlock ≠ some w1.heap.size := fun e => by have := (hs.lt _ e).1; omega
            have hw5 := Whole.grown (HMT.out.blk.alloc _) hgrow hne
            have k1 := hw5.cell 1
            have k2 := hw5.frozen 1
            simp at k1
            have HOWN := Lib.hid hown
            clear hown
            go_wp2_with fail
            go_roundg (S - (j + 1))
            case measure => omega
            case rel => exact ⟨j + 1, _, by omega, by go_num, by rw [upTo_succ, show (j : Int) + 0 = j by omega]; exact MT.sems HMT.out HOWN.out hgrow (fun k hk => by simp [Value.ownBlock] at hk), Nat.le_refl _⟩
          · have hge : ¬ (j : Int) < S := by omega
            have hjN : S = j := by omega
            subst hjN
            clear hMT HMT0
            go_wp2_with fail
            go_loopg [14] Q (fun kk i wr => ∃ (q : Nat) (V3 : Value), q ≤ Q ∧ i = .int .i64 q ∧ MT w1 wr ⟨manyTasks N OPS, upTo S 0, 0, upTo q 1⟩ V1 V2 V3 ∧ (∀ k, V2.ownBlock = some k → V3.ownBlock ≠ some k) ∧ Q - q ≤ kk)
            case atStart => exact ⟨0, _, Nat.zero_le _, rfl, HMT.out, fun k _ hk => by simp [Value.ownBlock] at hk, by omega⟩
            case round =>
              clear HMT
              obtain ⟨q, V3, hq, rfl, hMT, hap, hkq⟩ := hrel
              have HMT := Lib.hid hMT
              have k0 := hMT.blk.cell 3
              simp at k0
              have HAP := Lib.hid hap
              clear hap
              by_cases hlq : q < Q
              · have hlt' : (q : Int) < Q := by omega
                have hwq : IntKind.i64.wrap ((q : Int) + 1) = (q : Int) + 1 := by rw [IntKind.wrap_i64]; omega
                have hs := hMT.tab.queues
                have hsl : Hid ((upTo q 1).length = q) := upTo_len q 1
                clear hMT
                go_wp2_with (at_builtin; refine wpList_append_lies _ rfl _ _ _ rfl (w1.heap.size + 1) 3 i3 _ 1 8 Tryd.underlying24 hi3 hi30 hi31 hi32 rfl (by decide) V3 (upTo q 1).length (intV (upTo q 1)) rfl (hs.alloc _) ⟨wr.heap.size, 0, none⟩ 1 1 [.int .i64 ((q : Int) + 1)] rfl rfl (World.news_of_block (cs := #[.int .i64 ((q : Int) + 1)]) (t := 3) (fr := (0, 0)) (heap_alloc_new _ _)) (by simp [Value.oneCell']) (by decide) ?e1 ?e2 ?e3 _ rfl ?_)
                case e1 => have := hsl.out; unfold maxLen; omega
                case e2 => have := hsl.out; omega
                all_goals try (have := HMT.out.blk.lt; simp; omega)
                intro g cap w5 hown hgrow hat _
                have hne : V3.ownBlock ≠ some w1.heap.size := fun e => by have := (hs.lt _ e).1; omega
                have hw5 := Whole.grown (HMT.out.blk.alloc _) hgrow hne
                have k1 := hw5.cell 3
                have k2 := hw5.frozen 3
                simp at k1
                have HOWN := Lib.hid hown
                have HAT := Lib.hid hat
                clear hown hat
                go_wp2_with fail
                go_roundg (Q - (q + 1))
                case measure => omega
                case rel =>
                  refine ⟨q + 1, _, by omega, by go_num, by rw [upTo_succ]; exact MT.queues HMT.out HOWN.out hgrow (fun k hk e => HAP.out k hk e), ?_, Nat.le_refl _⟩
                  intro k hk e
                  have e2 : g = k := by simpa [Value.ownBlock] using e
                  rcases HAT.out with h9 | h9
                  · exact HAP.out k hk (by rw [h9, e2])
                  · have := (HMT.out.tab.sems.lt k hk).2
                    omega
              · have hge : ¬ (q : Int) < Q := by omega
                have hjN : Q = q := by omega
                subst hjN
                clear hMT k0 HAP
                obtain ⟨W, rfl⟩ : ∃ W : World, W = wr := ⟨_, rfl⟩
                have hMT : Hid (MT w1 W (manyT N OPS S Q) V1 V2 V3) := HMT.out
                clear HMT
                go_upto_region 22 with fail
                go_cut [15] (fun v wx => wx = W ∧ v = .bool (manyT N OPS S Q).fits)
                case first =>
                  have mf := manyFits (N := N) (OPS := OPS) (S := S) (Q := Q) (by omega) (by omega)
                  by_cases c1 : 1 ≤ (N : Int)
                  · by_cases c2 : (N : Int) ≤ 32
                    · by_cases c3 : (OPS : Int) ≤ 100
                      · by_cases c4 : (S : Int) ≤ 8
                        · by_cases c5 : (Q : Int) ≤ 8
                          · have E : Hid ((manyT N OPS S Q).fits = true) := by show _ = _; rw [mf]; simp; omega
                            clear mf
                            go_wp2_with fail
                            go_meet
                            exact ⟨rfl, by rw [E.out]⟩
                          · have E : Hid ((manyT N OPS S Q).fits = false) := by show _ = _; rw [mf]; simp; omega
                            clear mf
                            go_wp2_with fail
                            go_meet
                            exact ⟨rfl, by rw [E.out]⟩
                        · have E : Hid ((manyT N OPS S Q).fits = false) := by show _ = _; rw [mf]; simp; omega
                          clear mf
                          go_wp2_with fail
                          go_meet
                          exact ⟨rfl, by rw [E.out]⟩
                      · have E : Hid ((manyT N OPS S Q).fits = false) := by show _ = _; rw [mf]; simp; omega
                        have n0 : ((N : Int) == 0) = false := by simp; omega
                        clear mf
                        go_wp2_with fail
                        go_meet
                        exact ⟨rfl, by rw [E.out]⟩
                    · have E : Hid ((manyT N OPS S Q).fits = false) := by show _ = _; rw [mf]; simp; omega
                      clear mf
                      go_wp2_with fail
                      go_meet
                      exact ⟨rfl, by rw [E.out]⟩
                  · have E : Hid ((manyT N OPS S Q).fits = false) := by show _ = _; rw [mf]; simp; omega
                    clear mf
                    go_wp2_with fail
                    go_meet
                    exact ⟨rfl, by rw [E.out]⟩
                case rest =>
                  obtain ⟨rfl, rfl⟩ := hcut
                  obtain ⟨t, ht⟩ : ∃ t, t = manyT N OPS S Q := ⟨_, rfl⟩
                  have mf : Hid (t.fits = decide (1 ≤ N ∧ N ≤ 32 ∧ OPS ≤ 100 ∧ S ≤ 8 ∧ Q ≤ 8)) := by show _ = _; rw [ht]; exact manyFits (by omega) (by omega)
                  rw [← ht] at hMT
                  have htk : Hid (t.tasks = manyTasks N OPS ∧ t.sems = upTo S 0 ∧ t.queues = upTo Q 1) := by show _ ∧ _; rw [ht]; exact ⟨rfl, rfl, rfl⟩
                  rw [← ht]
                  clear ht
                  have hT := hMT.out.tab
                  obtain ⟨A1, n1, hV1, _, _⟩ := hT.len
                  obtain ⟨A2, n2, hV2, _, _⟩ := row_slice hT.sems
                  obtain ⟨A3, n3, hV3, _, _⟩ := row_slice hT.queues
                  subst hV1 hV2 hV3
                  have RD := Lib.hid hT.reads.1
                  clear hT
                  have hblk := hMT.out.blk
                  have k0 := hblk.cell 0
                  have k1 := hblk.cell 1
                  have k2 := hblk.cell 2
                  have k3 := hblk.cell 3
                  simp at k0 k1 k2 k3
                  have HBW := Lib.hid (HB1.out.trans (hMT.out.below.mono hz1))
                  have hzW := HBW.out.size
                  have hblk' := Lib.hid hblk
                  clear hblk hMT
                  go_wp2_with fail
                  refine (check_any RD.out).mono ?_
                  rintro e w2 ⟨rfl, hb2⟩
                  have RD2 := Lib.hid ((RD.out.below hb2 (Nat.le_refl _)).more hb2.size)
                  have hblk2 := hblk'.out.same (hb2.block _ hblk'.out.lt)
                  have g0 := hblk2.cell 0
                  have g1 := hblk2.cell 1
                  have g2 := hblk2.cell 2
                  have g3 := hblk2.cell 3
                  simp at g0 g1 g2 g3
                  have HB2 := Lib.hid (HBW.out.trans (hb2.mono hzW))
                  have hz2 := HB2.out.size
                  clear k0 k1 k2 k3 hb2 hblk2
                  rcases hf : t.fits with _ | _
                  · rw [chk_no hf]
                    have HF := Lib.hid hf
                    clear hf
                    go_wp2_with fail
                    refine (text_any RD2.out (HP.out.below HB2.out)).mono ?_
                    rintro e w3 ⟨rfl, hb3, hl3⟩
                    obtain ⟨X, hX⟩ : ∃ X : ByteArray, X = ⟨(Tk.text t).toArray⟩ := ⟨_, rfl⟩
                    have hXs : X.size ≤ 900000 := by rw [← bytesOf_len, hX, bytesOf_mk]; omega
                    rw [← hX]
                    have HB3 := Lib.hid (HB2.out.trans (hb3.mono hz2))
                    have hz3 := HB3.out.size
                    have m3 := Lib.hid ((HB3.out.cell (p := ⟨0, 0, none⟩) hz0).trans HM.out)
                    clear hX hb3
                    go_wp2_with fail
                    refine (parse_any X w3 hXs m0 m3.out).mono ?_
                    rintro e w4 ⟨U1, U2, U3, rfl, hu, hb4⟩
                    obtain ⟨U, hU⟩ : ∃ U, Tk.parse (bytesOf X) = U := ⟨_, rfl⟩
                    rw [hU] at hu ⊢
                    obtain ⟨u, uat, uer⟩ := U
                    dsimp only at hu ⊢
                    clear hU
                    obtain ⟨B1, j1, hU1, _, _⟩ := hu.len
                    obtain ⟨B2, j2, hU2, _, _⟩ := row_slice hu.sems
                    obtain ⟨B3, j3, hU3, _, _⟩ := row_slice hu.queues
                    subst hU1 hU2 hU3
                    have HB4 := Lib.hid (HB3.out.trans (hb4.mono hz3))
                    clear hu hb4
                    go_wp2_with fail
                    refine (num_any 20 _).mono ?_
                    rintro e w5 ⟨rfl, rfl⟩
                    go_wp2_with fail
                    go_ret
                    exact ⟨rfl, HB4.out.alloc (by have := HB4.out.size; omega) _⟩
                  · rw [chk_yes hf]
                    have HF := Lib.hid hf
                    have hq := of_decide_eq_true (mf.out.symm.trans hf)
                    clear hf
                    obtain ⟨M, hM⟩ : ∃ M, N = M + 1 := ⟨N - 1, by omega⟩
                    subst hM
                    go_wp2_with fail
                    refine (text_any RD2.out (HP.out.below HB2.out)).mono ?_
                    rintro e w3 ⟨rfl, hb3, hl3⟩
                    obtain ⟨X, hX⟩ : ∃ X : ByteArray, X = ⟨(Tk.text t).toArray⟩ := ⟨_, rfl⟩
                    have hXs : X.size ≤ 900000 := by rw [← bytesOf_len, hX, bytesOf_mk]; omega
                    have hXp : Tk.parse (bytesOf X) = (t, 0, 0) := by rw [hX, bytesOf_mk]; exact Tk.parse_text HF.out
                    have HXP := Lib.hid hXp
                    rw [← hX]
                    have HB3 := Lib.hid (HB2.out.trans (hb3.mono hz2))
                    have hz3 := HB3.out.size
                    have m3 := Lib.hid ((HB3.out.cell (p := ⟨0, 0, none⟩) hz0).trans HM.out)
                    clear hX hb3 hXp
                    go_wp2_with fail
                    refine (parse_any X w3 hXs m0 m3.out).mono ?_
                    rintro e w4 ⟨U1, U2, U3, rfl, hu, hb4⟩
                    rw [HXP.out] at hu ⊢
                    dsimp only at hu ⊢
                    have hlt : t.tasks.length = M + 1 := by rw [htk.out.1, manyTasks_len]
                    obtain ⟨B1, j1, hU1, _, _⟩ := hu.len
                    obtain ⟨B2, j2, hU2, _, _⟩ := row_slice hu.sems
                    obtain ⟨B3, j3, hU3, _, _⟩ := row_slice hu.queues
                    subst hU1 hU2 hU3
                    obtain ⟨ad, A, c, eA, had, -, hc1, -, -⟩ := hu.reads.1.task M (by omega)
                    subst eA
                    have hop : t.tasks[M].ops.length = OPS := by
                      have e1 : t.tasks[M]? = some ⟨0, List.replicate OPS ⟨1, 0, 0⟩⟩ := by
                        rw [htk.out.1]
                        show (List.replicate M _ ++ [_])[M]? = _
                        rw [List.getElem?_append_right (by simp)]
                        simp
                      rw [List.getElem?_eq_getElem (by omega)] at e1
                      rw [Option.some.inj e1]
                      simp
                    rw [hop] at hc1
                    have hls : t.sems.length = S := by rw [htk.out.2.1, upTo_len]
                    have hlq : t.queues.length = Q := by rw [htk.out.2.2, upTo_len]
                    rw [hlt, hls, hlq]
                    have HB4 := Lib.hid (HB3.out.trans (hb4.mono hz3))
                    have hz4 := HB4.out.size
                    clear hu hb4 hlt hls hlq hop
                    have hc1' : w4.cell? ⟨(ad.add (M * 2)).block, (ad.add (M * 2)).off + 1, none⟩ = some (.slice A OPS c) := by rw [← add_pos _ 1 (by decide), add_of_add]; exact hc1
                    have hbl : (ad.add (M * 2)).block < w4.heap.size := by rw [block_of_add]; exact had
                    have hwM : IntKind.i64.wrap (M : Int) = M := by rw [IntKind.wrap_i64]; omega
                    have ib1 : (M : Int) < (M : Int) + 1 := by omega
                    have ib0 : (0 : Int) ≤ (M : Int) := by omega
                    go_wp2_with fail
                    refine (num_any 0 _).mono ?_
                    rintro e w5 ⟨rfl, rfl⟩
                    go_wp2_with fail
                    refine (num_any 0 _).mono ?_
                    rintro e w5 ⟨rfl, rfl⟩
                    go_wp2_with fail
                    go_ret
                    exact ⟨rfl, HB4.out.alloc (by omega) _⟩
end Go.Proofs.YtadcfedjmofjjaaDoor
