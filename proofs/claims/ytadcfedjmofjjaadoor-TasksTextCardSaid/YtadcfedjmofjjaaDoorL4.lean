/-
  The table of a text: the walk of the given Parse.
-/
import Derived.Test.YtadcfedjmofjjaaDoorL3
import Derived.Test.YtadcfedjmofjjaaDoorLinesP
import Derived.Test.YtadcfedjmofjjaaDoorShelf
import Derived.Test.YtadcfedjmofjjaaDoorC4
namespace Go.Proofs.YtadcfedjmofjjaaDoor
open Go.RowKit
/-- The answer of Parse: a table in memory of its own, a line, an error. -/
def ParsePost (w : World) (s : List UInt8) (e : Ending) (w' : World) : Prop :=
  ∃ V1 V2 V3, e = .returned (.tuple #[.agg #[V1, V2, .int .i64 (Tk.parse s).1.mutexes, V3], .int .i64 (Tk.parse s).2.1, .int .i64 (Tk.parse s).2.2]) ∧ Tab w' w.heap.size V1 V2 V3 (Tk.parse s).1 ∧ Below w.heap.size w w'
theorem parse_bad {s : List UInt8} {i : Nat} (h : Tk.linesRun (Tk.lines s) 1 Tk.Table.none 0 = .inr i) : Tk.parse s = (Tk.Table.none, (i : Int), 3) := by
  unfold Tk.parse
  rw [h]
theorem parse_few {s : List UInt8} {t : Tk.Table} {st : Nat} (h : Tk.linesRun (Tk.lines s) 1 Tk.Table.none 0 = .inl (t, st)) (h3 : st < 3) : Tk.parse s = (Tk.Table.none, ((Tk.lines s).length : Int) + 1, 3) := by
  unfold Tk.parse
  rw [h]
  dsimp only
  rw [if_pos h3]
theorem parse_not {s : List UInt8} {t : Tk.Table} {st : Nat} (h : Tk.linesRun (Tk.lines s) 1 Tk.Table.none 0 = .inl (t, st)) (h3 : ¬ st < 3) (hf : t.fits = false) : Tk.parse s = (Tk.Table.none, 0, 20) := by
  unfold Tk.parse
  rw [h]
  dsimp only
  rw [if_neg h3, if_neg (by rw [hf]; decide)]
theorem parse_yes {s : List UInt8} {t : Tk.Table} {st : Nat} (h : Tk.linesRun (Tk.lines s) 1 Tk.Table.none 0 = .inl (t, st)) (h3 : ¬ st < 3) (hf : t.fits = true) : Tk.parse s = (t, 0, 0) := by
  unfold Tk.parse
  rw [h]
  dsimp only
  rw [if_neg h3, if_pos hf]
theorem Tab.mono {w : World} {B B' : Nat} {V1 V2 V3 : Value} {t : Tk.Table} (h : Tab w B V1 V2 V3 t) (hB : B' ≤ B) : Tab w B' V1 V2 V3 t := by
  obtain ⟨⟨l, e, hl⟩, h2, h3⟩ := h
  exact ⟨⟨l, e, row_mono hl.row hB, fun x hx => row_mono (hl.ops x hx) hB, hl.apart⟩, row_mono h2 hB, row_mono h3 hB⟩
theorem Bd.more {t : Tk.Table} {n m : Nat} (h : Bd t n) (hn : n ≤ m) : Bd t m := ⟨Nat.le_trans h.1 hn, fun x hx => Nat.le_trans (h.2 x hx) hn⟩
theorem trim_get {P : List (List UInt8)} {i : Nat} (h : i < (trim P).length) : (trim P)[i]? = P[i]? ∧ i < P.length := by
  unfold trim at h ⊢
  split at h
  · rename_i hq
    rw [if_pos hq]
    rw [List.length_dropLast] at h
    refine ⟨?_, by omega⟩
    rw [List.getElem?_dropLast, if_pos (by omega)]
  · rename_i hq
    rw [if_neg hq]
    exact ⟨rfl, h⟩
theorem trim_mem {P : List (List UInt8)} {x : List UInt8} (h : x ∈ trim P) : x ∈ P := by
  unfold trim at h
  split at h
  · exact (List.dropLast_sublist P).subset h
  · exact h
theorem RMem.start {w : World} {p : Nat} (h : Whole w p 53 #[.slice none 0 0, .slice none 0 0, .int .i64 0, .slice none 0 0, .int .i64 0]) : RMem w p Tk.Table.none 0 := ⟨_, _, _, h, Tab.nil w (p + 1)⟩
/-- What the loop over the lines leaves. -/
def ParseRel (W0 : World) (p : Nat) (s : List UInt8) (k : Nat) (iv : Value) (wr : World) : Prop :=
  ∃ (i : Nat) (t : Tk.Table) (st : Nat), iv = .int .i64 i ∧ i ≤ (Tk.lines s).length ∧ RMem wr p t st ∧ st ≤ 3 ∧ Bd t i ∧ Tk.linesRun ((Tk.lines s).drop i) (i + 1) t st = Tk.linesRun (Tk.lines s) 1 Tk.Table.none 0 ∧ Below p W0 wr ∧ (Tk.lines s).length - i ≤ k
set_option maxRecDepth 100000 in
set_option maxHeartbeats 8000000 in
theorem parse_any (s : ByteArray) (w : World) (hs : s.size ≤ 900000) (m0 : Int) (hm : w.cell? ⟨0, 0, none⟩ = some (.int .i64 m0)) : Calls Tryd.prog 9 #[.string s] w (ParsePost w (bytesOf s)) := by
  have hz0 : 0 < w.heap.size := block_lt_of_cell hm
  obtain ⟨P, hP⟩ : ∃ P, P = parts (bytesOf s) := ⟨_, rfl⟩
  have hpl := parts_len (bytesOf s)
  rw [← hP, bytesOf_len] at hpl
  have hlt := lines_parts (bytesOf s)
  rw [← hP] at hlt
  have HP := Lib.hid hP
  have HLT := Lib.hid hlt
  clear hP hlt
  obtain ⟨hpl1, hpl2⟩ := hpl
  go_enter Tryd.func9, Tryd.ntmps9
  go_wp2_with fail
  refine (Tryd.strings_Split s ⟨#[10]⟩ m0 _ (by omega) ?_ (by decide)).mono ?_
  · rw [World.cell?_alloc_lt _ _ _ hz0]; exact hm
  rintro e w1 ⟨rfl, hw1⟩
  have e1 : Lib.countB s ⟨#[10]⟩ + 1 = P.length := by rw [HP.out]; exact split_count s
  have e2 := split_vals s
  rw [← HP.out] at e2
  rw [e2] at hw1
  rw [e1]
  clear e1 e2
  obtain ⟨M, hM⟩ : ∃ M, P.length = M + 1 := ⟨P.length - 1, by omega⟩
  obtain ⟨x0, hx0⟩ : ∃ x0, P.getLast? = some x0 := by
    rcases hq : P.getLast? with _ | x0
    · rw [List.getLast?_eq_none_iff] at hq
      rw [hq] at hM
      simp at hM
    · exact ⟨x0, rfl⟩
  have hgx : P[M]? = some x0 := by
    rw [List.getLast?_eq_getElem?, hM] at hx0
    simpa using hx0
  have gw : (w.alloc (.cells #[.slice none 0 0, .slice none 0 0, .int .i64 0, .slice none 0 0] 26)).heap.size = w.heap.size + 1 := by simp
  have res : Whole w1 w.heap.size 26 #[.slice none 0 0, .slice none 0 0, .int .i64 0, .slice none 0 0] := by rw [hw1]; exact (Whole.made w 26 _).alloc _
  have arr : Whole w1 (w.heap.size + 1) 9 (P.map strV).toArray := by rw [hw1]; have := Whole.made (w.alloc (.cells #[.slice none 0 0, .slice none 0 0, .int .i64 0, .slice none 0 0] 26)) 9 (P.map strV).toArray; rw [gw] at this; exact this
  have bw1 : Below w.heap.size w w1 := by rw [hw1]; exact ((Below.refl _ _).alloc (Nat.le_refl _) _).alloc (by simp) _
  have z1 : w1.heap.size = w.heap.size + 2 := by rw [hw1]; simp
  rw [gw, hM]
  have cl := arr.cell M
  rw [List.getElem?_toArray, List.getElem?_map, hgx] at cl
  obtain ⟨S, hS⟩ : ∃ S : ByteArray, S = ⟨x0.toArray⟩ := ⟨_, rfl⟩
  have cl' : w1.cell? ⟨w.heap.size + 1, M, none⟩ = some (.string S) := by rw [cl, hS]; rfl
  have hSl : S.toList = x0 := by rw [ByteArray.toList_eq, hS]
  have HM := Lib.hid hM
  have HX := Lib.hid hx0
  have HSL := Lib.hid hSl
  have Z1 := Lib.hid z1
  have hMb : M ≤ 900000 := by omega
  clear hM hx0 hgx gw hw1 cl hS hSl z1
  go_upto_if 19 with (fail)
  obtain ⟨K, hK⟩ : ∃ K, K = (Tk.lines (bytesOf s)).length := ⟨_, rfl⟩
  have HK := Lib.hid hK
  clear hK
  go_cut [5] (fun v wx => v = .slice (some ⟨w.heap.size + 1, 0, none⟩) K (M + 1) ∧ wx = w1)
  case first =>
    by_cases hx : x0 = []
    · have e1 : S.toList.isEmpty = true := by rw [HSL.out, hx]; rfl
      have e3 : S.toList = [] := by rw [HSL.out, hx]
      have e2 : Hid (K = M) := by
        show _ = _
        rw [HK.out, HLT.out]
        unfold trim
        rw [if_pos (by rw [HX.out, hx]), List.length_dropLast, HM.out]
        omega
      clear hx
      rw [e1]
      go_wp2_with fail
      go_meet
      exact ⟨by rw [e2.out], rfl⟩
    · have e1 : S.toList.isEmpty = false := by rw [HSL.out]; simpa using hx
      have e3 : ¬ S.toList = [] := by rw [HSL.out]; exact hx
      have e2 : Hid (K = M + 1) := by
        show _ = _
        rw [HK.out, HLT.out]
        unfold trim
        rw [if_neg (by rw [HX.out]; simpa using hx), HM.out]
      clear hx
      rw [e1]
      go_wp2_with fail
      go_meet
      exact ⟨by rw [e2.out], rfl⟩
  case rest =>
  obtain ⟨rfl, ew⟩ := hcut
  have ew' := ew.symm
  subst ew'
  have hKM : K ≤ 900001 := by
    have h1 := HK.out
    rw [HLT.out] at h1
    have h2 : (trim P).length ≤ P.length := by unfold trim; split <;> simp
    have h3 := HM.out
    omega
  have cells : ∀ i x, (Tk.lines (bytesOf s))[i]? = some x → w1.cell? ⟨w.heap.size + 1, i, none⟩ = some (strV x) := by
    intro i x hx
    rw [HLT.out] at hx
    have hi : i < (trim P).length := (List.getElem?_eq_some_iff.1 hx).1
    obtain ⟨t1, t2⟩ := trim_get hi
    rw [t1] at hx
    rw [arr.cell i, List.getElem?_toArray, List.getElem?_map, hx]
    rfl
  have lens : ∀ x ∈ Tk.lines (bytesOf s), x.length ≤ 1000000 := by
    intro x hx
    rw [HLT.out] at hx
    have := parts_mem (l := bytesOf s) (x := x) (by rw [← HP.out]; exact trim_mem hx)
    rw [bytesOf_len] at this
    omega
  have CELLS := Lib.hid cells
  have LENS := Lib.hid lens
  obtain ⟨W0, hW0⟩ : ∃ W0, W0 = w1.alloc (.cells #[.slice none 0 0, .slice none 0 0, .int .i64 0, .slice none 0 0, .int .i64 0] 53) := ⟨_, rfl⟩
  have hst : RMem W0 w1.heap.size Tk.Table.none 0 := by rw [hW0]; exact RMem.start (Whole.made w1 53 _)
  have hbW : Below w1.heap.size w1 W0 := by rw [hW0]; exact (Below.refl _ _).alloc (Nat.le_refl _) _
  have HW0 := Lib.hid hW0
  have HST := Lib.hid hst
  clear cells lens hW0 hst cl' arr
  go_wp2_with fail
  rw [← HW0.out]
  go_loopg [27] K (fun k iv wr => ParseRel W0 w1.heap.size (bytesOf s) k iv wr)
  case atStart => exact ⟨0, _, 0, rfl, Nat.zero_le _, HST.out, by omega, ⟨Nat.le_refl _, fun x hx => by simp [Tk.Table.none] at hx⟩, rfl, Below.refl _ _, by rw [← HK.out]; omega⟩
  case round =>
    obtain ⟨i, t, st, rfl, hi, hr, hst3, hbd, hrun, hb, hk⟩ := hrel
    have hbw := hbW.trans hb
    have z1 := Z1.out
    have hzr := hb.size
    have hzw := hbw.size
    have res2 := res.same (hbw.block w.heap.size (by omega))
    have r0 := res2.cell 0
    have r1 := res2.cell 1
    have r2 := res2.cell 2
    have r3 := res2.cell 3
    have f0 := res2.frozen 0
    have f1 := res2.frozen 1
    have f2 := res2.frozen 2
    have f3 := res2.frozen 3
    simp at r0 r1 r2 r3
    have bwr : Below w.heap.size w wr := bw1.trans (hbw.mono (by omega))
    have hKK := HK.out
    by_cases hlt : i < K
    · have hlt' : (i : Int) < K := by omega
      have hiL : i < (Tk.lines (bytesOf s)).length := by omega
      obtain ⟨x, hx⟩ : ∃ x, x = (Tk.lines (bytesOf s))[i] := ⟨_, rfl⟩
      have hxg : (Tk.lines (bytesOf s))[i]? = some x := by rw [hx]; exact List.getElem?_eq_getElem hiL
      have hxl : (⟨x.toArray⟩ : ByteArray).size ≤ 1000000 := by rw [size_str]; exact LENS.out x (by rw [hx]; exact List.getElem_mem _)
      have cx := (hbw.cell (p := ⟨w.heap.size + 1, i, none⟩) (by show w.heap.size + 1 < _; omega)).trans (CELLS.out i x hxg)
      have cx' : wr.cell? ⟨w.heap.size + 1, i, none⟩ = some (.string ⟨x.toArray⟩) := cx
      have hlc := linesRun_cons (ls := Tk.lines (bytesOf s)) (i := i + 1) (t := t) (st := st) hiL
      rw [hrun, ← hx] at hlc
      have hbd' : Bd t 1000000 := hbd.more (by omega)
      have HLC := Lib.hid hlc
      have HBD := Lib.hid hbd
      have HBD' := Lib.hid hbd'
      have HR := Lib.hid hr
      have HZ1 := Lib.hid z1
      clear hKK hx hxg cx hlc hrun hbd hbd' hr z1
      go_wp2_with fail
      refine (line_any HR.out hst3 _ hxl HBD'.out).mono ?_
      rintro e w2 ⟨b2, hm⟩
      rw [bytesOf_str] at hm
      have hb2 := hb.trans b2
      have hln : ∀ t' st', Tk.line t st x = some (t', st') → Bd t' (i + 1) ∧ st' ≤ 3 := fun t' st' h => line_bd hst3 HBD.out h
      have HLN := Lib.hid hln
      clear hln
      generalize hat : Tk.line t st x = at_ at hm
      rcases at_ with _ | ⟨t', st'⟩
      · have hm' : e = .returned (.bool false) := hm
        subst hm'
        have PE := Lib.hid (parse_bad (s := bytesOf s) (i := i + 1) (by have := HLC.out; rw [hat] at this; exact this))
        clear hm hat
        have res3 := res2.same (b2.block w.heap.size (by have := HZ1.out; omega))
        have r0 := res3.cell 0
        have r1 := res3.cell 1
        have r2 := res3.cell 2
        have r3 := res3.cell 3
        have f0 := res3.frozen 0
        have f1 := res3.frozen 1
        have f2 := res3.frozen 2
        have f3 := res3.frozen 3
        simp at r0 r1 r2 r3
        go_wp2_with fail
        refine bodyPost_ret (v := .tuple #[.agg #[.slice none 0 0, .slice none 0 0, .int .i64 0, .slice none 0 0], .int .i64 (i + 1), .int .i64 3]) (by simp [results, Tryd.results9, go_sem, r0, r1, r2, r3]) rfl ?_
        unfold ParsePost
        rw [PE.out]
        refine ⟨_, _, _, rfl, Tab.nil _ _, ?_⟩
        exact ((((bwr.trans (b2.mono (by have := HZ1.out; omega))).setCell (Nat.le_refl _) _).setCell (Nat.le_refl _) _).setCell (Nat.le_refl _) _).setCell (Nat.le_refl _) _
      · have hm' : e = .returned (.bool true) ∧ RMem w2 w1.heap.size t' st' := hm
        obtain ⟨rfl, hm2⟩ := hm'
        have PE := Lib.hid (by have := HLC.out; rw [hat] at this; exact this)
        obtain ⟨q1, q2⟩ := HLN.out t' st' hat
        clear hm hat
        go_wp2_with fail
        go_roundg (K - (i + 1))
        case measure => have := HK.out; omega
        case rel => exact ⟨i + 1, t', st', by go_num, by omega, hm2, q2, q1, PE.out.symm, hb2, by rw [← HK.out]; exact Nat.le_refl _⟩
    · have hge : ¬ (i : Int) < K := by omega
      have hrun2 : Tk.linesRun (Tk.lines (bytesOf s)) 1 Tk.Table.none 0 = .inl (t, st) := by
        rw [← hrun, List.drop_of_length_le (by omega)]
        rfl
      obtain ⟨V1, V2, V3, hw, ht⟩ := hr
      obtain ⟨A1, n1, hV1, _, _⟩ := ht.len
      obtain ⟨A2, n2, hV2, _, _⟩ := row_slice ht.sems
      obtain ⟨A3, n3, hV3, _, _⟩ := row_slice ht.queues
      subst hV1 hV2 hV3
      have k0 := hw.cell 0
      have k1 := hw.cell 1
      have k2 := hw.cell 2
      have k3 := hw.cell 3
      have k4 := hw.cell 4
      simp at k0 k1 k2 k3 k4
      have hpz := hw.lt
      have HT := Lib.hid ht
      have HRUN := Lib.hid hrun2
      have HZ1 := Lib.hid z1
      clear hKK hrun hrun2 hbd hw ht z1
      by_cases h3 : st < 3
      · have h3' : (st : Int) < 3 := by omega
        have PE := Lib.hid (parse_few HRUN.out h3)
        have HK' : Hid ((Tk.lines (bytesOf s)).length = K) := HK.out.symm
        clear h3
        go_wp2_with fail
        refine bodyPost_ret (v := .tuple #[.agg #[.slice none 0 0, .slice none 0 0, .int .i64 0, .slice none 0 0], .int .i64 (K + 1), .int .i64 3]) (by simp [results, Tryd.results9, go_sem, r0, r1, r2, r3]) rfl ?_
        unfold ParsePost
        rw [PE.out, HK'.out]
        exact ⟨_, _, _, rfl, Tab.nil _ _, (((bwr.setCell (Nat.le_refl _) _).setCell (Nat.le_refl _) _).setCell (Nat.le_refl _) _).setCell (Nat.le_refl _) _⟩
      · have h3' : ¬ (st : Int) < 3 := by omega
        have RD := Lib.hid (HT.out.reads).1
        go_wp2_with fail
        refine (check_any RD.out).mono ?_
        rintro e w2 ⟨rfl, b2⟩
        have res3 := res2.same (b2.block w.heap.size (by have := HZ1.out; omega))
        have r0 := res3.cell 0
        have r1 := res3.cell 1
        have r2 := res3.cell 2
        have r3 := res3.cell 3
        have f0 := res3.frozen 0
        have f1 := res3.frozen 1
        have f2 := res3.frozen 2
        have f3 := res3.frozen 3
        simp at r0 r1 r2 r3
        have bw2 := bwr.trans (b2.mono bwr.size)
        rcases hf : t.fits with _ | _
        · have PE := Lib.hid (parse_not HRUN.out h3 hf)
          rw [chk_no hf]
          clear hf h3
          go_wp2_with fail
          refine bodyPost_ret (v := .tuple #[.agg #[.slice none 0 0, .slice none 0 0, .int .i64 0, .slice none 0 0], .int .i64 0, .int .i64 20]) (by simp [results, Tryd.results9, go_sem, r0, r1, r2, r3]) rfl ?_
          unfold ParsePost
          rw [PE.out]
          exact ⟨_, _, _, rfl, Tab.nil _ _, (((bw2.setCell (Nat.le_refl _) _).setCell (Nat.le_refl _) _).setCell (Nat.le_refl _) _).setCell (Nat.le_refl _) _⟩
        · have PE := Lib.hid (parse_yes HRUN.out h3 hf)
          rw [chk_yes hf]
          have q0 := (b2.cell (p := ⟨w1.heap.size, 0, none⟩) hpz).trans k0
          have q1 := (b2.cell (p := ⟨w1.heap.size, 1, none⟩) hpz).trans k1
          have q2 := (b2.cell (p := ⟨w1.heap.size, 2, none⟩) hpz).trans k2
          have q3 := (b2.cell (p := ⟨w1.heap.size, 3, none⟩) hpz).trans k3
          have hpne : w1.heap.size ≠ w.heap.size := by have := HZ1.out; omega
          have hpne' : w.heap.size ≠ w1.heap.size := by omega
          clear hf h3 k0 k1 k2 k3 k4
          go_wp2_with fail
          refine bodyPost_ret (v := .tuple #[.agg #[.slice A1 t.tasks.length n1, .slice A2 t.sems.length n2, .int .i64 t.mutexes, .slice A3 t.queues.length n3], .int .i64 0, .int .i64 0]) (by simp [results, Tryd.results9, go_sem, r0, r1, r2, r3]) rfl ?_
          unfold ParsePost
          rw [PE.out]
          refine ⟨_, _, _, rfl, ?_, (((bw2.setCell (Nat.le_refl _) _).setCell (Nat.le_refl _) _).setCell (Nat.le_refl _) _).setCell (Nat.le_refl _) _⟩
          have htm := (HT.out.below b2 (Nat.le_refl _)).mono (B' := w.heap.size + 1) (by have := HZ1.out; omega)
          exact ((((htm.far (p := ⟨w.heap.size, 0, none⟩) (Nat.lt_succ_self _) _).far (p := ⟨w.heap.size, 1, none⟩) (Nat.lt_succ_self _) _).far (p := ⟨w.heap.size, 2, none⟩) (Nat.lt_succ_self _) _).far (p := ⟨w.heap.size, 3, none⟩) (Nat.lt_succ_self _) _).mono (by omega)
end Go.Proofs.YtadcfedjmofjjaaDoor
