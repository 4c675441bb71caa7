/-
  An operation's line: the walk of the given reader's op.
-/
import Derived.Test.YtadcfedjmofjjaaDoorL1
import Derived.Deep.RegionLaw
import Derived.Deep.RegionHeld3
import Derived.Deep.LoopGhost
namespace Go.Proofs.YtadcfedjmofjjaaDoor
open Go.RowKit
def opT (t : Tk.Table) (wd : List UInt8) (ns : List Int) : Option Tk.Table :=
  if t.tasks = [] then none else match Tk.kindOf wd ns.length with
  | some k => some { t with tasks := Tk.addOp t.tasks ⟨k, ns.getD 0 0, ns.getD 1 0⟩ }
  | none => none
def OpPost (w : World) (p : Nat) (t : Tk.Table) (st : Nat) (wd : List UInt8) (ns : List Int) (e : Ending) (w' : World) : Prop :=
  Below p w w' ∧ match opT t wd ns with
  | some t' => e = .returned (.bool true) ∧ RMem w' p t' st
  | none => e = .returned (.bool false)
/-- No operation ahead of the k-th is it. -/
def NotYet (wd : List UInt8) (n k : Nat) : Prop := ∀ j (h : j < 15), j < k → ¬ ((shapes[j]'h).name = wd ∧ (shapes[j]'h).parts = n)
theorem names_at (k : Nat) (h1 : k < Tk.names.length) (hk : k < 15) : Tk.names[k]'h1 = ((shapes[k]'hk).name, (shapes[k]'hk).parts) := by
  have hk' : k = 0 ∨ k = 1 ∨ k = 2 ∨ k = 3 ∨ k = 4 ∨ k = 5 ∨ k = 6 ∨ k = 7 ∨ k = 8 ∨ k = 9 ∨ k = 10 ∨ k = 11 ∨ k = 12 ∨ k = 13 ∨ k = 14 := by omega
  rcases hk' with rfl | rfl | rfl | rfl | rfl | rfl | rfl | rfl | rfl | rfl | rfl | rfl | rfl | rfl | rfl <;> rfl
theorem kind_found {wd : List UInt8} {n k : Nat} (hk : k < 15) (h : NotYet wd n k) (h1 : (shapes[k]'hk).name = wd) (h2 : (shapes[k]'hk).parts = n) : Tk.kindOf wd n = some k := by
  unfold Tk.kindOf
  rw [List.findIdx?_eq_some_iff_getElem]
  refine ⟨hk, decide_eq_true (by rw [names_at k hk hk, h1, h2]), fun j hj => ?_⟩
  intro e
  have e := of_decide_eq_true e
  have hj15 : j < 15 := by omega
  have e' := (names_at j hj15 hj15).symm.trans e
  injection e' with e1 e2
  exact h j (by omega) hj ⟨e1, e2⟩
theorem kind_none {wd : List UInt8} {n : Nat} (h : NotYet wd n 15) : Tk.kindOf wd n = none := by
  unfold Tk.kindOf
  rw [List.findIdx?_eq_none_iff]
  intro x hx
  obtain ⟨k, hk, rfl⟩ := List.mem_iff_getElem.1 hx
  have hk' : k < 15 := hk
  refine decide_eq_false fun e => ?_
  have e' := (names_at k hk hk').symm.trans e
  injection e' with e1 e2
  exact h k hk' hk' ⟨e1, e2⟩
theorem NotYet.succ {wd : List UInt8} {n k : Nat} (hk : k < 15) (h : NotYet wd n k) (hn : ¬ ((shapes[k]'hk).name = wd ∧ (shapes[k]'hk).parts = n)) : NotYet wd n (k + 1) := by
  intro j hj hjk
  by_cases e : j = k
  · subst e; exact hn
  · exact h j hj (by omega)
theorem parts_le (k : Nat) (hk : k < 15) : (shapes[k]'hk).parts ≤ 2 := by
  have hk' : k = 0 ∨ k = 1 ∨ k = 2 ∨ k = 3 ∨ k = 4 ∨ k = 5 ∨ k = 6 ∨ k = 7 ∨ k = 8 ∨ k = 9 ∨ k = 10 ∨ k = 11 ∨ k = 12 ∨ k = 13 ∨ k = 14 := by omega
  rcases hk' with rfl | rfl | rfl | rfl | rfl | rfl | rfl | rfl | rfl | rfl | rfl | rfl | rfl | rfl | rfl <;> exact Nat.le_of_ble_eq_true rfl
theorem info34 : (Tryd.prog.info? 34).map (fun i => (i.zero, i.size, i.bytes)) = some (some (.agg #[.int .i64 0, .int .i64 0, .int .i64 0]), 3, 24) := by kernel_rfl
theorem info32 : (Tryd.prog.info? 32).map (fun i => (i.zero, i.size, i.bytes)) = some (some (.agg #[.int .i64 0, .slice none 0 0]), 2, 32) := by kernel_rfl
/-- The tasks, the last one apart. -/
theorem Tab.last {w : World} {B : Nat} {V1 V2 V3 : Value} {t : Tk.Table} (h : Tab w B V1 V2 V3 t) (hn : t.tasks ≠ []) :
    ∃ l x hv g c, Tasks w B V1 (l ++ [(x, hv)]) ∧ t.tasks = l.map Prod.fst ++ [x] ∧ V1 = .slice (some ⟨g, 0, none⟩) (l.length + 1) c := by
  obtain ⟨l, e, hl⟩ := h.tasks
  have hne : l ≠ [] := by rintro rfl; exact hn e.symm
  obtain ⟨l0, y, rfl⟩ : ∃ l0 y, l = l0 ++ [y] := ⟨l.dropLast, l.getLast hne, (List.dropLast_concat_getLast hne).symm⟩
  obtain ⟨x, hv⟩ := y
  obtain ⟨g, cap, q, _, _⟩ := hl.row.form (by simp)
  refine ⟨l0, x, hv, g, cap, hl, by rw [← e]; simp, ?_⟩
  rw [q]
  simp
theorem addOp_last (l : List Tk.Task) (x : Tk.Task) (o : Tk.Op) : Tk.addOp (l ++ [x]) o = l ++ [{ x with ops := x.ops ++ [o] }] := by
  unfold Tk.addOp
  rw [List.dropLast_concat, List.getLast?_concat]
theorem row_grown {w w1 w' : World} {base : Nat} {e : TypeId} {size n : Nat} {v : Value} {xs : List Value} {row : Option Nat} (h : w.ownsRow base e size v n xs) (hg : w1.grownBy w' row) (hs : ∀ k, k < w.heap.size → w1.heap[k]? = w.heap[k]?) (hz : w.heap.size ≤ w1.heap.size)
    (hne : ∀ k, v.ownBlock = some k → row ≠ some k) : w'.ownsRow base e size v n xs :=
  row_same h fun k hk => by
    have hlt := (h.lt k hk).2
    rw [hg.block k (by omega) (fun e => hne k hk e.symm), hs k hlt]
theorem keep_row {w wr w1 w5 : World} {base g i : Nat} {e : TypeId} {size n : Nat} {v : Value} {xs : List Value} {row : Option Nat} (h : w.ownsRow base e size v n xs) (hb : Below w.heap.size w wr) (hs : ∀ k, k < wr.heap.size → w1.heap[k]? = wr.heap[k]?)
    (hz : wr.heap.size ≤ w1.heap.size) (hg : w1.grownBy w5 row) (hne : ∀ k, v.ownBlock = some k → row ≠ some k) (hgn : v.ownBlock ≠ some g) (u : Value) : (w5.setCell ⟨g, i, none⟩ u).ownsRow base e size v n xs :=
  row_same h fun k hk => by
    have hlt := (h.lt k hk).2
    have hz1 := hb.size
    rw [Below.heap_setCell _ _ _ _ (fun e => hgn (by rw [hk]; congr 1)), hg.block k (by omega) (fun e => hne k hk e.symm), hs k (by omega), hb.block k hlt]
theorem last_cell {w : World} {B g c : Nat} {l : List (Tk.Task × Value)} {x : Tk.Task} {hv : Value} (h : w.ownsRow B 32 2 (.slice (some ⟨g, 0, none⟩) (l.length + 1) c) (l.length + 1) ((l ++ [(x, hv)]).flatMap taskC)) :
    w.cell? ⟨g, l.length * 2 + 1, none⟩ = some hv ∧ w.frozen? ⟨g, l.length * 2 + 1, none⟩ = false := by
  have r1 := h.cellAt (l.length * 2 + 1) (by omega)
  have r2 := taskC_at (l ++ [(x, hv)]) l.length 1 (by simp) (by omega)
  have r3 : (l ++ [(x, hv)])[l.length]'(by simp) = (x, hv) := by simp
  rw [r3] at r2
  exact ⟨r1.trans (r2.trans rfl), h.frozenAt _⟩
/-- What an operation's two numbers are, behind so many of them. -/
def oaAt (ns : List Int) (m : Nat) : Int := if 0 < m then ns.getD 0 0 else 0
def obAt (ns : List Int) (m : Nat) : Int := if 1 < m then ns.getD 1 0 else 0
section
variable {w : World} {p : Nat} {t : Tk.Table} {st : Nat} {wd : List UInt8} {ws : List (List UInt8)} {ns : List Int} {A : Option Addr} {n c : Nat} {lv : Value}
set_option maxRecDepth 100000 in
set_option maxHeartbeats 4000000 in
theorem op_none (h : RMem w p t st) (hn : t.tasks = []) :
    Calls Tryd.prog 41 #[.pointer (some ⟨p, 0, none⟩), .slice A n c, lv] w (OpPost w p t st wd ns) := by
  obtain ⟨V1, V2, V3, hw, ht⟩ := h
  obtain ⟨A1, c1, rfl, _, _⟩ := ht.len
  have E : Hid (opT t wd ns = none) := by show _ = _; unfold opT; rw [if_pos hn]
  rw [hn] at hw
  have k0 := hw.cell 0
  simp at k0
  clear hn
  go_enter Tryd.func41, Tryd.ntmps41
  go_wp2_with fail
  go_ret
  unfold OpPost
  rw [E.out]
  exact ⟨Below.refl _ _, rfl⟩
set_option maxRecDepth 100000 in
set_option maxHeartbeats 8000000 in
theorem op_some (h : RMem w p t st) (hn : t.tasks ≠ []) (hr : Reads w w.heap.size 1 A n ((wd :: ws).map strV)) (own : w.ownsRow (p + 1) 3 1 lv ns.length (intV ns))
    (b1 : t.tasks.length ≤ 1000000) (b2 : ∀ x ∈ t.tasks, x.ops.length ≤ 1000000) :
    Calls Tryd.prog 41 #[.pointer (some ⟨p, 0, none⟩), .slice A n c, lv] w (OpPost w p t st wd ns) := by
  obtain ⟨V1, V2, V3, hw, ht⟩ := h
  obtain ⟨l, x, hv, g, c1, htk, htt, rfl⟩ := ht.last hn
  obtain ⟨ad, rfl, had, hc⟩ := hr.head
  obtain ⟨A2, c2, rfl, hnc2, _⟩ := row_slice own
  have hn0 : (0 : Int) < n := by have := hr.1; simp at this; omega
  have hn1 : 0 < n := by omega
  have hll : l.length ≤ 1000000 := by
    have := congrArg List.length htt
    simp at this
    omega
  have hxo : x.ops.length ≤ 1000000 := b2 x (by rw [htt]; simp)
  have hp := hw.lt
  have hRO := Reads.of_own own
  obtain ⟨S, hS⟩ : ∃ S : ByteArray, S = ⟨wd.toArray⟩ := ⟨_, rfl⟩
  have hc' : w.cell? ad = some (.string S) := by rw [hc, hS]; rfl
  have hSl : S.toList = wd := by rw [ByteArray.toList_eq, hS]
  have HSL := Lib.hid hSl
  have HW := Lib.hid hw
  have HT := Lib.hid ht
  have HTK := Lib.hid htk
  have HTT := Lib.hid htt
  have HRO := Lib.hid hRO
  have HN := Lib.hid hn
  have k0 := hw.cell 0
  simp at k0
  clear hSl hS hc hw ht htk htt b1 b2 hr own hn hRO
  go_enter Tryd.func41, Tryd.ntmps41
  go_wp2_with fail
  go_loopg [23] 15 (fun kk v wr => ∃ k : Nat, k ≤ 15 ∧ v = .int .i64 k ∧ NotYet wd ns.length k ∧ Below w.heap.size w wr ∧ 15 - k ≤ kk)
  case atStart => exact ⟨0, by omega, rfl, fun j _ hj => by omega, Below.refl _ _, by omega⟩
  case round =>
    obtain ⟨k, hk, rfl, hny, hb, hkk⟩ := hrel
    obtain ⟨wo, rfl⟩ : ∃ wo : World, wo = wr := ⟨_, rfl⟩
    have hzo := hb.size
    by_cases hlt : k < 15
    · have hlt' : (k : Int) < 15 := by omega
      have hpl := parts_le k hlt
      have FND := Lib.hid (fun h1 h2 => kind_found hlt hny h1 h2)
      have NYS := Lib.hid (fun h1 => NotYet.succ hlt hny h1)
      clear hny
      go_wp2_with fail
      refine (shape_any _ k hlt).mono ?_
      rintro e w1 ⟨rfl, b1⟩
      generalize shapes[k]'hlt = SH at *
      obtain ⟨nm, parts, low, ma, mb⟩ := SH
      obtain ⟨N, hN⟩ : ∃ N : ByteArray, N = ⟨nm.toArray⟩ := ⟨_, rfl⟩
      have hNl : N.toList = nm := by rw [ByteArray.toList_eq, hN]
      have hV : shapeV ⟨nm, parts, low, ma, mb⟩ = .agg #[.string N, .int .i64 parts, .int .i64 low, .int .i64 ma, .int .i64 mb] := by rw [hN]; rfl
      rw [hV]
      clear hV hN
      have hb1 := hb.trans (b1.mono hzo)
      have hz1 := hb1.size
      have kc := (hb1.cell (p := ad) had).trans hc'
      have had1 : ad.block < w1.heap.size := by omega
      by_cases h1 : nm = wd
      · by_cases h2 : parts = ns.length
        · subst h2
          have E : Hid (opT t wd ns = some { t with tasks := l.map Prod.fst ++ [{ x with ops := x.ops ++ [⟨k, ns.getD 0 0, ns.getD 1 0⟩] }] }) := by
            show _ = _
            unfold opT
            rw [if_neg HN.out, FND.out h1 rfl, HTT.out]
            show some _ = some _
            rw [addOp_last]
          have e1 : (N.toList != S.toList) = false := by rw [hNl, HSL.out, h1]; simp
          have e2 : N.toList = S.toList := by rw [hNl, HSL.out, h1]
          have e3 : (N.toList == S.toList) = true := by rw [hNl, HSL.out, h1]; simp
          clear h1 hNl FND NYS
          go_wp2
          go_quiet (fail)
          go_wp2_with fail
          go_loopg [49] 2 (fun kk v wx => ∃ m : Nat, m ≤ 2 ∧ v = .int .i64 m ∧ Below w.heap.size w wx ∧ Whole wx (w1.heap.size + 1) 34 #[.int .i64 k, .int .i64 (oaAt ns m), .int .i64 (obAt ns m)] ∧ 2 - m ≤ kk)
          case atStart =>
            refine ⟨0, by omega, rfl, ((hb1.alloc hz1 _).alloc (by simp; omega) _).drewN' _, ?_, by omega⟩
            have := Whole.made (w1.alloc (.cells #[.string N, .int .i64 ns.length, .int .i64 low, .int .i64 ma, .int .i64 mb] 78)) 34 #[.int .i64 k, .int .i64 0, .int .i64 0]
            have ez : (w1.alloc (.cells #[.string N, .int .i64 ns.length, .int .i64 low, .int .i64 ma, .int .i64 mb] 78)).heap.size = w1.heap.size + 1 := by simp
            rw [ez] at this
            exact this.drewN _
          case round =>
            obtain ⟨m, hm, rfl, hbx, hwo, hk2⟩ := hrel
            have hzx := hbx.size
            have q0 := hwo.cell 0
            have q1 := hwo.cell 1
            have q2 := hwo.cell 2
            have z0 := hwo.frozen 0
            have z1 := hwo.frozen 1
            have z2 := hwo.frozen 2
            have hwl := hwo.lt
            simp at q0 q1 q2
            have ix0 : ∀ W, (Instr.index 96 (.agg #[.pointer (some ⟨w1.heap.size + 1, 1, none⟩), .pointer (some ⟨w1.heap.size + 1, 2, none⟩)]) (.int .i64 0)).run Tryd.prog W = .ok (.pointer (some ⟨w1.heap.size + 1, 1, none⟩)) W := fun _ => by kernel_rfl
            have ix1 : ∀ W, (Instr.index 96 (.agg #[.pointer (some ⟨w1.heap.size + 1, 1, none⟩), .pointer (some ⟨w1.heap.size + 1, 2, none⟩)]) (.int .i64 1)).run Tryd.prog W = .ok (.pointer (some ⟨w1.heap.size + 1, 2, none⟩)) W := fun _ => by kernel_rfl
            have hm3 : m = 0 ∨ m = 1 ∨ m = 2 := by omega
            rcases hm3 with rfl | rfl | rfl
            · by_cases h0 : 0 < ns.length
              · obtain ⟨ad2, eA2, had2, hi0⟩ := (HRO.out.below hbx (Nat.le_refl _)).int h0
                subst eA2
                have hi0' : wr.cell? ad2 = some (.int .i64 ns[0]) := by
                  have : ad2.add 0 = ad2 := by simp [Addr.add]
                  rw [← this]; exact hi0
                have h0' : (0 : Int) < ns.length := by omega
                have HH : Hid (oaAt ns 1 = ns[0]) := by show _ = _; unfold oaAt; rw [if_pos (by omega)]; simp [List.getD, h0]
                generalize ns[0] = n0 at *
                have hne2 : ad2.block ≠ w1.heap.size + 1 := by omega
                go_wp2_with fail
                go_roundg 1
                case measure => omega
                case rel => exact ⟨1, by omega, rfl, hbx.setCell (by show _ ≤ w1.heap.size + 1; omega) _, by rw [HH.out]; exact hwo.put 1 _, Nat.le_refl _⟩
              · have h0' : ¬ (0 : Int) < ns.length := by omega
                have HH : Hid (oaAt ns 1 = 0 ∧ obAt ns 1 = 0 ∧ oaAt ns 0 = 0 ∧ obAt ns 0 = 0) := by
                  show _ ∧ _
                  have : ns = [] := List.eq_nil_of_length_eq_zero (by omega)
                  rw [this]
                  exact ⟨rfl, rfl, rfl, rfl⟩
                go_wp2_with fail
                go_roundg 1
                case measure => omega
                case rel => exact ⟨1, by omega, rfl, hbx, by rw [HH.out.1, HH.out.2.1, ← HH.out.2.2.1]; exact hwo, Nat.le_refl _⟩
            · by_cases h0 : 1 < ns.length
              · obtain ⟨ad2, eA2, had2, hi0⟩ := (HRO.out.below hbx (Nat.le_refl _)).int h0
                subst eA2
                have h0' : (1 : Int) < ns.length := by omega
                have HH : Hid (oaAt ns 2 = oaAt ns 1 ∧ obAt ns 2 = ns[1]) := by show _ ∧ _; unfold oaAt obAt; rw [if_pos (by omega), if_pos (by omega), if_pos (by omega)]; simp [List.getD, h0]
                have hi0' : wr.cell? ⟨ad2.block, ad2.off + 1, none⟩ = some (.int .i64 ns[1]) := by rw [← add_pos _ 1 (by decide)]; exact hi0
                generalize ns[1] = n0 at *
                have hne2 : ad2.block ≠ w1.heap.size + 1 := by omega
                have hne3 : (ad2.add 1).block ≠ w1.heap.size + 1 := by rw [block_of_add]; omega
                go_wp2_with fail
                go_roundg 0
                case measure => omega
                case rel => exact ⟨2, by omega, rfl, hbx.setCell (by show _ ≤ w1.heap.size + 1; omega) _, by rw [HH.out.1, HH.out.2]; exact hwo.put 2 _, Nat.le_refl _⟩
              · have h0' : ¬ (1 : Int) < ns.length := by omega
                have HH : Hid (oaAt ns 2 = oaAt ns 1 ∧ obAt ns 2 = obAt ns 1) := by
                  show _ ∧ _
                  unfold oaAt obAt
                  rw [if_pos (by omega), if_pos (by omega), if_pos (by omega), if_neg (by omega), List.getD_eq_getElem?_getD, List.getD_eq_getElem?_getD, List.getElem?_eq_none (i := 1) (by omega)]
                  exact ⟨rfl, rfl⟩
                go_wp2_with fail
                go_roundg 0
                case measure => omega
                case rel => exact ⟨2, by omega, rfl, hbx, by rw [HH.out.1, HH.out.2]; exact hwo, Nat.le_refl _⟩
            · have HH : Hid (oaAt ns 2 = ns.getD 0 0 ∧ obAt ns 2 = ns.getD 1 0) := ⟨rfl, rfl⟩
              generalize oaAt ns 2 = va at *
              generalize obAt ns 2 = vb at *
              have hpx : p < wr.heap.size := by omega
              have hwp := HW.out.same (hbx.block p hp)
              have htk := HTK.out.same (fun k _ hk => hbx.block k hk)
              have hto := htk.ops (x, hv) (by simp)
              have hrow := htk.row
              rw [List.length_append, List.length_singleton] at hrow
              obtain ⟨c5, z5⟩ := last_cell hrow
              have k0' := hwp.cell 0
              simp at k0'
              obtain ⟨i0, hi, hz0, hz1', hz2⟩ := info_parts info34
              have hgB := (hrow.lt g rfl).1
              have hgl := (hrow.lt g rfl).2
              have hop : hv.ownBlock ≠ some p := fun e => by have := (hto.lt p e).1; omega
              have hog : hv.ownBlock ≠ some g := fun e => row_kind hto hrow (by decide) g e rfl
              have HTO := Lib.hid hto
              have ib0 : (0 : Int) ≤ (l.length : Int) := by omega
              have ib1 : (l.length : Int) < (l.length : Int) + 1 := by omega
              have ib2 : (l.length : Int) < ((l.length + 1 : Nat) : Int) := by omega
              have ib3 : l.length < l.length + 1 := by omega
              have HROW := Lib.hid hrow
              have hob : hv.ownBlock ≠ some (w1.heap.size + 1) := fun e => by have := ((HTK.out.ops (x, hv) (by simp)).lt _ e).2; omega
              go_wp2_with fail
              have hpg : p ≠ g := by omega
              have hpg' : g ≠ p := by omega
              have hbg : w1.heap.size + 1 ≠ g := by have := (HTK.out.row.lt g (by rfl)).2; omega
              have hbg' : g ≠ w1.heap.size + 1 := fun e => hbg e.symm
              refine wp_region_held_drew (S := fun w' => w'.cell? ⟨p, 0, none⟩ = some (.slice (some ⟨g, 0, none⟩) (l.length + 1) c1) ∧ w'.cell? ⟨w1.heap.size + 1, 0, none⟩ = some (.int .i64 k) ∧ w'.cell? ⟨w1.heap.size + 1, 1, none⟩ = some (.int .i64 va) ∧ w'.cell? ⟨w1.heap.size + 1, 2, none⟩ = some (.int .i64 vb)) (by kernel_rfl) ?_ (fun hHeld => ?_)
              · (try dsimp only)
                go_keep
              refine wpAnyH_take (i := 0) (v := ?_) rfl (by kernel_rfl) (by kernel_rfl) (by kernel_rfl) (fun _ _ _ h => h) (Or.inl ⟨by rfl, ?_⟩) (by assumption) ?_
              rotate_left
              · intro w hSw
                (try dsimp only at hSw)
                go_simp
                with_reducible rfl
              try simp only [Act.put, List.setIfInBounds_toArray]
              refine wpAnyH_take (i := 1) (v := ?_) rfl (by kernel_rfl) (by kernel_rfl) (by kernel_rfl) (fun _ _ _ h => h) (Or.inl ⟨by rfl, ?_⟩) (by assumption) ?_
              rotate_left
              · intro w hSw
                (try dsimp only at hSw)
                go_simp
                with_reducible rfl
              try simp only [Act.put]
              refine wpAnyH_take (i := 2) (v := ?_) rfl (by kernel_rfl) (by kernel_rfl) (by kernel_rfl) (fun _ _ _ h => h) (Or.inl ⟨by rfl, ?_⟩) (by assumption) ?_
              rotate_left
              · intro w hSw
                (try dsimp only at hSw)
                go_simp
                with_reducible rfl
              try simp only [Act.put]
              refine wpAnyH_take (i := 3) (v := ?_) rfl (by kernel_rfl) (by kernel_rfl) (by kernel_rfl) (fun _ _ _ h => h) (Or.inl ⟨by rfl, ?_⟩) (by assumption) ?_
              rotate_left
              · intro w hSw
                (try dsimp only at hSw)
                go_simp
                with_reducible rfl
              try simp only [Act.put]
              refine wpAnyH_take (i := 4) (v := ?_) rfl (by kernel_rfl) (by kernel_rfl) (by kernel_rfl) (fun _ _ _ h => h) (Or.inl ⟨by rfl, ?_⟩) (by assumption) ?_
              rotate_left
              · intro w hSw
                (try dsimp only at hSw)
                go_simp
                with_reducible rfl
              try simp only [Act.put]
              refine wpAnyH_take (i := 5) (v := ?_) rfl (by kernel_rfl) (by kernel_rfl) (by kernel_rfl) (fun _ _ _ h => h) (Or.inl ⟨by rfl, ?_⟩) (by assumption) ?_
              rotate_left
              · intro w hSw
                (try dsimp only at hSw)
                go_simp
                with_reducible rfl
              try simp only [Act.put]
              refine wpAnyH_take (i := 6) (v := ?_) rfl (by kernel_rfl) (by kernel_rfl) (by kernel_rfl) (fun _ _ _ h => h) (Or.inl ⟨by rfl, ?_⟩) (by assumption) ?_
              rotate_left
              · intro w hSw
                (try dsimp only at hSw)
                go_simp
                with_reducible rfl
              try simp only [Act.put]
              refine wpAnyH_take (i := 7) (v := ?_) rfl (by kernel_rfl) (by kernel_rfl) (by kernel_rfl) (fun _ _ _ h => h) (Or.inl ⟨by rfl, ?_⟩) (by assumption) ?_
              rotate_left
              · intro w hSw
                (try dsimp only at hSw)
                go_simp
                with_reducible rfl
              try simp only [Act.put]
              refine wpAnyH_take (i := 8) (v := ?_) rfl (by kernel_rfl) (by kernel_rfl) (by kernel_rfl) (fun _ _ _ h => h) (Or.inl ⟨by rfl, ?_⟩) (by assumption) ?_
              rotate_left
              · intro w hSw
                (try dsimp only at hSw)
                go_simp
                with_reducible rfl
              try simp only [Act.put]
              refine wpAnyH_take (i := 9) (v := ?_) rfl (by kernel_rfl) (by kernel_rfl) (by kernel_rfl) (fun _ _ _ h => h) (Or.inl ⟨by rfl, ?_⟩) (by assumption) ?_
              rotate_left
              · intro w hSw
                (try dsimp only at hSw)
                go_simp
                with_reducible rfl
              try simp only [Act.put]
              refine wpAnyH_take (i := 10) (v := ?_) rfl (by kernel_rfl) (by kernel_rfl) (by kernel_rfl) (fun _ _ _ h => h) (Or.inl ⟨by rfl, ?_⟩) (by assumption) ?_
              rotate_left
              · intro w hSw
                (try dsimp only at hSw)
                go_simp
                with_reducible rfl
              try simp only [Act.put]
              refine wpAnyH_take (i := 11) (v := ?_) rfl (by kernel_rfl) (by kernel_rfl) (by kernel_rfl) (fun _ _ _ h => h) (Or.inl ⟨by rfl, ?_⟩) (by assumption) ?_
              rotate_left
              · intro w hSw
                (try dsimp only at hSw)
                go_simp
                with_reducible rfl
              try simp only [Act.put]
              refine wpAnyH_take (i := 12) (v := ?_) rfl (by kernel_rfl) (by kernel_rfl) (by kernel_rfl) (fun _ _ _ h => h) (Or.inl ⟨by rfl, ?_⟩) (by assumption) ?_
              rotate_left
              · intro w hSw
                (try dsimp only at hSw)
                go_simp
                with_reducible rfl
              try simp only [Act.put]
              refine wpAnyH_take (i := 13) (v := ?_) rfl (by kernel_rfl) (by kernel_rfl) (by kernel_rfl) (fun _ _ _ h => h) (Or.inl ⟨by rfl, ?_⟩) (by assumption) ?_
              rotate_left
              · intro w hSw
                (try dsimp only at hSw)
                go_simp
                with_reducible rfl
              try simp only [Act.put]
              refine wpAnyH_take (i := 15) (v := ?_) rfl (by kernel_rfl) (by kernel_rfl) (by kernel_rfl) (fun _ _ _ h => h) (Or.inl ⟨by rfl, ?_⟩) (by assumption) ?_
              rotate_left
              · intro w hSw
                (try dsimp only at hSw)
                go_simp
                with_reducible rfl
              try simp only [Act.put]
              refine wpAnyH_ready (rs := [14, 16]) (by kernel_rfl) (by simp) ?_
              refine AllReadyH.cons rfl (fun K hK => ?_) ?_
              · go_simp
                refine hK.out _ _ ?_ (fun hHeld => ?_)
                · (try dsimp only)
                  go_keep
                clear hK K
                try simp only [Act.put, List.setIfInBounds_toArray, List.set_cons_zero, List.set_cons_succ]
                refine wpAnyH_ready (rs := [16]) (by kernel_rfl) (by simp) ?_
                refine AllReadyH.cons rfl (fun K hK => ?_) ?_
                · go_simp
                  refine hK.out _ _ ?_ (fun hHeld => ?_)
                  · (try dsimp only)
                    go_keep
                  clear hK K
                  try simp only [Act.put, List.setIfInBounds_toArray, List.set_cons_zero, List.set_cons_succ]
                  refine wpAnyH_ready (rs := [17]) (by kernel_rfl) (by simp) ?_
                  refine AllReadyH.cons rfl (fun K hK => ?_) ?_
                  · (refine step_append_lies _ (by rfl) _ _ _ (by rfl) (p + 1) 34 i0 _ 3 24 Tryd.underlying30 hi hz0 hz1' hz2 rfl (by omega) hv x.ops.length (opsC x.ops) (by rfl) ((HTO.out.alloc _).drew) ⟨wr.heap.size, 0, none⟩ 1 1 [.int .i64 k, .int .i64 va, .int .i64 vb] (by rfl) (by rfl) (World.news_of_block (cs := #[.int .i64 k, .int .i64 va, .int .i64 vb]) (t := 34) (fr := (0, 0)) (heap_alloc_new _ _)) (by simp [Value.oneCell']) (by omega) (by unfold maxLen; omega) (by omega) (by simp; omega) (wr.heap.size + 1) (by simp) ?_; intro gg cap w5 hown1 hgrow hat hlt1; have y1 := (Whole.grown (hwp.alloc _).drew hgrow hop).cell 0; simp at y1; obtain ⟨y2, y3⟩ := last_cell (row_grown HROW.out hgrow (fun k hk => Below.heap_alloc wr _ k hk) (by simp) (fun k hk e => hog (by rw [e, ← hk]; rfl))); have yo := Whole.grown (hwo.alloc _).drew hgrow hob; have y4 := yo.cell 0; have y5 := yo.cell 1; have y6 := yo.cell 2; simp at y4 y5 y6)
                    refine hK.out _ _ ?_ (fun hHeld => ?_)
                    · (try dsimp only)
                      go_keep
                    clear hK K
                    try simp only [Act.put, List.setIfInBounds_toArray]
                    refine wpAnyH_take (i := 18) (v := ?_) rfl (by kernel_rfl) (by kernel_rfl) (by kernel_rfl) (fun _ _ _ h => h) (Or.inl ⟨by rfl, ?_⟩) (by assumption) ?_
                    rotate_left
                    · intro w hSw
                      (try dsimp only at hSw)
                      go_simp
                      with_reducible rfl
                    try simp only [Act.put]
                    refine wpAnyH_take (i := 19) (v := ?_) rfl (by kernel_rfl) (by kernel_rfl) (by kernel_rfl) (fun _ _ _ h => h) (Or.inl ⟨by rfl, ?_⟩) (by assumption) ?_
                    rotate_left
                    · intro w hSw
                      (try dsimp only at hSw)
                      go_simp
                      with_reducible rfl
                    try simp only [Act.put]
                    refine wpAnyH_ready (rs := [20]) (by kernel_rfl) (by simp) ?_
                    refine AllReadyH.cons rfl (fun K hK => ?_) ?_
                    · go_simp
                      refine hK.out _ _ ?_ (fun hHeld => ?_)
                      · (try dsimp only)
                        go_keep
                      clear hK K
                      try simp only [Act.put, List.setIfInBounds_toArray, List.set_cons_zero, List.set_cons_succ]
                      refine wpAnyH_done (by kernel_rfl) ?_ _
                      go_wp2_with fail
                      go_ret
                      unfold OpPost
                      rw [E.out]
                      have hs5 : ∀ k', k' < wr.heap.size → ((wr.alloc (.cells #[.int .i64 k, .int .i64 va, .int .i64 vb] 34)).drew).heap[k']? = wr.heap[k']? := fun k' hk' => Below.heap_alloc wr _ k' hk'
                      have hz5 : wr.heap.size ≤ ((wr.alloc (.cells #[.int .i64 k, .int .i64 va, .int .i64 vb] 34)).drew).heap.size := by simp
                      have hto5 := HTO.out
                      have hrow0 := HTK.out.row
                      have hto0 := HTK.out.ops (x, hv) (by simp)
                      refine ⟨((((hbx.mono (Nat.le_of_lt hp)).alloc (by omega) _).drew).grown hgrow (by simp; omega) (fun k' hk' => by have := (hto5.lt k' hk').1; omega)).setCell (by show p ≤ g; omega) _, rfl, _, V2, V3, (Whole.grown (hwp.alloc _).drew hgrow hop).far hpg _, ?_⟩
                      refine ⟨⟨l ++ [({ x with ops := x.ops ++ [⟨k, ns.getD 0 0, ns.getD 1 0⟩] }, .slice (some ⟨gg, 0, none⟩) (x.ops.length + 1) cap)], by simp, ?_⟩, ?_, ?_⟩
                      · refine Tasks.op (o := ⟨k, ns.getD 0 0, ns.getD 1 0⟩) htk ?_ hgrow hs5 hz5 ?_
                        · rw [← HH.out.1, ← HH.out.2]
                          exact hown1
                        · intro k' hk'
                          have hk2 : gg = k' := by simpa [Value.ownBlock] using hk'
                          rcases hat with h9 | h9
                          · exact .inl (by rw [h9, hk2])
                          · right; omega
                      · exact keep_row HT.out.sems hbx hs5 hz5 hgrow (fun k' hk' e => row_kind HT.out.sems hto0 (by decide) k' hk' e) (fun e => row_kind HT.out.sems hrow0 (by decide) g e rfl) _
                      · exact keep_row HT.out.queues hbx hs5 hz5 hgrow (fun k' hk' e => row_kind HT.out.queues hto0 (by decide) k' hk' e) (fun e => row_kind HT.out.queues hrow0 (by decide) g e rfl) _
                    exact AllReadyH.nil
                  exact AllReadyH.nil
                exact AllReadyH.nil
              refine AllReadyH.cons rfl (fun K hK => ?_) ?_
              · go_simp
                refine hK.out _ _ ?_ (fun hHeld => ?_)
                · (try dsimp only)
                  go_keep
                clear hK K
                try simp only [Act.put, List.setIfInBounds_toArray, List.set_cons_zero, List.set_cons_succ]
                refine wpAnyH_ready (rs := [14]) (by kernel_rfl) (by simp) ?_
                refine AllReadyH.cons rfl (fun K hK => ?_) ?_
                · go_simp
                  refine hK.out _ _ ?_ (fun hHeld => ?_)
                  · (try dsimp only)
                    go_keep
                  clear hK K
                  try simp only [Act.put, List.setIfInBounds_toArray, List.set_cons_zero, List.set_cons_succ]
                  refine wpAnyH_ready (rs := [17]) (by kernel_rfl) (by simp) ?_
                  refine AllReadyH.cons rfl (fun K hK => ?_) ?_
                  · (refine step_append_lies _ (by rfl) _ _ _ (by rfl) (p + 1) 34 i0 _ 3 24 Tryd.underlying30 hi hz0 hz1' hz2 rfl (by omega) hv x.ops.length (opsC x.ops) (by rfl) ((HTO.out.alloc _).drew) ⟨wr.heap.size, 0, none⟩ 1 1 [.int .i64 k, .int .i64 va, .int .i64 vb] (by rfl) (by rfl) (World.news_of_block (cs := #[.int .i64 k, .int .i64 va, .int .i64 vb]) (t := 34) (fr := (0, 0)) (heap_alloc_new _ _)) (by simp [Value.oneCell']) (by omega) (by unfold maxLen; omega) (by omega) (by simp; omega) (wr.heap.size + 1) (by simp) ?_; intro gg cap w5 hown1 hgrow hat hlt1; have y1 := (Whole.grown (hwp.alloc _).drew hgrow hop).cell 0; simp at y1; obtain ⟨y2, y3⟩ := last_cell (row_grown HROW.out hgrow (fun k hk => Below.heap_alloc wr _ k hk) (by simp) (fun k hk e => hog (by rw [e, ← hk]; rfl))); have yo := Whole.grown (hwo.alloc _).drew hgrow hob; have y4 := yo.cell 0; have y5 := yo.cell 1; have y6 := yo.cell 2; simp at y4 y5 y6)
                    refine hK.out _ _ ?_ (fun hHeld => ?_)
                    · (try dsimp only)
                      go_keep
                    clear hK K
                    try simp only [Act.put, List.setIfInBounds_toArray]
                    refine wpAnyH_take (i := 18) (v := ?_) rfl (by kernel_rfl) (by kernel_rfl) (by kernel_rfl) (fun _ _ _ h => h) (Or.inl ⟨by rfl, ?_⟩) (by assumption) ?_
                    rotate_left
                    · intro w hSw
                      (try dsimp only at hSw)
                      go_simp
                      with_reducible rfl
                    try simp only [Act.put]
                    refine wpAnyH_take (i := 19) (v := ?_) rfl (by kernel_rfl) (by kernel_rfl) (by kernel_rfl) (fun _ _ _ h => h) (Or.inl ⟨by rfl, ?_⟩) (by assumption) ?_
                    rotate_left
                    · intro w hSw
                      (try dsimp only at hSw)
                      go_simp
                      with_reducible rfl
                    try simp only [Act.put]
                    refine wpAnyH_ready (rs := [20]) (by kernel_rfl) (by simp) ?_
                    refine AllReadyH.cons rfl (fun K hK => ?_) ?_
                    · go_simp
                      refine hK.out _ _ ?_ (fun hHeld => ?_)
                      · (try dsimp only)
                        go_keep
                      clear hK K
                      try simp only [Act.put, List.setIfInBounds_toArray, List.set_cons_zero, List.set_cons_succ]
                      refine wpAnyH_done (by kernel_rfl) ?_ _
                      go_wp2_with fail
                      go_ret
                      unfold OpPost
                      rw [E.out]
                      have hs5 : ∀ k', k' < wr.heap.size → ((wr.alloc (.cells #[.int .i64 k, .int .i64 va, .int .i64 vb] 34)).drew).heap[k']? = wr.heap[k']? := fun k' hk' => Below.heap_alloc wr _ k' hk'
                      have hz5 : wr.heap.size ≤ ((wr.alloc (.cells #[.int .i64 k, .int .i64 va, .int .i64 vb] 34)).drew).heap.size := by simp
                      have hto5 := HTO.out
                      have hrow0 := HTK.out.row
                      have hto0 := HTK.out.ops (x, hv) (by simp)
                      refine ⟨((((hbx.mono (Nat.le_of_lt hp)).alloc (by omega) _).drew).grown hgrow (by simp; omega) (fun k' hk' => by have := (hto5.lt k' hk').1; omega)).setCell (by show p ≤ g; omega) _, rfl, _, V2, V3, (Whole.grown (hwp.alloc _).drew hgrow hop).far hpg _, ?_⟩
                      refine ⟨⟨l ++ [({ x with ops := x.ops ++ [⟨k, ns.getD 0 0, ns.getD 1 0⟩] }, .slice (some ⟨gg, 0, none⟩) (x.ops.length + 1) cap)], by simp, ?_⟩, ?_, ?_⟩
                      · refine Tasks.op (o := ⟨k, ns.getD 0 0, ns.getD 1 0⟩) htk ?_ hgrow hs5 hz5 ?_
                        · rw [← HH.out.1, ← HH.out.2]
                          exact hown1
                        · intro k' hk'
                          have hk2 : gg = k' := by simpa [Value.ownBlock] using hk'
                          rcases hat with h9 | h9
                          · exact .inl (by rw [h9, hk2])
                          · right; omega
                      · exact keep_row HT.out.sems hbx hs5 hz5 hgrow (fun k' hk' e => row_kind HT.out.sems hto0 (by decide) k' hk' e) (fun e => row_kind HT.out.sems hrow0 (by decide) g e rfl) _
                      · exact keep_row HT.out.queues hbx hs5 hz5 hgrow (fun k' hk' e => row_kind HT.out.queues hto0 (by decide) k' hk' e) (fun e => row_kind HT.out.queues hrow0 (by decide) g e rfl) _
                    exact AllReadyH.nil
                  exact AllReadyH.nil
                exact AllReadyH.nil
              exact AllReadyH.nil
        · have NY := Lib.hid (NYS.out (fun h => h2 h.2))
          have e1 : (N.toList != S.toList) = false := by rw [hNl, HSL.out, h1]; simp
          have e2 : N.toList = S.toList := by rw [hNl, HSL.out, h1]
          have e3 : (N.toList == S.toList) = true := by rw [hNl, HSL.out, h1]; simp
          have f1 : ((parts : Int) == (ns.length : Int)) = false := by simp; omega
          have f2 : ((parts : Int) != (ns.length : Int)) = true := by simp; omega
          have f3 : ¬ (parts : Int) = (ns.length : Int) := by omega
          clear h1 hNl FND NYS
          go_wp2
          go_quiet (fail)
          go_wp2_with fail
          go_roundg (15 - (k + 1))
          case measure => omega
          case rel => exact ⟨k + 1, by omega, by go_num, NY.out, (hb1.alloc hz1 _).drewN' _, Nat.le_refl _⟩
      · have NY := Lib.hid (NYS.out (fun h => h1 h.1))
        have e1 : (N.toList != S.toList) = true := by rw [hNl, HSL.out]; exact bne_iff_ne.2 h1
        have e2 : ¬ N.toList = S.toList := by rw [hNl, HSL.out]; exact h1
        have e3 : (N.toList == S.toList) = false := by rw [hNl, HSL.out]; exact beq_eq_false_iff_ne.2 h1
        clear h1 hNl FND NYS
        go_wp2
        go_quiet (fail)
        go_wp2_with fail
        go_roundg (15 - (k + 1))
        case measure => omega
        case rel => exact ⟨k + 1, by omega, by go_num, NY.out, (hb1.alloc hz1 _).drewN' _, Nat.le_refl _⟩
    · have hge : ¬ (k : Int) < 15 := by omega
      obtain rfl : k = 15 := by omega
      have E : Hid (opT t wd ns = none) := by show _ = _; unfold opT; rw [if_neg HN.out, kind_none hny]
      clear hny
      go_wp2_with fail
      go_ret
      unfold OpPost
      rw [E.out]
      exact ⟨hb.mono (by omega), rfl⟩
end
end Go.Proofs.YtadcfedjmofjjaaDoor
