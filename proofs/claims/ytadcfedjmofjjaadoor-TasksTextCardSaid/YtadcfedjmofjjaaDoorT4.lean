/-
  The given program's text of a table: the walk of its Text.
-/
import Derived.Test.YtadcfedjmofjjaaDoorT3
import Derived.Test.YtadcfedjmofjjaaDoorT2
import Derived.Test.YtadcfedjmofjjaaDoorBuild2
import Derived.StillTailTactics
import Derived.Test.YtadcfedjmofjjaaDoorC3
import Derived.Deep.RegionHeld3
import Derived.Deep.RegionWith
import Derived.Outline
import Derived.Test.YtadcfedjmofjjaaDoorInv
namespace Go.Proofs.YtadcfedjmofjjaaDoor
open Go.RowKit
/-- What is kept from a world on. -/
def Kept (a w : World) : Prop := Below a.heap.size a w
theorem Kept.drew {a w : World} (h : Kept a w) : Kept a w.drew := Below.drew h
theorem Kept.alloc {a w : World} (h : Kept a w) (o : Obj) : Kept a (w.alloc o) := Below.alloc h (Below.size h) o
theorem Kept.trans {a w w' : World} (h : Kept a w) (hb : Below w.heap.size w w') : Kept a w' := Below.trans h (hb.mono (Below.size h))
theorem builder_below {b : Nat} {l : List UInt8} {w w' : World} {B : Nat} (h : Lib.IsBuilder 71 5 B b (Lib.byteCells l) w) (hb : Below w.heap.size w w') : Lib.IsBuilder 71 5 B b (Lib.byteCells l) w' := by
  rcases h with ⟨h1, v, h2, h3, h4⟩ | ⟨h1, v, h2, h3, h4⟩
  · exact .inl ⟨h1, v, (hb.block b (Whole.lt h2)).trans h2, row_below h3 hb (Nat.le_refl _), h4⟩
  · exact .inr ⟨h1, v, (hb.block b (Whole.lt h2)).trans h2, row_below h3 hb (Nat.le_refl _), h4⟩
/-- A block of one number. -/
def Has (g : Nat) (m : Int) (W : World) : Prop := g < W.heap.size ∧ W.cell? ⟨g, 0, none⟩ = some (.int .i64 m)
theorem Has.made (W : World) (m : Int) : Has W.heap.size m (W.alloc (.cells #[.int .i64 m] 3)) := ⟨by simp, (Whole.made W 3 #[.int .i64 m]).cell 0⟩
theorem Has.drew {g : Nat} {m : Int} {W : World} (h : Has g m W) : Has g m W.drew := h
theorem Has.trans {g : Nat} {m : Int} {W W' : World} (h : Has g m W) (hb : Below W.heap.size W W') : Has g m W' := ⟨Nat.lt_of_lt_of_le h.1 hb.size, (hb.cell (p := ⟨g, 0, none⟩) h.1).trans h.2⟩
theorem opLine_text {kd : Nat} {a b : Int} {N : ByteArray} (hN : bytesOf N = (Tk.names.getD kd ([], 0)).1) (l : List Int) (hl : [a, b].take (Tk.names.getD kd ([], 0)).2 = l) :
    rowText (bytesOf (⟨#[32]⟩ ++ N)) l = Tk.unlines [Tk.opLine ⟨kd, a, b⟩] := by
  rw [unlines_one, rowText, bytesOf_app, hN, ← hl]
  rfl
theorem sp_size {N : ByteArray} (hN : (N.size : Int) ≤ 6) : (((⟨#[32]⟩ ++ N : ByteArray)).size : Int) ≤ 100 := by
  simp only [ByteArray.size_append]
  have : (⟨#[32]⟩ : ByteArray).size = 1 := rfl
  omega
theorem opRow_len {N : ByteArray} {l : List Int} (hN : (N.size : Int) ≤ 6) (hl : l.length ≤ 2) (hn : ∀ n ∈ l, -1 ≤ n ∧ n ≤ 9999) : (rowText (bytesOf (⟨#[32]⟩ ++ N)) l).length ≤ 20 := by
  have h1 := numbers_len l hn
  have h2 := bytesOf_len (⟨#[32]⟩ ++ N)
  simp only [ByteArray.size_append] at h2
  have : (⟨#[32]⟩ : ByteArray).size = 1 := rfl
  simp only [rowText, List.length_append, List.length_singleton]
  omega
theorem builder_app {B b : Nat} {l : List UInt8} {Q : ByteArray} {w : World} (h : Lib.IsBuilder 71 5 B b (Lib.byteCells l ++ Lib.strCells Q) w) : Lib.IsBuilder 71 5 B b (Lib.byteCells (l ++ bytesOf Q)) w := by
  have e : Lib.byteCells (l ++ bytesOf Q) = Lib.byteCells l ++ Lib.strCells Q := by
    unfold Lib.byteCells
    rw [List.map_append]
    rfl
  rw [e]
  exact h
/-- What the header's region leaves: the builder holds the header. -/
def HeadMid (w2 : World) (l : List UInt8) (w : World) : Prop := Lib.IsBuilder 71 5 w2.heap.size w2.heap.size (Lib.byteCells l) w ∧ Below w2.heap.size w2 w
set_option maxRecDepth 100000 in
set_option maxHeartbeats 4000000 in
theorem text_any {w : World} {A1 A2 A3 : Option Addr} {c1 c2 c3 : Nat} {t : Tk.Table} (hr : TabRd w w.heap.size A1 A2 A3 t) (hp : Pow w) :
    Calls Tryd.prog 18 #[.agg #[.slice A1 t.tasks.length c1, .slice A2 t.sems.length c2, .int .i64 t.mutexes, .slice A3 t.queues.length c3]] w
      fun e w' => e = .returned (.string ⟨(Tk.text t).toArray⟩) ∧ Below w.heap.size w w' ∧ (Tk.text t).length ≤ 100000 := by
  have HR := Lib.hid hr
  have HP := Lib.hid hp
  clear hr hp
  have hb1 := (Below.refl w.heap.size w).alloc (Nat.le_refl _) (.cells #[.slice A1 t.tasks.length c1, .slice A2 t.sems.length c2, .int .i64 t.mutexes, .slice A3 t.queues.length c3] 26)
  have wa := Whole.made w 26 #[.slice A1 t.tasks.length c1, .slice A2 t.sems.length c2, .int .i64 t.mutexes, .slice A3 t.queues.length c3]
  rcases hf : t.fits with _ | _
  · have E := Lib.hid (chk_no hf)
    have ET : Hid (Tk.text t = []) := by show _ = _; unfold Tk.text; rw [hf]; rfl
    clear hf wa
    go_enter Tryd.func18, Tryd.ntmps18
    go_wp2_with fail
    refine (check_any ((HR.out.below hb1 (Nat.le_refl _)).more (by simp))).mono ?_
    rintro e w2 ⟨rfl, hb2⟩
    rw [E.out]
    go_wp2_with fail
    go_ret
    exact ⟨by rw [ET.out]; rfl, hb1.trans (hb2.mono (by simp)), by rw [ET.out]; simp⟩
  · have E := Lib.hid (chk_yes hf)
    have hrd := Tk.fits_reads hf
    have hq : t.tasks.length ≤ 32 ∧ t.sems.length ≤ 8 ∧ t.queues.length ≤ 8 := by
      have h := hf
      unfold Tk.Table.fits at h
      rw [Bool.and_eq_true, Bool.and_eq_true, Bool.and_eq_true] at h
      have h1 := of_decide_eq_true h.1.1.1
      omega
    obtain ⟨hq1, hq2, hq3⟩ := hq
    have HRD := Lib.hid hrd
    have HF := Lib.hid hf
    clear hf hrd
    go_enter Tryd.func18, Tryd.ntmps18
    go_wp2_with fail
    refine (check_any ((HR.out.below hb1 (Nat.le_refl _)).more (by simp))).mono ?_
    rintro e w2 ⟨rfl, hb2⟩
    rw [E.out]
    have hb12 := hb1.trans (hb2.mono (by simp))
    have wa2 := wa.same (hb2.block _ (by simp))
    have k1 := wa2.cell 1
    have k2 := wa2.cell 2
    have k3 := wa2.cell 3
    simp at k1 k2 k3
    have hz2 := hb12.size
    have hlt2 := wa2.lt
    go_wp2_with fail
    obtain ⟨w3, hw3⟩ : ∃ w3, w3 = w2.alloc (.cells #[.pointer none, .slice none 0 0] 71) := ⟨_, rfl⟩
    rw [← hw3]
    have hb3 : Below w2.heap.size w2 w3 := by rw [hw3]; exact (Below.refl _ _).alloc (Nat.le_refl _) _
    have hb13 := hb12.trans (hb3.mono hz2)
    have RD := HR.out.below hb13 (Nat.le_refl _)
    have PW := HP.out.below hb13
    have hz13 := hb13.size
    have R1 : ∀ W, Kept w3 W → Calls Tryd.prog 34 #[.string ⟨#[115, 101, 109, 115]⟩, .slice A2 t.sems.length c2] W fun e w' => e = .returned (.string ⟨(rowText [115, 101, 109, 115] t.sems).toArray⟩) ∧ Below W.heap.size W w' := fun W hW =>
      row_any ⟨#[115, 101, 109, 115]⟩ (by decide) (((RD.more hz13).below hW (Nat.le_refl _)).sems) (Below.size hW) (by omega) HRD.out.sems (PW.below hW)
    have R3 : ∀ W, Kept w3 W → Calls Tryd.prog 34 #[.string ⟨#[113, 117, 101, 117, 101, 115]⟩, .slice A3 t.queues.length c3] W fun e w' => e = .returned (.string ⟨(rowText [113, 117, 101, 117, 101, 115] t.queues).toArray⟩) ∧ Below W.heap.size W w' := fun W hW =>
      row_any ⟨#[113, 117, 101, 117, 101, 115]⟩ (by decide) (((RD.more hz13).below hW (Nat.le_refl _)).queues) (Below.size hW) (by omega) HRD.out.queues (PW.below hW)
    have R2 : ∀ W g, Has g t.mutexes W → Kept w3 W → Calls Tryd.prog 34 #[.string ⟨#[109, 117, 116, 101, 120, 101, 115]⟩, .slice (some ⟨g, 0, none⟩) 1 1] W fun e w' => e = .returned (.string ⟨(rowText [109, 117, 116, 101, 120, 101, 115] [t.mutexes]).toArray⟩) ∧ Below W.heap.size W w' := fun W g ⟨hg, hc⟩ hW =>
      row_any (l := [t.mutexes]) (B := W.heap.size) ⟨#[109, 117, 116, 101, 120, 101, 115]⟩ (by decide) ⟨rfl, fun _ => ⟨⟨g, 0, none⟩, rfl, hg, fun j u hj => by
        rcases j with _ | j
        · simp [intV] at hj
          subst hj
          exact hc
        · simp [intV] at hj⟩⟩ (Nat.le_refl _) (by simp) (by intro n hn; rw [List.mem_singleton.1 hn]; exact HRD.out.mutexes) (PW.below hW)
    have B33 : ∀ W (s : ByteArray), Kept w3 W → (s.size : Int) ≤ 1000 → Calls Tryd.prog 33 #[.pointer (some ⟨w2.heap.size, 0, none⟩), .string s] W fun e W' => (∃ n, e = .returned (.tuple #[.int .i64 n, .nilIface])) ∧ HeadMid w2 (bytesOf s) W' := fun W s hW hs => by
      have hI : Lib.IsBuilder 71 5 w2.heap.size w2.heap.size (Lib.byteCells []) w3 := by rw [hw3]; exact Lib.fresh_isBuilder 71 5 w2
      refine (writeString _ _ _ s W (builder_below hI hW) (by simp [Lib.byteCells]; omega) (by have := Below.size hW; have := hb3.size; omega)).mono ?_
      rintro e W' ⟨h1, h2, h3⟩
      exact ⟨h1, h2, (hb3.trans (Below.mono hW hb3.size)).trans h3⟩
    obtain ⟨Q1, e1⟩ : ∃ Q : ByteArray, (⟨(rowText [115, 101, 109, 115] t.sems).toArray⟩ : ByteArray) = Q := ⟨_, rfl⟩
    obtain ⟨Q2, e2⟩ : ∃ Q : ByteArray, (⟨(rowText [109, 117, 116, 101, 120, 101, 115] [t.mutexes]).toArray⟩ : ByteArray) = Q := ⟨_, rfl⟩
    obtain ⟨Q3, e3⟩ : ∃ Q : ByteArray, (⟨(rowText [113, 117, 101, 117, 101, 115] t.queues).toArray⟩ : ByteArray) = Q := ⟨_, rfl⟩
    have b1 : bytesOf Q1 = rowText [115, 101, 109, 115] t.sems := by rw [← e1]; exact bytesOf_mk _
    have b2 : bytesOf Q2 = rowText [109, 117, 116, 101, 120, 101, 115] [t.mutexes] := by rw [← e2]; exact bytesOf_mk _
    have b3 : bytesOf Q3 = rowText [113, 117, 101, 117, 101, 115] t.queues := by rw [← e3]; exact bytesOf_mk _
    have s1 := text_size b1 (n := 100) (by have := numbers_len t.sems HRD.out.sems; simp [rowText]; omega)
    have s2 := text_size b2 (n := 100) (by have := numbers_len [t.mutexes] (by intro n hn; rw [List.mem_singleton.1 hn]; exact HRD.out.mutexes); simp [rowText] at this ⊢; omega)
    have s3 := text_size b3 (n := 100) (by have := numbers_len t.queues HRD.out.queues; simp [rowText]; omega)
    rw [e1] at R1
    rw [e2] at R2
    rw [e3] at R3
    have HB1 := Lib.hid b1
    have HB2 := Lib.hid b2
    have HB3 := Lib.hid b3
    have HB33 := Lib.hid B33
    clear e1 e2 e3 b1 b2 b3 B33
    have HR1 := Lib.hid R1
    have HR2 := Lib.hid R2
    have HR3 := Lib.hid R3
    clear R1 R2 R3 RD PW
    have x1 : w3.cell? ⟨w.heap.size, 1, none⟩ = some (.slice A2 t.sems.length c2) := (hb3.cell (p := ⟨w.heap.size, 1, none⟩) hlt2).trans k1
    have x2 : w3.cell? ⟨w.heap.size, 2, none⟩ = some (.int .i64 t.mutexes) := (hb3.cell (p := ⟨w.heap.size, 2, none⟩) hlt2).trans k2
    have x3 : w3.cell? ⟨w.heap.size, 3, none⟩ = some (.slice A3 t.queues.length c3) := (hb3.cell (p := ⟨w.heap.size, 3, none⟩) hlt2).trans k3
    have hlt3 : w.heap.size < w3.heap.size := by have := hb3.size; omega
    have keepS : ∀ W, Kept w3 W → Kept w3 W ∧ W.cell? ⟨w.heap.size, 1, none⟩ = some (.slice A2 t.sems.length c2) ∧ W.cell? ⟨w.heap.size, 2, none⟩ = some (.int .i64 t.mutexes) ∧ W.cell? ⟨w.heap.size, 3, none⟩ = some (.slice A3 t.queues.length c3) := fun W h =>
      ⟨h, (Below.cell (p := ⟨w.heap.size, 1, none⟩) h hlt3).trans x1, (Below.cell (p := ⟨w.heap.size, 2, none⟩) h hlt3).trans x2, (Below.cell (p := ⟨w.heap.size, 3, none⟩) h hlt3).trans x3⟩
    have KS := Lib.hid keepS
    have KM : Hid (∀ l W, HeadMid w2 l W → W.cell? ⟨w.heap.size, 1, none⟩ = some (.slice A2 t.sems.length c2) ∧ W.cell? ⟨w.heap.size, 2, none⟩ = some (.int .i64 t.mutexes) ∧ W.cell? ⟨w.heap.size, 3, none⟩ = some (.slice A3 t.queues.length c3)) := fun l W h =>
      ⟨(Below.cell (p := ⟨w.heap.size, 1, none⟩) h.2 hlt2).trans k1, (Below.cell (p := ⟨w.heap.size, 2, none⟩) h.2 hlt2).trans k2, (Below.cell (p := ⟨w.heap.size, 3, none⟩) h.2 hlt2).trans k3⟩
    have k00 : Kept w3 w3 := Below.refl _ _
    have HW3 := Lib.hid hw3
    clear keepS hw3 k1 k2 k3 x1 x2 x3
    go_cut [26] (fun _ wx => HeadMid w2 (bytesOf Q1 ++ bytesOf Q2 ++ bytesOf Q3) wx)
    case first =>
      refine wp_region_any (by kernel_rfl) ?_
      refine wpAny_inv_at (fun a0 listed a W => (∃ l0 l1 l2 l3 l4 l5 l6 l7 l8 l9 l10 l11 : Bool, ∃ v0 v1 v2 v3 v4 v5 v6 v7 v8 v9 v10 v11 v12 : Value, listed = #[l0, l1, l2, l3, l4, l5, l6, l7, l8, l9, l10, l11, false] ∧ a = ⟨#[.agg #[.slice A1 t.tasks.length c1, .slice A2 t.sems.length c2, .int .i64 t.mutexes, .slice A3 t.queues.length c3], .pointer (some ⟨w.heap.size, 0, none⟩), .string ⟨#[]⟩, .pointer (some ⟨w2.heap.size, 0, none⟩), undef, undef, undef, undef, undef, undef, undef, .agg #[.slice A1 t.tasks.length c1, .slice A2 t.sems.length c2, .int .i64 t.mutexes, .slice A3 t.queues.length c3], .int .i64 0, .bool false, v0, v1, v2, v3, v4, v5, v6, v7, v8, v9, v10, v11, v12, undef, undef, undef, undef, undef, undef, undef, undef, undef, undef, undef, undef, undef, undef, undef, undef, undef, undef, undef, undef, undef, undef, undef, undef, undef, undef, undef, undef, undef, undef, undef, undef, undef, undef, undef, undef, undef, undef, undef, undef, undef, undef], []⟩ ∧ Hid (l0 = true → v0 = .pointer (some ⟨w.heap.size, 1, none⟩)) ∧ Hid (l1 = true → v1 = .slice A2 t.sems.length c2) ∧ Hid (l2 = true → v2 = .string Q1) ∧ Hid (l3 = true → v3 = .pointer (some ⟨w.heap.size, 2, none⟩)) ∧ Hid (l4 = true → v4 = .int .i64 t.mutexes) ∧ Hid (l5 = true → ∃ g, v5 = .slice (some ⟨g, 0, none⟩) 1 1 ∧ Has g t.mutexes W) ∧ Hid (l6 = true → v6 = .string Q2) ∧ Hid (l7 = true → v7 = .string (Q1 ++ Q2)) ∧ Hid (l8 = true → v8 = .pointer (some ⟨w.heap.size, 3, none⟩)) ∧ Hid (l9 = true → v9 = .slice A3 t.queues.length c3) ∧ Hid (l10 = true → v10 = .string Q3) ∧ Hid (l11 = true → v11 = .string (Q1 ++ Q2 ++ Q3)) ∧ Hid (l1 = true → l0 = true) ∧ Hid (l2 = true → l1 = true) ∧ Hid (l4 = true → l3 = true) ∧ Hid (l5 = true → l4 = true) ∧ Hid (l6 = true → l5 = true ∧ l2 = true) ∧ Hid (l7 = true → l2 = true ∧ l6 = true) ∧ Hid (l9 = true → l8 = true) ∧ Hid (l10 = true → l9 = true ∧ l6 = true) ∧ Hid (l11 = true → l7 = true ∧ l10 = true) ∧ Kept w3 W) ∨ (∃ v0 v1 v2 v3 v4 v5 v6 v7 v8 v9 v10 v11 v12 : Value, listed = #[true, true, true, true, true, true, true, true, true, true, true, true, true] ∧ a = ⟨#[.agg #[.slice A1 t.tasks.length c1, .slice A2 t.sems.length c2, .int .i64 t.mutexes, .slice A3 t.queues.length c3], .pointer (some ⟨w.heap.size, 0, none⟩), .string ⟨#[]⟩, .pointer (some ⟨w2.heap.size, 0, none⟩), undef, undef, undef, undef, undef, undef, undef, .agg #[.slice A1 t.tasks.length c1, .slice A2 t.sems.length c2, .int .i64 t.mutexes, .slice A3 t.queues.length c3], .int .i64 0, .bool false, v0, v1, v2, v3, v4, v5, v6, v7, v8, v9, v10, v11, v12, undef, undef, undef, undef, undef, undef, undef, undef, undef, undef, undef, undef, undef, undef, undef, undef, undef, undef, undef, undef, undef, undef, undef, undef, undef, undef, undef, undef, undef, undef, undef, undef, undef, undef, undef, undef, undef, undef, undef, undef, undef, undef], []⟩ ∧ HeadMid w2 (bytesOf Q1 ++ bytesOf Q2 ++ bytesOf Q3) W)) (by decide) ?_ ?_ ?_
      · intro listed a W hI i hi
        rcases hI with ⟨l0, l1, l2, l3, l4, l5, l6, l7, l8, l9, l10, l11, v0, v1, v2, v3, v4, v5, v6, v7, v8, v9, v10, v11, v12, rfl, rfl, h0, h1, h2, h3, h4, h5, h6, h7, h8, h9, h10, h11, k1, k2, k4, k5, k6, k7, k9, k10, k11, hk⟩ | ⟨v0, v1, v2, v3, v4, v5, v6, v7, v8, v9, v10, v11, v12, rfl, rfl, hk⟩
        · obtain ⟨hlt, hdep⟩ := ready_spec hi
          clear hi
          have hlt : i < 13 := hlt
          have hcase : i = 0 ∨ i = 1 ∨ i = 2 ∨ i = 3 ∨ i = 4 ∨ i = 5 ∨ i = 6 ∨ i = 7 ∨ i = 8 ∨ i = 9 ∨ i = 10 ∨ i = 11 ∨ i = 12 := by omega
          clear hlt
          rcases hcase with rfl | rfl | rfl | rfl | rfl | rfl | rfl | rfl | rfl | rfl | rfl | rfl | rfl
          · clear hdep
            refine wpOp_step rfl (fun K' hK => ?_)
            go_simp
            refine hK _ _ ?_
            clear hK K'
            exact Or.inl ⟨true, l1, l2, l3, l4, l5, l6, l7, l8, l9, l10, l11, _, _, _, _, _, _, _, _, _, _, _, _, _, rfl, rfl, Lib.hid fun _ => rfl, h1, h2, h3, h4, h5, h6, h7, h8, h9, h10, h11, Lib.hid fun _ => rfl, k2, k4, k5, k6, k7, k9, k10, k11, hk⟩
          · have d0 : l0 = true := hdep _ rfl ⟨0, .data⟩ (by simp) rfl
            clear hdep
            have e0 := h0.out d0
            subst e0
            refine wpOp_step rfl (fun K' hK => ?_)
            obtain ⟨-, x1, x2, x3⟩ := KS.out _ hk
            go_simp
            refine hK _ _ ?_
            clear hK K'
            exact Or.inl ⟨l0, true, l2, l3, l4, l5, l6, l7, l8, l9, l10, l11, _, _, _, _, _, _, _, _, _, _, _, _, _, rfl, rfl, Lib.hid fun _ => rfl, Lib.hid fun _ => rfl, h2, h3, h4, h5, h6, h7, h8, h9, h10, h11, Lib.hid fun _ => d0, Lib.hid fun _ => rfl, k4, k5, k6, k7, k9, k10, k11, hk⟩
          · have d1 : l1 = true := hdep _ rfl ⟨1, .data⟩ (by simp) rfl
            clear hdep
            have e1 := h1.out d1
            subst e1
            refine wpOp_step rfl (fun K' hK => ?_)
            go_simp
            refine (HR1.out _ hk).mono ?_
            rintro e W' ⟨rfl, hW'⟩
            refine hK _ _ ?_
            clear hK K'
            exact Or.inl ⟨l0, l1, true, l3, l4, l5, l6, l7, l8, l9, l10, l11, _, _, _, _, _, _, _, _, _, _, _, _, _, rfl, rfl, h0, Lib.hid fun _ => rfl, Lib.hid fun _ => rfl, h3, h4, Lib.hid fun h => (h5.out h).imp fun _ hh => ⟨hh.1, hh.2.trans hW'⟩, h6, h7, h8, h9, h10, h11, k1, Lib.hid fun _ => d1, k4, k5, Lib.hid fun h => ⟨(k6.out h).1, rfl⟩, Lib.hid fun h => ⟨rfl, (k7.out h).2⟩, k9, k10, k11, hk.trans hW'⟩
          · clear hdep
            refine wpOp_step rfl (fun K' hK => ?_)
            go_simp
            refine hK _ _ ?_
            clear hK K'
            exact Or.inl ⟨l0, l1, l2, true, l4, l5, l6, l7, l8, l9, l10, l11, _, _, _, _, _, _, _, _, _, _, _, _, _, rfl, rfl, h0, h1, h2, Lib.hid fun _ => rfl, h4, h5, h6, h7, h8, h9, h10, h11, k1, k2, Lib.hid fun _ => rfl, k5, k6, k7, k9, k10, k11, hk⟩
          · have d3 : l3 = true := hdep _ rfl ⟨3, .data⟩ (by simp) rfl
            clear hdep
            have e3 := h3.out d3
            subst e3
            refine wpOp_step rfl (fun K' hK => ?_)
            obtain ⟨-, x1, x2, x3⟩ := KS.out _ hk
            go_simp
            refine hK _ _ ?_
            clear hK K'
            exact Or.inl ⟨l0, l1, l2, l3, true, l5, l6, l7, l8, l9, l10, l11, _, _, _, _, _, _, _, _, _, _, _, _, _, rfl, rfl, h0, h1, h2, Lib.hid fun _ => rfl, Lib.hid fun _ => rfl, h5, h6, h7, h8, h9, h10, h11, k1, k2, Lib.hid fun _ => d3, Lib.hid fun _ => rfl, k6, k7, k9, k10, k11, hk⟩
          · have d4 : l4 = true := hdep _ rfl ⟨4, .data⟩ (by simp) rfl
            clear hdep
            have e4 := h4.out d4
            subst e4
            refine wpOp_step rfl (fun K' hK => ?_)
            go_simp
            refine hK _ _ ?_
            clear hK K'
            exact Or.inl ⟨l0, l1, l2, l3, l4, true, l6, l7, l8, l9, l10, l11, _, _, _, _, _, _, _, _, _, _, _, _, _, rfl, rfl, h0, h1, h2, h3, Lib.hid fun _ => rfl, Lib.hid fun _ => ⟨_, rfl, Has.made _ _⟩, h6, h7, h8, h9, h10, h11, k1, k2, k4, Lib.hid fun _ => d4, Lib.hid fun h => ⟨rfl, (k6.out h).2⟩, k7, k9, k10, k11, hk.alloc _⟩
          · have d5 : l5 = true := hdep _ rfl ⟨5, .data⟩ (by simp) rfl
            have d2 : l2 = true := hdep _ rfl ⟨2, .chain⟩ (by simp) rfl
            clear hdep
            obtain ⟨g, rfl, hg⟩ := h5.out d5
            have e2 := h2.out d2
            subst e2
            refine wpOp_step rfl (fun K' hK => ?_)
            go_simp
            refine (HR2.out _ _ hg hk).mono ?_
            rintro e W' ⟨rfl, hW'⟩
            refine hK _ _ ?_
            clear hK K'
            exact Or.inl ⟨l0, l1, l2, l3, l4, l5, true, l7, l8, l9, l10, l11, _, _, _, _, _, _, _, _, _, _, _, _, _, rfl, rfl, h0, h1, Lib.hid fun _ => rfl, h3, h4, Lib.hid fun _ => ⟨_, rfl, hg.trans hW'⟩, Lib.hid fun _ => rfl, h7, h8, h9, h10, h11, k1, k2, k4, k5, Lib.hid fun _ => ⟨d5, d2⟩, Lib.hid fun h => ⟨(k7.out h).1, rfl⟩, k9, Lib.hid fun h => ⟨(k10.out h).1, rfl⟩, k11, hk.trans hW'⟩
          · have d2 : l2 = true := hdep _ rfl ⟨2, .data⟩ (by simp) rfl
            have d6 : l6 = true := hdep _ rfl ⟨6, .data⟩ (by simp) rfl
            clear hdep
            have e2 := h2.out d2
            subst e2
            have e6 := h6.out d6
            subst e6
            refine wpOp_step rfl (fun K' hK => ?_)
            have hcat : ¬ (9223372036854775807 < Q1.size + Q2.size) := by omega
            go_simp
            refine hK _ _ ?_
            clear hK K'
            exact Or.inl ⟨l0, l1, l2, l3, l4, l5, l6, true, l8, l9, l10, l11, _, _, _, _, _, _, _, _, _, _, _, _, _, rfl, rfl, h0, h1, Lib.hid fun _ => rfl, h3, h4, h5, Lib.hid fun _ => rfl, Lib.hid fun _ => rfl, h8, h9, h10, h11, k1, k2, k4, k5, k6, Lib.hid fun _ => ⟨d2, d6⟩, k9, k10, Lib.hid fun h => ⟨rfl, (k11.out h).2⟩, hk⟩
          · clear hdep
            refine wpOp_step rfl (fun K' hK => ?_)
            go_simp
            refine hK _ _ ?_
            clear hK K'
            exact Or.inl ⟨l0, l1, l2, l3, l4, l5, l6, l7, true, l9, l10, l11, _, _, _, _, _, _, _, _, _, _, _, _, _, rfl, rfl, h0, h1, h2, h3, h4, h5, h6, h7, Lib.hid fun _ => rfl, h9, h10, h11, k1, k2, k4, k5, k6, k7, Lib.hid fun _ => rfl, k10, k11, hk⟩
          · have d8 : l8 = true := hdep _ rfl ⟨8, .data⟩ (by simp) rfl
            clear hdep
            have e8 := h8.out d8
            subst e8
            refine wpOp_step rfl (fun K' hK => ?_)
            obtain ⟨-, x1, x2, x3⟩ := KS.out _ hk
            go_simp
            refine hK _ _ ?_
            clear hK K'
            exact Or.inl ⟨l0, l1, l2, l3, l4, l5, l6, l7, l8, true, l10, l11, _, _, _, _, _, _, _, _, _, _, _, _, _, rfl, rfl, h0, h1, h2, h3, h4, h5, h6, h7, Lib.hid fun _ => rfl, Lib.hid fun _ => rfl, h10, h11, k1, k2, k4, k5, k6, k7, Lib.hid fun _ => d8, Lib.hid fun h => ⟨rfl, (k10.out h).2⟩, k11, hk⟩
          · have d9 : l9 = true := hdep _ rfl ⟨9, .data⟩ (by simp) rfl
            have d6 : l6 = true := hdep _ rfl ⟨6, .chain⟩ (by simp) rfl
            clear hdep
            have e9 := h9.out d9
            subst e9
            have e6 := h6.out d6
            subst e6
            refine wpOp_step rfl (fun K' hK => ?_)
            go_simp
            refine (HR3.out _ hk).mono ?_
            rintro e W' ⟨rfl, hW'⟩
            refine hK _ _ ?_
            clear hK K'
            exact Or.inl ⟨l0, l1, l2, l3, l4, l5, l6, l7, l8, l9, true, l11, _, _, _, _, _, _, _, _, _, _, _, _, _, rfl, rfl, h0, h1, h2, h3, h4, Lib.hid fun h => (h5.out h).imp fun _ hh => ⟨hh.1, hh.2.trans hW'⟩, Lib.hid fun _ => rfl, h7, h8, Lib.hid fun _ => rfl, Lib.hid fun _ => rfl, h11, k1, k2, k4, k5, k6, k7, k9, Lib.hid fun _ => ⟨d9, d6⟩, Lib.hid fun h => ⟨(k11.out h).1, rfl⟩, hk.trans hW'⟩
          · have d7 : l7 = true := hdep _ rfl ⟨7, .data⟩ (by simp) rfl
            have d10 : l10 = true := hdep _ rfl ⟨10, .data⟩ (by simp) rfl
            clear hdep
            have e7 := h7.out d7
            subst e7
            have e10 := h10.out d10
            subst e10
            refine wpOp_step rfl (fun K' hK => ?_)
            have hcat : ¬ (9223372036854775807 < Q1.size + Q2.size + Q3.size) := by omega
            go_simp
            refine hK _ _ ?_
            clear hK K'
            exact Or.inl ⟨l0, l1, l2, l3, l4, l5, l6, l7, l8, l9, l10, true, _, _, _, _, _, _, _, _, _, _, _, _, _, rfl, rfl, h0, h1, h2, h3, h4, h5, h6, Lib.hid fun _ => rfl, h8, h9, Lib.hid fun _ => rfl, Lib.hid fun _ => rfl, k1, k2, k4, k5, k6, k7, k9, k10, Lib.hid fun _ => ⟨d7, d10⟩, hk⟩
          · have d11 : l11 = true := hdep _ rfl ⟨11, .data⟩ (by simp) rfl
            have d10 : l10 = true := hdep _ rfl ⟨10, .chain⟩ (by simp) rfl
            clear hdep
            obtain ⟨d7, -⟩ := k11.out d11
            obtain ⟨d9, d6⟩ := k10.out d10
            obtain ⟨d2, -⟩ := k7.out d7
            obtain ⟨d5, -⟩ := k6.out d6
            have d4 := k5.out d5
            have d3 := k4.out d4
            have d1 := k2.out d2
            have d0 := k1.out d1
            have d8 := k9.out d9
            have e11 := h11.out d11
            subst e11
            have e10 := h10.out d10
            subst e10
            refine wpOp_step rfl (fun K' hK => ?_)
            go_simp
            refine (HB33.out _ _ hk (by simp only [ByteArray.size_append]; omega)).mono ?_
            rintro e W' ⟨⟨nn, rfl⟩, hMid⟩
            refine hK _ _ ?_
            clear hK K'
            subst d0 d1 d2 d3 d4 d5 d6 d7 d8 d9 d10 d11
            simp only [bytesOf_app] at hMid
            exact Or.inr ⟨_, _, _, _, _, _, _, _, _, _, _, _, _, rfl, rfl, hMid⟩
        · rw [ready_nil_of_count (by decide)] at hi
          cases hi
      · intro listed a W hI hr
        rcases hI with ⟨l0, l1, l2, l3, l4, l5, l6, l7, l8, l9, l10, l11, v0, v1, v2, v3, v4, v5, v6, v7, v8, v9, v10, v11, v12, rfl, rfl, h0, h1, h2, h3, h4, h5, h6, h7, h8, h9, h10, h11, k1, k2, k4, k5, k6, k7, k9, k10, k11, hk⟩ | ⟨v0, v1, v2, v3, v4, v5, v6, v7, v8, v9, v10, v11, v12, rfl, rfl, hk⟩
        · refine absurd (listed_all ?_ ?_ hr 12 ?_) ?_
          · rfl
          · kernel_rfl
          · show 12 < 13
            decide
          · simp
        · go_wp2_with fail
          go_meet
          exact hk
      · exact Or.inl ⟨false, false, false, false, false, false, false, false, false, false, false, false, undef, undef, undef, undef, undef, undef, undef, undef, undef, undef, undef, undef, undef, rfl, rfl, Lib.hid (by simp), Lib.hid (by simp), Lib.hid (by simp), Lib.hid (by simp), Lib.hid (by simp), Lib.hid (by simp), Lib.hid (by simp), Lib.hid (by simp), Lib.hid (by simp), Lib.hid (by simp), Lib.hid (by simp), Lib.hid (by simp), Lib.hid (by simp), Lib.hid (by simp), Lib.hid (by simp), Lib.hid (by simp), Lib.hid (by simp), Lib.hid (by simp), Lib.hid (by simp), Lib.hid (by simp), Lib.hid (by simp), k00.drew⟩
    case rest =>
      obtain ⟨hIc, hbc⟩ := hcut
      have hQQ : bytesOf Q1 ++ bytesOf Q2 ++ bytesOf Q3 = Tk.unlines (headLines t) := by
        rw [HB1.out, HB2.out, HB3.out]
        simp [headLines, Tk.unlines, rowText, Tk.numbers]
      have hHl : (Tk.unlines (headLines t)).length ≤ 300 := by
        rw [← hQQ, List.length_append, List.length_append, bytesOf_len, bytesOf_len, bytesOf_len]
        omega
      rw [hQQ] at hIc
      clear hQQ HR1 HR2 HR3 HB33 KS KM HW3
      have x0 : wc.cell? ⟨w.heap.size, 0, none⟩ = some (.slice A1 t.tasks.length c1) := (hbc.cell (p := ⟨w.heap.size, 0, none⟩) hlt2).trans (by have := wa2.cell 0; simpa using this)
      have HB12 := Lib.hid hb12
      have hops : ∀ x ∈ t.tasks, x.ops.length ≤ 100 := by
        intro x hx
        have h := HF.out
        unfold Tk.Table.fits at h
        rw [Bool.and_eq_true] at h
        have h := List.all_eq_true.1 h.2 x hx
        unfold Tk.Task.fits at h
        rw [Bool.and_eq_true] at h
        exact (of_decide_eq_true h.1).2.2
      have HOPS := Lib.hid hops
      have ET : Hid (Tk.text t = Tk.unlines (headLines t) ++ Tk.unlines (t.tasks.flatMap Tk.taskLines)) := by
        show _ = _
        unfold Tk.text
        rw [HF.out, if_pos rfl, textLines_head, unlines_app]
      clear hops hb12 hb1 hb2 hb3 hb13 k00 hlt3 wa wa2
      go_wp2_with fail
      go_loopg [30] t.tasks.length (fun kk i wr => ∃ (j : Nat) (l : List UInt8), j ≤ t.tasks.length ∧ i = .int .i64 j ∧ l = Tk.unlines (headLines t) ++ Tk.unlines ((t.tasks.take j).flatMap Tk.taskLines) ∧ l.length ≤ 300 + 3000 * j ∧ HeadMid w2 l wr ∧ t.tasks.length - j ≤ kk)
      case atStart => exact ⟨0, _, Nat.zero_le _, rfl, by simp [Tk.unlines], by omega, ⟨hIc, hbc⟩, by omega⟩
      case round =>
        obtain ⟨j, l, hj, rfl, hl, hll, ⟨hIr, hbr⟩, hkk⟩ := hrel
        obtain ⟨wo, rfl⟩ : ∃ wo : World, wo = wr := ⟨_, rfl⟩
        have HL := Lib.hid hl
        have HIr := Lib.hid hIr
        clear hl hIr
        have hzr := hbr.size
        by_cases hlt : j < t.tasks.length
        · have hlt' : (j : Int) < t.tasks.length := by omega
          have HB := HB12.out.trans (hbr.mono hz2)
          obtain ⟨ad, A, c, eA, had, hc0', hc1', hro, hln⟩ := HR.out.task j hlt
          subst eA
          have hc0 := (HB.cell (p := ad.add (j * 2)) (by rw [block_of_add]; exact had)).trans hc0'
          have hc1 := (HB.cell (p := ad.add (j * 2 + 1)) (by rw [block_of_add]; exact had)).trans hc1'
          clear hc0' hc1'
          have hmem := List.getElem_mem hlt
          have hpr := HRD.out.prio _ hmem
          have hol := HOPS.out _ hmem
          have HOO := Lib.hid (HRD.out.ops _ hmem)
          have HT : Hid (t.tasks.take (j + 1) = t.tasks.take j ++ [t.tasks[j]]) := List.take_succ_eq_append_getElem hlt
          clear hmem
          generalize t.tasks[j] = x at *
          obtain ⟨pr, ops⟩ := x
          have hc1' : wo.cell? ⟨(ad.add (j * 2)).block, (ad.add (j * 2)).off + 1, none⟩ = some (.slice A ops.length c) := by rw [← add_pos _ 1 (by decide), add_of_add]; exact hc1
          have HRO := Lib.hid hro
          have HBo := Lib.hid HB
          clear hro hln HB
          obtain ⟨Q, eQ⟩ : ∃ Q : ByteArray, (⟨(rowText [116, 97, 115, 107] [pr]).toArray⟩ : ByteArray) = Q := ⟨_, rfl⟩
          have bQ : bytesOf Q = Tk.unlines [[116, 97, 115, 107] ++ Tk.numbers [pr]] := by rw [← eQ, bytesOf_mk]; simp [Tk.unlines, rowText]
          have zQ : (bytesOf Q).length ≤ 20 := by
            rw [← eQ, bytesOf_mk]
            have := numbers_len [pr] (by intro n hn; rw [List.mem_singleton.1 hn]; exact hpr)
            simp [rowText] at this ⊢
            omega
          have RT : ∀ W g, Has g pr W → Below w.heap.size w W → Calls Tryd.prog 34 #[.string ⟨#[116, 97, 115, 107]⟩, .slice (some ⟨g, 0, none⟩) 1 1] W fun e w' => e = .returned (.string Q) ∧ Below W.heap.size W w' := fun W g ⟨hg, hc⟩ hW => by
            rw [← eQ]
            exact row_any (l := [pr]) (B := W.heap.size) ⟨#[116, 97, 115, 107]⟩ (by decide) ⟨rfl, fun _ => ⟨⟨g, 0, none⟩, rfl, hg, fun j u hj => by
              rcases j with _ | j
              · simp [intV] at hj
                subst hj
                exact hc
              · simp [intV] at hj⟩⟩ (Nat.le_refl _) (by simp) (by intro n hn; rw [List.mem_singleton.1 hn]; exact hpr) (HP.out.below hW)
          clear eQ
          have HRT := Lib.hid RT
          have HbQ := Lib.hid bQ
          clear RT bQ
          go_wp2_with fail
          refine (HRT.out _ _ ?_ ?_).mono ?_
          · refine ⟨by simp, ?_⟩
            have hmade := (Whole.made (wo.alloc (.cells #[.int .i64 pr, .slice A ops.length c] 32)) 3 #[.int .i64 pr]).cell 0
            rw [show (wo.alloc (.cells #[.int .i64 pr, .slice A ops.length c] 32)).heap.size = wo.heap.size + 1 by simp] at hmade
            exact hmade
          · exact HBo.out.trans ((((Below.refl _ _).alloc (Nat.le_refl _) _).alloc (by simp) _).mono (by omega))
          rintro e w4 ⟨rfl, hb4⟩
          have hb04 : Below wo.heap.size wo w4 := (((Below.refl _ _).alloc (Nat.le_refl _) _).alloc (by simp) _).trans (hb4.mono (by simp; omega))
          have wx4 : Whole w4 wo.heap.size 32 #[.int .i64 pr, .slice A ops.length c] := ((Whole.made wo 32 _).alloc _).same (hb4.block _ (by simp; omega))
          clear hb4
          go_wp2_with fail
          refine (writeString_stays w2.heap.size w2.heap.size _ Q w4 (builder_below HIr.out hb04) ?_ ?_).mono ?_
          · rw [Lib.byteCells_length, ← bytesOf_len]
            omega
          · have := hb04.size
            omega
          rintro e w5 ⟨⟨nn, rfl⟩, hI5, hb5, hs5⟩
          have wx5 := hs5 _ _ _ (by decide) (by decide) wx4
          have e1 := wx5.cell 1
          simp at e1
          have hbr5 : Below w2.heap.size w2 w5 := (hbr.trans (hb04.mono hzr)).trans hb5
          clear hs5 wx4 wx5 hb5 hb04
          go_wp2_with fail
          go_loopg [42] ops.length (fun k2 i wx => ∃ (m : Nat) (q : List UInt8), m ≤ ops.length ∧ i = .int .i64 m ∧ q = l ++ bytesOf Q ++ Tk.unlines ((ops.take m).map Tk.opLine) ∧ q.length ≤ 320 + 3000 * j + 20 * m ∧ HeadMid w2 q wx ∧ ops.length - m ≤ k2)
          case atStart => exact ⟨0, _, Nat.zero_le _, rfl, by simp [Tk.unlines], by rw [List.length_append]; omega, ⟨builder_app hI5, hbr5⟩, by omega⟩
          case round =>
            obtain ⟨m, q, hm, rfl, hq, hql, ⟨hIi, hbi⟩, hk2⟩ := hrel
            obtain ⟨wi, rfl⟩ : ∃ wi : World, wi = wr := ⟨_, rfl⟩
            have HQ := Lib.hid hq
            have HIi := Lib.hid hIi
            clear hq hIi
            have hzi := hbi.size
            by_cases hlm : m < ops.length
            · have hlm' : (m : Int) < ops.length := by omega
              have HB2 := HB12.out.trans (hbi.mono hz2)
              obtain ⟨ad2, eA2, had2, o0, o1, o2⟩ := (HRO.out.below HB2 (Nat.le_refl _)).op hlm
              subst eA2
              obtain ⟨kd, ek, hk15, a1, a2, b1, b2, hb, ha⟩ := HOO.out ops[m] (List.getElem_mem hlm)
              have HTm : Hid (ops.take (m + 1) = ops.take m ++ [ops[m]]) := List.take_succ_eq_append_getElem hlm
              generalize ops[m] = x at *
              obtain ⟨kind, a, b⟩ := x
              have ek' : kind = kd := ek
              subst ek'
              clear ek hb ha
              have o1' : wi.cell? ⟨(ad2.add (m * 3)).block, (ad2.add (m * 3)).off + 1, none⟩ = some (.int .i64 a) := by rw [← add_pos _ 1 (by decide), add_of_add]; exact o1
              have o2' : wi.cell? ⟨(ad2.add (m * 3)).block, (ad2.add (m * 3)).off + 2, none⟩ = some (.int .i64 b) := by rw [← add_pos _ 2 (by decide), add_of_add]; exact o2
              obtain ⟨N, p, eN, hN, hNs, ep, ep2, hp⟩ := op_facts kd hk15
              have HN := Lib.hid hN
              have EP2 := Lib.hid ep2
              have HBi := Lib.hid HB2
              clear hN ep2 HB2
              go_wp2_with fail
              refine (shape_any _ kd hk15).mono ?_
              rintro e w5 ⟨rfl, hbs⟩
              have hwo : Whole w5 wi.heap.size 34 #[.int .i64 kd, .int .i64 a, .int .i64 b] := (Whole.made wi 34 _).same (hbs.block _ (by simp))
              have hi5 : Below wi.heap.size wi w5 := ((Below.refl _ _).alloc (Nat.le_refl _) _).trans (hbs.mono (by simp))
              have hbi5 : Below w2.heap.size w2 w5 := hbi.trans (hi5.mono hzi)
              have HI5 := Lib.hid (builder_below HIi.out hi5)
              have HB5 := Lib.hid (HBi.out.trans (hi5.mono (by omega)))
              have hz25 := hbi5.size
              have hz5 : w.heap.size ≤ w5.heap.size := by omega
              have y0 := hwo.cell 0
              have y1 := hwo.cell 1
              have y2 := hwo.cell 2
              have hyl := hwo.lt
              simp at y0 y1 y2
              clear hbs hi5 hwo
              unfold shapeV
              rw [eN, ep]
              generalize (shapes[kd]'hk15).low = lo
              generalize (shapes[kd]'hk15).a = am
              generalize (shapes[kd]'hk15).b = bm
              clear eN ep
              rcases hp with rfl | rfl | rfl
              · have hla : ([] : List Int).length ≤ 2 := by simp
                have hna : ∀ n ∈ ([] : List Int), -1 ≤ n ∧ n ≤ 9999 := by simp
                obtain ⟨Q, eQ⟩ : ∃ Q : ByteArray, (⟨(rowText (bytesOf (⟨#[32]⟩ ++ N)) []).toArray⟩ : ByteArray) = Q := ⟨_, rfl⟩
                have bQ : bytesOf Q = Tk.unlines [Tk.opLine ⟨kd, a, b⟩] := by rw [← eQ, bytesOf_mk, opLine_text HN.out [] (by rw [EP2.out]; rfl)]
                have zQ : (bytesOf Q).length ≤ 20 := by rw [← eQ, bytesOf_mk]; exact opRow_len hNs hla hna
                have RR := Lib.hid (fun (W : World) (hW : Below w5.heap.size w5 W) (hr : Reads W (w5.heap.size + 2) 1 (some ⟨w5.heap.size + 1, 0, none⟩) ([] : List Int).length (intV [])) (hz : w5.heap.size + 2 ≤ W.heap.size) => row_any (c := 2) (⟨#[32]⟩ ++ N) (sp_size hNs) hr hz (by omega) hna (HP.out.below (HB5.out.trans (hW.mono hz5))))
                rw [eQ] at RR
                clear eQ
                have HQb := Lib.hid bQ
                have hR0 := Lib.hid (args_reads w5 (.cells #[.string N, .int .i64 0, .int .i64 lo, .int .i64 am, .int .i64 bm] 78) 3 [] #[.int .i64 a, .int .i64 b] (fun j u hj => by simp [intV] at hj))
                clear bQ
                have hct : ¬ (9223372036854775807 < 1 + N.size) := by omega
                have hct2 : ¬ (9223372036854775807 < (⟨#[32]⟩ : ByteArray).size + N.size) := hct
                go_wp2_with fail
                refine wp_region_still_tail 7 (by kernel_rfl) (by kernel_rfl) ?_
                simp only [List.take_succ_cons, List.take_zero, List.drop_succ_cons, List.drop_zero]
                change wpStill _ _ (World.drewN _ 1) _ _ _
                repeat still_step
                refine wpStill_nil ?_
                change wpList _ _ _ _ _ (World.drewN _ 1)
                go_wp2_with fail
                refine (RR.out _ ?_ ?_ ?_).mono ?_
                · exact (((Below.refl _ _).alloc (Nat.le_refl _) _).alloc (by simp) _).drewN' 1
                · exact hR0.out.drewN 1
                · simp
                rintro e w6 ⟨rfl, hb6⟩
                have hb56 : Below w5.heap.size w5 w6 := ((((Below.refl _ _).alloc (Nat.le_refl _) _).alloc (by simp) _).drewN' 1).trans (hb6.mono (by simp; omega))
                clear hb6
                go_wp2_with fail
                refine (writeString_stays w2.heap.size w2.heap.size _ Q w6 (builder_below HI5.out hb56) ?_ ?_).mono ?_
                · rw [Lib.byteCells_length, ← bytesOf_len]
                  omega
                · have := hb56.size
                  omega
                rintro e w7 ⟨⟨nn, rfl⟩, hI7, hb7, -⟩
                go_wp2_with fail
                go_roundg (ops.length - (m + 1))
                case measure => omega
                case rel => exact ⟨m + 1, q ++ bytesOf Q, by omega, by go_num, by rw [HQ.out, HQb.out, HTm.out, List.map_append, unlines_app, List.append_assoc]; rfl, by rw [List.length_append]; omega, ⟨builder_app hI7, (hbi5.trans (hb56.mono hz25)).trans hb7⟩, Nat.le_refl _⟩
              · have hla : ([a] : List Int).length ≤ 2 := by simp
                have hna : ∀ n ∈ ([a] : List Int), -1 ≤ n ∧ n ≤ 9999 := by simp; omega
                obtain ⟨Q, eQ⟩ : ∃ Q : ByteArray, (⟨(rowText (bytesOf (⟨#[32]⟩ ++ N)) [a]).toArray⟩ : ByteArray) = Q := ⟨_, rfl⟩
                have bQ : bytesOf Q = Tk.unlines [Tk.opLine ⟨kd, a, b⟩] := by rw [← eQ, bytesOf_mk, opLine_text HN.out [a] (by rw [EP2.out]; rfl)]
                have zQ : (bytesOf Q).length ≤ 20 := by rw [← eQ, bytesOf_mk]; exact opRow_len hNs hla hna
                have RR := Lib.hid (fun (W : World) (hW : Below w5.heap.size w5 W) (hr : Reads W (w5.heap.size + 2) 1 (some ⟨w5.heap.size + 1, 0, none⟩) ([a] : List Int).length (intV [a])) (hz : w5.heap.size + 2 ≤ W.heap.size) => row_any (c := 2) (⟨#[32]⟩ ++ N) (sp_size hNs) hr hz (by omega) hna (HP.out.below (HB5.out.trans (hW.mono hz5))))
                rw [eQ] at RR
                clear eQ
                have HQb := Lib.hid bQ
                have hR0 := Lib.hid (args_reads w5 (.cells #[.string N, .int .i64 1, .int .i64 lo, .int .i64 am, .int .i64 bm] 78) 3 [a] #[.int .i64 a, .int .i64 b] (args_one a b))
                clear bQ
                have hct : ¬ (9223372036854775807 < 1 + N.size) := by omega
                have hct2 : ¬ (9223372036854775807 < (⟨#[32]⟩ : ByteArray).size + N.size) := hct
                go_wp2_with fail
                refine wp_region_still_tail 7 (by kernel_rfl) (by kernel_rfl) ?_
                simp only [List.take_succ_cons, List.take_zero, List.drop_succ_cons, List.drop_zero]
                change wpStill _ _ (World.drewN _ 1) _ _ _
                repeat still_step
                refine wpStill_nil ?_
                change wpList _ _ _ _ _ (World.drewN _ 1)
                go_wp2_with fail
                refine (RR.out _ ?_ ?_ ?_).mono ?_
                · exact (((Below.refl _ _).alloc (Nat.le_refl _) _).alloc (by simp) _).drewN' 1
                · exact hR0.out.drewN 1
                · simp
                rintro e w6 ⟨rfl, hb6⟩
                have hb56 : Below w5.heap.size w5 w6 := ((((Below.refl _ _).alloc (Nat.le_refl _) _).alloc (by simp) _).drewN' 1).trans (hb6.mono (by simp; omega))
                clear hb6
                go_wp2_with fail
                refine (writeString_stays w2.heap.size w2.heap.size _ Q w6 (builder_below HI5.out hb56) ?_ ?_).mono ?_
                · rw [Lib.byteCells_length, ← bytesOf_len]
                  omega
                · have := hb56.size
                  omega
                rintro e w7 ⟨⟨nn, rfl⟩, hI7, hb7, -⟩
                go_wp2_with fail
                go_roundg (ops.length - (m + 1))
                case measure => omega
                case rel => exact ⟨m + 1, q ++ bytesOf Q, by omega, by go_num, by rw [HQ.out, HQb.out, HTm.out, List.map_append, unlines_app, List.append_assoc]; rfl, by rw [List.length_append]; omega, ⟨builder_app hI7, (hbi5.trans (hb56.mono hz25)).trans hb7⟩, Nat.le_refl _⟩
              · have hla : ([a, b] : List Int).length ≤ 2 := by simp
                have hna : ∀ n ∈ ([a, b] : List Int), -1 ≤ n ∧ n ≤ 9999 := by simp; omega
                obtain ⟨Q, eQ⟩ : ∃ Q : ByteArray, (⟨(rowText (bytesOf (⟨#[32]⟩ ++ N)) [a, b]).toArray⟩ : ByteArray) = Q := ⟨_, rfl⟩
                have bQ : bytesOf Q = Tk.unlines [Tk.opLine ⟨kd, a, b⟩] := by rw [← eQ, bytesOf_mk, opLine_text HN.out [a, b] (by rw [EP2.out]; rfl)]
                have zQ : (bytesOf Q).length ≤ 20 := by rw [← eQ, bytesOf_mk]; exact opRow_len hNs hla hna
                have RR := Lib.hid (fun (W : World) (hW : Below w5.heap.size w5 W) (hr : Reads W (w5.heap.size + 2) 1 (some ⟨w5.heap.size + 1, 0, none⟩) ([a, b] : List Int).length (intV [a, b])) (hz : w5.heap.size + 2 ≤ W.heap.size) => row_any (c := 2) (⟨#[32]⟩ ++ N) (sp_size hNs) hr hz (by omega) hna (HP.out.below (HB5.out.trans (hW.mono hz5))))
                rw [eQ] at RR
                clear eQ
                have HQb := Lib.hid bQ
                have hR0 := Lib.hid (args_reads w5 (.cells #[.string N, .int .i64 2, .int .i64 lo, .int .i64 am, .int .i64 bm] 78) 3 [a, b] #[.int .i64 a, .int .i64 b] (args_two a b))
                clear bQ
                have hct : ¬ (9223372036854775807 < 1 + N.size) := by omega
                have hct2 : ¬ (9223372036854775807 < (⟨#[32]⟩ : ByteArray).size + N.size) := hct
                go_wp2_with fail
                refine wp_region_still_tail 7 (by kernel_rfl) (by kernel_rfl) ?_
                simp only [List.take_succ_cons, List.take_zero, List.drop_succ_cons, List.drop_zero]
                change wpStill _ _ (World.drewN _ 1) _ _ _
                repeat still_step
                refine wpStill_nil ?_
                change wpList _ _ _ _ _ (World.drewN _ 1)
                go_wp2_with fail
                refine (RR.out _ ?_ ?_ ?_).mono ?_
                · exact (((Below.refl _ _).alloc (Nat.le_refl _) _).alloc (by simp) _).drewN' 1
                · exact hR0.out.drewN 1
                · simp
                rintro e w6 ⟨rfl, hb6⟩
                have hb56 : Below w5.heap.size w5 w6 := ((((Below.refl _ _).alloc (Nat.le_refl _) _).alloc (by simp) _).drewN' 1).trans (hb6.mono (by simp; omega))
                clear hb6
                go_wp2_with fail
                refine (writeString_stays w2.heap.size w2.heap.size _ Q w6 (builder_below HI5.out hb56) ?_ ?_).mono ?_
                · rw [Lib.byteCells_length, ← bytesOf_len]
                  omega
                · have := hb56.size
                  omega
                rintro e w7 ⟨⟨nn, rfl⟩, hI7, hb7, -⟩
                go_wp2_with fail
                go_roundg (ops.length - (m + 1))
                case measure => omega
                case rel => exact ⟨m + 1, q ++ bytesOf Q, by omega, by go_num, by rw [HQ.out, HQb.out, HTm.out, List.map_append, unlines_app, List.append_assoc]; rfl, by rw [List.length_append]; omega, ⟨builder_app hI7, (hbi5.trans (hb56.mono hz25)).trans hb7⟩, Nat.le_refl _⟩
            · have hge : ¬ (m : Int) < ops.length := by omega
              obtain rfl : m = ops.length := by omega
              go_wp2_with fail
              go_roundg (t.tasks.length - (j + 1))
              case measure => omega
              case rel => exact ⟨j + 1, q, by omega, by go_num, by rw [HQ.out, HL.out, HT.out, HbQ.out, List.take_length, List.flatMap_append, unlines_app, List.append_assoc, List.append_assoc]; simp [Tk.unlines, Tk.taskLines], by omega, ⟨HIi.out, hbi⟩, Nat.le_refl _⟩
        · have hge : ¬ (j : Int) < t.tasks.length := by omega
          obtain rfl : j = t.tasks.length := by omega
          go_wp2_with fail
          refine (Tryd.Builder_String_any _ _ l _ HIr.out hzr).mono ?_
          rintro e w9 ⟨rfl, hb9⟩
          go_wp2_with fail
          go_ret
          exact ⟨by rw [ET.out, HL.out, List.take_length]; rfl, HB12.out.trans ((hbr.trans hb9).mono hz2), by rw [ET.out]; rw [HL.out, List.take_length] at hll; omega⟩
end Go.Proofs.YtadcfedjmofjjaaDoor
