/-
  The builder's WriteString, with what it leaves alone: every block of another kind.
-/
import Derived.Test.YtadcfedjmofjjaaDoorBuild
namespace Go.Proofs.YtadcfedjmofjjaaDoor
open Go.RowKit
/-- A builder's block is of the builder's kind. -/
theorem isBuilder_block {B b : Nat} {bs : List Value} {w : World} (h : Lib.IsBuilder 71 5 B b bs w) : ∃ cs, Whole w b 71 cs := by
  rcases h with ⟨_, v, h2, _⟩ | ⟨_, v, h2, _⟩
  · exact ⟨_, h2⟩
  · exact ⟨_, h2⟩
theorem whole_kind_ne {w : World} {g b t t' : Nat} {cs cs' : Array Value} (h : Whole w g t cs) (h' : Whole w b t' cs') (hne : t ≠ t') : b ≠ g := by
  rintro rfl
  have h1 : w.heap[b]? = some (.cells cs t) := h
  have h2 : w.heap[b]? = some (.cells cs' t') := h'
  rw [h1] at h2
  injection h2 with h2
  injection h2 with _ h2
  exact hne h2
/-- What is of neither kind stays. -/
def Stays (w w' : World) : Prop := ∀ g t cs, t ≠ 5 → t ≠ 71 → Whole w g t cs → Whole w' g t cs
theorem copyCheck_stays (B b : Nat) (bs : List Value) (w : World) (h : Lib.IsBuilder 71 5 B b bs w) :
    Calls Tryd.prog 44 #[.pointer (some ⟨b, 0, none⟩)] w fun e w' => e = .returned (.tuple #[]) ∧ (Lib.BuilderAt 71 5 B b (.pointer (some ⟨b, 0, none⟩)) bs w' ∧ Below B w w' ∧ Stays w w') := by
  obtain ⟨cs0, hb0⟩ := isBuilder_block h
  rcases h with h | h
  · refine (copyCheck_fresh b w h.cell0 h.shape h.frozen0).mono ?_
    rintro e w' ⟨rfl, rfl⟩
    exact ⟨rfl, h.used _, (Below.refl B w).setCell (p := ⟨b, 0, none⟩) h.1 _, fun g t cs _ ht hw => (Below.heap_setCell _ _ _ _ (fun e => whole_kind_ne hw hb0 ht (by rw [e]))).trans hw⟩
  · refine (copyCheck_used b w h.cell0).mono ?_
    rintro e w' ⟨rfl, rfl⟩
    exact ⟨rfl, h, Below.refl B _, fun _ _ _ _ _ h => h⟩
set_option maxRecDepth 100000 in
theorem writeString_stays (B b : Nat) (bs : List Value) (s : ByteArray) (w : World) (h : Lib.IsBuilder 71 5 B b bs w) (hlen : bs.length + s.size ≤ 1000000) (hBw : B ≤ w.heap.size) :
    Calls Tryd.prog 33 #[.pointer (some ⟨b, 0, none⟩), .string s] w fun e w' => (∃ n, e = .returned (.tuple #[.int .i64 n, .nilIface])) ∧ (Lib.IsBuilder 71 5 B b (bs ++ Lib.strCells s) w' ∧ Below B w w' ∧ Stays w w') := by
  obtain ⟨i0, hi, hz0, hz1, hz2⟩ := info_parts info5
  go_enter Tryd.func33, Tryd.ntmps33
  go_wp2_with fail
  refine (copyCheck_stays B b bs _ h).mono ?_
  rintro e w1 ⟨rfl, h1, hb1, hs1⟩
  obtain ⟨hB, v, hbk, hown, hne⟩ := h1
  have hwk : Whole w1 b 71 #[.pointer (some ⟨b, 0, none⟩), v] := hbk
  have c0 := hwk.cell 0
  have c1 := hwk.cell 1
  simp at c0 c1
  have HS1 := Lib.hid hs1
  clear hs1
  go_wp2_with (at_builtin; refine Lib.wpList_append_own_string _ rfl _ _ 69 9 rfl B 5 i0 Tryd.underlying69 Tryd.underlying9 hi hz0 hz1 hz2 _ _ _ rfl hown s rfl ?c3 ?c4 ?c5 ?_)
  case c3 => unfold maxLen; omega
  case c4 => omega
  case c5 => have := hb1.size; omega
  intro v' w2 hown' hgrow _
  have hb2 : Whole w2 b 71 #[.pointer (some ⟨b, 0, none⟩), v] := hwk.same (hgrow.block b hwk.lt (fun e => hne e.symm))
  have hs2 : Hid (Stays w w2) := fun g t cs h5 h71 hw => (HS1.out g t cs h5 h71 hw).same (hgrow.block g (HS1.out g t cs h5 h71 hw).lt (fun e => row_whole_ne hown (HS1.out g t cs h5 h71 hw) (fun e => h5 e.symm) e.symm))
  have d0 := hb2.cell 0
  have d1 := hb2.cell 1
  have f1 := hb2.frozen 1
  simp at d0 d1
  obtain ⟨a', cap', rfl, _, _⟩ := row_slice hown'
  go_wp2_with fail
  go_ret2
  refine ⟨⟨_, rfl⟩, Or.inr ⟨hB, _, Whole.put (g := b) hb2 1 _, ?_, ?_⟩, ?_, ?_⟩
  · have hl : (bs ++ Lib.strCells s).length = bs.length + (Lib.strCells s).length := by simp
    rw [hl]
    first
      | exact row_kept hown' hb2 (by decide) _ _
      | (have hs : (Lib.strCells s).length = s.size := Lib.strCells_length s; rw [hs]; exact row_kept hown' hb2 (by decide) _ _)
  · exact row_whole_ne hown' hb2 (by decide)
  · exact (hb1.grown hgrow (by have := hb1.size; omega) (fun k hk => (hown.lt k hk).1)).setCell (p := ⟨b, 1, none⟩) hB _
  · exact fun g t cs h5 h71 hw => (hs2.out g t cs h5 h71 hw).same (Below.heap_setCell _ _ _ _ (fun e => whole_kind_ne (hs2.out g t cs h5 h71 hw) hb2 h71 (by rw [e])))
end Go.Proofs.YtadcfedjmofjjaaDoor
