/-
  KernFull: the table, and the row of what was seen.
-/
import Derived.Test.YtncbgnpoffolcaaOw
import Derived.Test.YtncbgnpoffolcaaWn
import Derived.Test.YtncbgnpoffolcaaFulS
import Derived.Laws.MakeOwn
namespace Go.Proofs.Ytncbgnpoffolcaa
open Go.RowKit
/-- Thirty-two marks. -/
def snA (f : Nat → Bool) : Array Value := ((List.range 32).map fun y => Value.bool (f y)).toArray
theorem snA_at (f : Nat → Bool) {y : Nat} (hy : y < 32) : (snA f)[y]? = some (.bool (f y)) := by
  unfold snA
  simp [hy]
theorem snA_put {f f' : Nat → Bool} {y : Nat} (hf : ∀ z, f' z = (f z || decide (y = z))) : (snA f).setIfInBounds y (.bool true) = snA f' := by
  apply Array.ext_getElem?
  intro z
  rw [Array.getElem?_setIfInBounds]
  unfold snA
  by_cases e : y = z
  · subst e
    by_cases h : y < 32
    · simp [h, hf]
    · simp [h]
  · by_cases h : z < 32
    · simp [h, hf, e]
    · simp [h, e]
theorem info4 : (Try.prog.info? 4).map (fun i => (i.zero, i.size, i.bytes)) = some (some (.bool false), 1, 1) := by kernel_rfl
theorem snA_made : madeCells (Value.bool false).cells 32 = snA fun _ => false := by
  unfold madeCells snA
  apply Array.ext_getElem?
  intro i
  by_cases h : i < 32
  · simp [Value.cells, Nat.mod_one, h]
  · simp [Value.cells, h]
theorem run_mk : ∀ W : World, (Instr.makeSlice 42 (.int .i64 32) (.int .i64 32)).run Try.prog W = .ok (.slice (some ⟨W.heap.size, 0, none⟩) 32 32) (W.alloc (.cells (snA fun _ => false) 4)) := by
  intro W
  obtain ⟨i0, hi, iz0, iz1, iz2⟩ := info_parts info4
  have := run_make (P := Try.prog) W 42 4 i0 (.bool false) (by kernel_rfl) hi iz0 .i64 .i64 32 32 (by decide) (by decide) (by rw [iz2]; decide) (by decide)
  rw [this, iz1]
  show Result.ok _ (W.alloc (.cells (madeCells (Value.bool false).cells 32) 4)) = _
  rw [snA_made]
  rfl
structure TLs (w1 W : World) (V V2 V3 : Value) (mu : Int) (l : List (Kn.Task × Option Addr × Nat)) (f : Nat → Bool) : Prop where
  tl : TL w1 W V V2 V3 mu l
  sn : Whole W (w1.heap.size + 1) 4 (snA f)
section
variable {w1 W W' w5 : World} {V V' V2 V3 : Value} {mu : Int} {l : List (Kn.Task × Option Addr × Nat)} {x : Kn.Task × Option Addr × Nat} {f f' : Nat → Bool}
theorem TLs.blk (h : TLs w1 W V V2 V3 mu l f) : Whole W w1.heap.size 26 #[V, V2, .int .i64 mu, V3] := h.tl.blk
theorem TLs.row (h : TLs w1 W V V2 V3 mu l f) : W.ownsRow (w1.heap.size + 1) 29 2 V l.length (tkC l) := h.tl.row
theorem TLs.keep (h : TLs w1 W V V2 V3 mu l f) (hb : Below W.heap.size W W') : TLs w1 W' V V2 V3 mu l f :=
  ⟨h.tl.keep hb, h.sn.same (hb.block _ h.sn.lt)⟩
theorem TLs.push (h : TLs w1 W V V2 V3 mu l f) (hx : OpsLie W x) (hown : w5.ownsRow (w1.heap.size + 1) 29 2 V' (l.length + 1) (tkC l ++ [.int .i64 x.1.prio, .slice x.2.1 x.1.ops.length x.2.2])) (hgrow : W.grownBy w5 V.ownBlock) :
    TLs w1 (w5.setCell ⟨w1.heap.size, 0, none⟩ V') V' V2 V3 mu (l ++ [x]) f :=
  ⟨h.tl.push hx hown hgrow, (h.sn.grown hgrow (own_block h.tl.row h.sn (by decide))).far (hp := Nat.succ_ne_self _) V'⟩
theorem TLs.at_ (h : TLs w1 W V V2 V3 mu l f) {y : Nat} (hy : y < 32) : W.cell? ⟨w1.heap.size + 1, y, none⟩ = some (.bool (f y)) := by
  rw [h.sn.cell, snA_at _ hy]
theorem TL.far {g t i : Nat} {cs : Array Value} {u : Value} (h : TL w1 W V V2 V3 mu l) (hx : Whole W g t cs) (h1 : 26 ≠ t) (h2 : 29 ≠ t) (h3 : 32 ≠ t) (hg : w1.heap.size ≤ g) : TL w1 (W.setCell ⟨g, i, none⟩ u) V V2 V3 mu l :=
  ⟨h.blk.far (h.blk.kind hx h1) u, row_same h.row fun k hk => Below.heap_setCell _ _ _ _ (fun q => own_block h.row hx h2 (by rw [hk]; exact congrArg some q)),
   fun x hm => ⟨(h.ops x hm).1, (h.ops x hm).2.imp id fun ⟨g', cur, e, hw, ht⟩ => ⟨g', cur, e, hw.far (hw.kind hx h3) u, ht⟩⟩, h.bel.setCell (p := ⟨g, i, none⟩) hg u⟩
theorem TLs.mark (h : TLs w1 W V V2 V3 mu l f) {y : Nat} (hf : ∀ z, f' z = (f z || decide (y = z))) : TLs w1 (W.setCell ⟨w1.heap.size + 1, y, none⟩ (.bool true)) V V2 V3 mu l f' :=
  ⟨h.tl.far h.sn (by decide) (by decide) (by decide) (Nat.le_succ _), by have := h.sn.put y (.bool true); rw [snA_put hf] at this; exact this⟩
theorem TLs.nil (w1 : World) (V2 V3 : Value) (mu : Int) (hf : ∀ y, f y = false) : TLs w1 ((w1.alloc (.cells #[.slice none 0 0, V2, .int .i64 mu, V3] 26)).alloc (.cells (snA fun _ => false) 4)) (.slice none 0 0) V2 V3 mu [] f :=
  ⟨(TL.nil w1 V2 V3 mu).keep ((Below.refl _ _).alloc (Nat.le_refl _) _), by
    have h := Whole.made (w1.alloc (.cells #[.slice none 0 0, V2, .int .i64 mu, V3] 26)) 4 (snA fun _ => false)
    rw [World.size_alloc] at h
    have e : f = fun _ => false := funext hf
    rw [e]
    exact h⟩
end
theorem full_hit {l : List Int} {j y : Nat} (e : prOf l j = (y : Int)) : ∀ z, Kn.hit (prOf l) (j + 1) z = (Kn.hit (prOf l) j z || decide (y = z)) := by
  intro z
  unfold Kn.hit
  rw [List.range_succ, List.any_append]
  congr 1
  rw [List.any_cons, List.any_nil, Bool.or_false, e]
  by_cases h : y = z
  · rw [decide_eq_true h, decide_eq_true (by omega)]
  · rw [decide_eq_false h, decide_eq_false (by omega)]
theorem full_more {l : List Int} {j y : Nat} (h : Kn.FPre (prOf l) j) (e : prOf l j = (y : Int)) (h1 : 1 ≤ y) (h2 : y ≤ 30) (hh : Kn.hit (prOf l) j y = false) (hj : j < 20) : Kn.FPre (prOf l) (j + 1) := by
  have hne : ∀ i, i < j → prOf l i ≠ (y : Int) := fun i hi q => by
    unfold Kn.hit at hh
    rw [List.any_eq_false] at hh
    exact hh i (List.mem_range.2 hi) (decide_eq_true q)
  refine ⟨by omega, fun i hi => ?_, fun i k hi hk q => ?_⟩
  · by_cases g : i = j
    · subst g
      rw [e]
      omega
    · exact h.pr i (by omega)
  · by_cases g : i = j
    · by_cases g2 : k = j
      · omega
      · subst g
        exact absurd (q.symm.trans e) (hne k (by omega))
    · by_cases g2 : k = j
      · subst g2
        exact absurd (q.trans e) (hne i (by omega))
      · exact h.inj i k (by omega) (by omega) q
/-- What is wanted, up to p. -/
def fullB (f : Nat → Bool) (p : Nat) : ByteArray := ⟨((0 :: (List.range' 1 p).filter fun y => f y).map fun y => UInt8.ofNat (97 + y % 26)).toArray⟩
theorem fullB_zero (f : Nat → Bool) : fullB f 0 = ⟨#[97]⟩ := rfl
theorem fullB_all (p : Nat → Int) (n : Nat) : fullB (Kn.hit p n) 30 = ⟨((0 :: Kn.fullV p n).map fun y => UInt8.ofNat (97 + y % 26)).toArray⟩ := rfl
theorem fullB_yes {f : Nat → Bool} {p : Nat} (h : f (p + 1) = true) : fullB f p ++ ⟨#[UInt8.ofNat (97 + (p + 1) % 26)]⟩ = fullB f (p + 1) := by
  have := str_add ((0 :: (List.range' 1 p).filter fun y => f y).map fun y => UInt8.ofNat (97 + y % 26)) [UInt8.ofNat (97 + (p + 1) % 26)]
  unfold fullB
  refine Eq.trans this ?_
  rw [List.range'_concat, List.filter_append, List.filter_cons, Nat.one_mul, Nat.add_comm 1 p, if_pos h]
  simp
theorem fullB_no {f : Nat → Bool} {p : Nat} (h : f (p + 1) = false) : fullB f (p + 1) = fullB f p := by
  unfold fullB
  rw [List.range'_concat, List.filter_append, List.filter_cons, Nat.one_mul, Nat.add_comm 1 p, if_neg (by rw [h]; decide)]
  simp
theorem fullB_size (f : Nat → Bool) (p : Nat) : (fullB f p).size ≤ p + 1 := by
  show Array.size _ ≤ _
  rw [List.size_toArray, List.length_map, List.length_cons]
  have := List.length_filter_le (fun y => f y) (List.range' 1 p)
  rw [List.length_range'] at this
  omega
theorem enc_letter (i : Nat) (hi : i < 26) : Utf8.encode (97 + (i : Int)) = ⟨#[UInt8.ofNat (97 + i)]⟩ := by
  have hd : i = 0 ∨ i = 1 ∨ i = 2 ∨ i = 3 ∨ i = 4 ∨ i = 5 ∨ i = 6 ∨ i = 7 ∨ i = 8 ∨ i = 9 ∨ i = 10 ∨ i = 11 ∨ i = 12 ∨ i = 13 ∨ i = 14 ∨ i = 15 ∨ i = 16 ∨ i = 17 ∨ i = 18 ∨ i = 19 ∨ i = 20 ∨ i = 21 ∨ i = 22 ∨ i = 23 ∨ i = 24 ∨ i = 25 := by omega
  rcases hd with rfl | rfl | rfl | rfl | rfl | rfl | rfl | rfl | rfl | rfl | rfl | rfl | rfl | rfl | rfl | rfl | rfl | rfl | rfl | rfl | rfl | rfl | rfl | rfl | rfl | rfl <;> rfl
end Go.Proofs.Ytncbgnpoffolcaa
