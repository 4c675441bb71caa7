/-
  The law's first call: the example of the document.
-/
import Derived.Test.YtoidmljhlekbkaaDoorW11
import Derived.Test.YtoidmljhlekbkaaDoorNum
namespace Go.Proofs.YtoidmljhlekbkaaDoor
open Go.RowKit
/-- Tokens in memory, read. -/
theorem toks_form {w : World} {B : Nat} {v : Value} {l : List Lx.Tok} (h : w.ownsRow B 28 5 v l.length (toksCells l)) (hn : 0 < l.length) :
    ∃ g cap, v = .slice (some ⟨g, 0, none⟩) l.length cap ∧ B ≤ g ∧ g < w.heap.size ∧ ∀ j u, (toksCells l)[j]? = some u → w.cell? ⟨g, j, none⟩ = some u := by
  obtain ⟨g, cap, hv, hb, hlt⟩ := h.form hn
  refine ⟨g, cap, hv, hb, hlt, fun j u hu => ?_⟩
  have := h.cells (g := g) (by rw [hv]; rfl) j u hu
  have e : (⟨g, 0, none⟩ : Addr).add j = ⟨g, j, none⟩ := by unfold Addr.add; split <;> simp_all
  rwa [e] at this
theorem toks_len {w : World} {B : Nat} {v : Value} {l : List Lx.Tok} (h : w.ownsRow B 28 5 v l.length (toksCells l)) : ∃ a cap, v = .slice a l.length cap := by
  rcases h.2 with ⟨hv, h0⟩ | ⟨g, cap, cur, hv, _⟩
  · exact ⟨none, 0, by rw [hv, h0]⟩
  · exact ⟨_, _, hv⟩
def aliveSrc : ByteArray := ⟨#[108, 105, 32, 114, 49, 44, 32, 48, 120, 49, 48, 32, 59, 32, 120]⟩
theorem alive_toks : Lx.tokens aliveSrc = ([⟨1, [108, 105], 0, 1, 1⟩, ⟨1, [114, 49], 0, 1, 4⟩, ⟨4, [44], 0, 1, 6⟩, ⟨2, [], 16, 1, 8⟩, ⟨6, [], 0, 1, 16⟩], 0, 0, 0) := by kernel_rfl
theorem alive_any (w : World) (hT : Lib.Utf8Tabs 0 1 w) (h2 : 2 ≤ w.heap.size) : Calls Tryd.prog 9 #[] w fun e w' => e = .returned (.bool true) ∧ Below w.heap.size w w' := by
  go_enter Tryd.func9, Tryd.ntmps9
  go_wp2_with fail
  refine (tokens_any aliveSrc w hT h2).mono ?_
  rintro e w1 ⟨v, rfl, hown, hb⟩
  rw [alive_toks] at hown ⊢
  obtain ⟨g, cap, rfl, _, _, hc⟩ := toks_form hown (by decide)
  have k1 := hc 1 _ rfl
  have k2 := hc 17 _ rfl
  have k3 := hc 20 _ rfl
  go_wp2_with fail
  refine (num_any _ _).mono ?_
  rintro e w' ⟨rfl, rfl⟩
  go_wp2_with fail
  go_ret
  exact ⟨rfl, hb⟩
end Go.Proofs.YtoidmljhlekbkaaDoor
