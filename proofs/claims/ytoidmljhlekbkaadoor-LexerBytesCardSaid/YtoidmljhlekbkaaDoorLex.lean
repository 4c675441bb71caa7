/-
  The lexer's own memory as a relation to its plain state.
-/
import Derived.Test.YtoidmljhlekbkaaDoorHeap
namespace Go.Proofs.YtoidmljhlekbkaaDoor
open Go.RowKit

def tokCells (t : Lx.Tok) : List Value := [.int .i64 t.kind, .string ⟨t.text.toArray⟩, .int .i64 t.n, .int .i64 t.line, .int .i64 t.col]
def toksCells (l : List Lx.Tok) : List Value := l.flatMap tokCells
def runeVals (l : List Int) : List Value := l.map (Value.int .i32)

/-- The pointer to what is wrong. -/
def BadIs (w : World) (B T : Nat) (D : Option Addr) : Option (Int × Int × Int) → Prop
  | none => D = none
  | some (a, b, e) => ∃ d, D = some ⟨d, 0, none⟩ ∧ B ≤ d ∧ d < T ∧ Whole w d 53 #[.int .i64 a, .int .i64 b, .int .i64 e]

/-- The memory of a lexer at block p, from block B on, below block T: the source s, the state x. -/
structure Lex (w : World) (B T p : Nat) (s : ByteArray) (x : Lx.St) (L O : Value) (D : Option Addr) : Prop where
  hB : B ≤ p
  hT : T ≤ w.heap.size
  pT : p < T
  blk : Whole w p 50 #[.string s, L, .int .i64 x.at_, .int .i64 x.line, .int .i64 x.col, O, .pointer D, .bool x.cut]
  runes : w.ownsRow B 21 1 L x.l.length (runeVals x.l)
  runesT : ∀ k, L.ownBlock = some k → k < T
  toks : w.ownsRow B 28 5 O x.out.length (toksCells x.out)
  toksT : ∀ k, O.ownBlock = some k → k < T
  bad : BadIs w B T D x.bad

theorem BadIs.same {w w' : World} {B T : Nat} {D : Option Addr} {b : Option (Int × Int × Int)} (h : BadIs w B T D b) (hs : ∀ k, k < T → B ≤ k → (∃ cs, Whole w k 53 cs) → w'.heap[k]? = w.heap[k]?) : BadIs w' B T D b := by
  match b, h with
  | none, h => exact h
  | some (a, b, e), h =>
    obtain ⟨d, hD, hb, ht, hw⟩ := h
    exact ⟨d, hD, hb, ht, hw.same (hs d ht hb ⟨_, hw⟩)⟩
theorem row_same {w w' : World} {base : Nat} {e : TypeId} {size : Nat} {v : Value} {n : Nat} {xs : List Value} (h : w.ownsRow base e size v n xs) (hs : ∀ k, v.ownBlock = some k → w'.heap[k]? = w.heap[k]?) : w'.ownsRow base e size v n xs := by
  refine ⟨h.1, ?_⟩
  rcases h.2 with hn | ⟨g, cap, cur, rfl, hb, hgg, rest⟩
  · exact .inl hn
  · exact .inr ⟨g, cap, cur, rfl, hb, (hs g rfl).trans hgg, rest⟩
section
variable {w w' : World} {B T p : Nat} {s : ByteArray} {x : Lx.St} {L O : Value} {D : Option Addr}
/-- The lexer stands while the blocks from B to T stand. -/
theorem Lex.same (h : Lex w B T p s x L O D) (hs : ∀ k, k < T → w'.heap[k]? = w.heap[k]?) (hz : T ≤ w'.heap.size) : Lex w' B T p s x L O D :=
  ⟨h.hB, hz, h.pT, h.blk.same (hs p h.pT), row_same h.runes fun k hk => hs k (h.runesT k hk), h.runesT, row_same h.toks fun k hk => hs k (h.toksT k hk), h.toksT,
    h.bad.same fun k hk _ _ => hs k hk⟩
theorem Lex.drewN (h : Lex w B T p s x L O D) (n : Nat) : Lex (w.drewN n) B T p s x L O D := h.same (fun _ _ => rfl) h.hT
theorem Lex.drew (h : Lex w B T p s x L O D) : Lex w.drew B T p s x L O D := h.same (fun _ _ => rfl) h.hT
theorem Lex.alloc (h : Lex w B T p s x L O D) (o : Obj) : Lex (w.alloc o) B T p s x L O D :=
  h.same (fun k hk => Below.heap_alloc w o k (Nat.lt_of_lt_of_le hk h.hT)) (by have := h.hT; simp; omega)
theorem Lex.below (h : Lex w B T p s x L O D) {B' : Nat} (hb : Below B' w w') (hB : T ≤ B') : Lex w' B T p s x L O D :=
  h.same (fun k hk => hb.block k (by omega)) (Nat.le_trans h.hT hb.size)
theorem Lex.more (h : Lex w B T p s x L O D) {T' : Nat} (h1 : T ≤ T') (h2 : T' ≤ w.heap.size) : Lex w B T' p s x L O D :=
  ⟨h.hB, h2, Nat.lt_of_lt_of_le h.pT h1, h.blk, h.runes, fun k hk => Nat.lt_of_lt_of_le (h.runesT k hk) h1, h.toks, fun k hk => Nat.lt_of_lt_of_le (h.toksT k hk) h1,
    match x.bad, h.bad with
    | none, hb => hb
    | some (_, _, _), ⟨d, a, b, c, e⟩ => ⟨d, a, b, Nat.lt_of_lt_of_le c h1, e⟩⟩
theorem Lex.cell (h : Lex w B T p s x L O D) (i : Nat) : w.cell? ⟨p, i, none⟩ = (#[.string s, L, .int .i64 x.at_, .int .i64 x.line, .int .i64 x.col, O, .pointer D, .bool x.cut] : Array Value)[i]? := h.blk.cell i
theorem Lex.frozen (h : Lex w B T p s x L O D) (i : Nat) : w.frozen? ⟨p, i, none⟩ = false := h.blk.frozen i
theorem Lex.lt (h : Lex w B T p s x L O D) : p < w.heap.size := h.blk.lt
/-- The slice of runes, written out, and a rune of it. -/
theorem Lex.form (h : Lex w B T p s x L O D) : ∃ A c, L = .slice A x.l.length c ∧ x.l.length ≤ c ∧ ∀ i, i < x.l.length → ∃ g, A = some ⟨g, 0, none⟩ ∧ ¬ g = p ∧ w.cell? ⟨g, i, none⟩ = some (.int .i32 (Lx.runeAt x.l i)) := by
  have hne := row_whole_ne h.runes h.blk (by decide)
  rcases h.runes.2 with ⟨hv, hn⟩ | ⟨g, cap, cur, hv, _, hgg, hcap, _, _, htake⟩
  · exact ⟨none, 0, by rw [hv, hn], by omega, fun i hi => by omega⟩
  · refine ⟨some ⟨g, 0, none⟩, cap, hv, hcap, fun i hi => ⟨g, rfl, fun e => hne (by rw [hv, e]; rfl), ?_⟩⟩
    rw [cell_of_row w g i cur 21 (0, 0) hgg]
    have h1 : (runeVals x.l)[i]? = some (.int .i32 (Lx.runeAt x.l i)) := by simp [runeVals, Lx.runeAt, List.getD, hi]
    rw [← htake, List.getElem?_take] at h1
    split at h1
    · simpa using h1
    · cases h1
end
/-- What holds of a state all along. -/
structure Fit (x : Lx.St) : Prop where
  at_ : x.at_ ≤ x.l.length
  len : x.l.length ≤ 65536
  line0 : 1 ≤ x.line
  line1 : x.line ≤ x.at_ + 1
  col0 : 1 ≤ x.col
  col1 : x.col ≤ x.at_ + 1
  runes : ∀ r ∈ x.l, 0 ≤ r ∧ r ≤ 1114111
  out : x.out.length ≤ x.at_
end Go.Proofs.YtoidmljhlekbkaaDoor
namespace Go.Proofs.YtoidmljhlekbkaaDoor
open Go.RowKit
theorem Fit.peek_lt {x : Lx.St} {k : Nat} (h : 0 ≤ x.peek k) : x.at_ + k < x.l.length := by
  rcases Nat.lt_or_ge (x.at_ + k) x.l.length with h1 | h1
  · exact h1
  · have : x.peek k = -1 := by unfold Lx.St.peek Lx.runeAt; rw [List.getD_eq_getElem?_getD, List.getElem?_eq_none h1]; rfl
    omega
theorem Fit.peek_bd {x : Lx.St} (f : Fit x) (k : Nat) : -1 ≤ x.peek k ∧ x.peek k ≤ 1114111 := by
  unfold Lx.St.peek Lx.runeAt
  rw [List.getD_eq_getElem?_getD]
  rcases hg : x.l[x.at_ + k]? with _ | r
  · simp
  · have := f.runes r (List.mem_of_getElem? hg)
    simp; omega
theorem Fit.step {x : Lx.St} (f : Fit x) (h : x.at_ < x.l.length) : Fit x.step := by
  obtain ⟨a, b, c, d, e, g, r, o⟩ := f
  unfold Lx.St.step
  refine ⟨h, b, ?_, ?_, ?_, ?_, r, ?_⟩ <;> dsimp only
  · split <;> omega
  · split <;> push_cast <;> omega
  · split <;> omega
  · split <;> push_cast <;> omega
  · omega
section
variable {w w' : World} {B T p : Nat} {s : ByteArray} {x y : Lx.St} {L O : Value} {D : Option Addr}
/-- The lexer's block alone has turned. -/
theorem Lex.own (h : Lex w B T p s x L O D) (hl : y.l = x.l) (ho : y.out = x.out) (hb : y.bad = x.bad) (hw : Only [p] w w')
    (hk : Whole w' p 50 #[.string s, L, .int .i64 y.at_, .int .i64 y.line, .int .i64 y.col, O, .pointer D, .bool y.cut]) : Lex w' B T p s y L O D := by
  have hs : ∀ k, k < T → k ≠ p → w'.heap[k]? = w.heap[k]? := fun k hk hn => hw.block k (Nat.lt_of_lt_of_le hk h.hT) (by simpa using hn)
  refine ⟨h.hB, Nat.le_trans h.hT hw.size, h.pT, hk, ?_, ?_, ?_, ?_, ?_⟩
  · rw [hl]
    exact row_same h.runes fun k hk => hs k (h.runesT k hk) fun e => row_whole_ne h.runes h.blk (by decide) (by rw [hk, e])
  · exact h.runesT
  · rw [ho]
    exact row_same h.toks fun k hk => hs k (h.toksT k hk) fun e => row_whole_ne h.toks h.blk (by decide) (by rw [hk, e])
  · exact h.toksT
  · rw [hb]
    exact h.bad.same fun k hk _ ⟨cs, hw⟩ => hs k hk fun e => Whole.kind h.blk (e ▸ hw) (by decide) rfl
theorem Lex.fin (h : Lex w B T p s x L O D) (hl : y.l = x.l) (ho : y.out = x.out) (hb : y.bad = x.bad) (hw : Only [p] w w')
    (hk : Whole w' p 50 #[.string s, L, .int .i64 y.at_, .int .i64 y.line, .int .i64 y.col, O, .pointer D, .bool y.cut]) : Lex w' B T p s y L O D ∧ Only [p] w w' :=
  ⟨h.own hl ho hb hw hk, hw⟩
/-- The lexer's block has turned, and the pointer to what is wrong. -/
theorem Lex.bads {D' : Option Addr} (h : Lex w B T p s x L O D) (hl : y.l = x.l) (ho : y.out = x.out) (hw : Only [p] w w')
    (hk : Whole w' p 50 #[.string s, L, .int .i64 y.at_, .int .i64 y.line, .int .i64 y.col, O, .pointer D', .bool y.cut]) (hb : BadIs w' B w'.heap.size D' y.bad) :
    Lex w' B w'.heap.size p s y L O D' ∧ Only [p] w w' := by
  have hz := Nat.le_trans h.hT hw.size
  have hs : ∀ k, k < T → k ≠ p → w'.heap[k]? = w.heap[k]? := fun k hk hn => hw.block k (Nat.lt_of_lt_of_le hk h.hT) (by simpa using hn)
  refine ⟨⟨h.hB, Nat.le_refl _, Nat.lt_of_lt_of_le h.pT hz, hk, ?_, ?_, ?_, ?_, hb⟩, hw⟩
  · rw [hl]
    exact row_same h.runes fun k hk => hs k (h.runesT k hk) fun e => row_whole_ne h.runes h.blk (by decide) (by rw [hk, e])
  · exact fun k hk => Nat.lt_of_lt_of_le (h.runesT k hk) hz
  · rw [ho]
    exact row_same h.toks fun k hk => hs k (h.toksT k hk) fun e => row_whole_ne h.toks h.blk (by decide) (by rw [hk, e])
  · exact fun k hk => Nat.lt_of_lt_of_le (h.toksT k hk) hz
/-- The lexer's block has turned, and the tokens; what is below B stands. -/
theorem Lex.outs {O' : Value} (h : Lex w B T p s x L O D) (hl : y.l = x.l) (hbd : y.bad = x.bad) (hw : Below B w w') (hs : ∀ k, k < T → k ≠ p → O.ownBlock ≠ some k → w'.heap[k]? = w.heap[k]?)
    (hk : Whole w' p 50 #[.string s, L, .int .i64 y.at_, .int .i64 y.line, .int .i64 y.col, O', .pointer D, .bool y.cut]) (ho : w'.ownsRow B 28 5 O' y.out.length (toksCells y.out)) :
    Lex w' B w'.heap.size p s y L O' D ∧ Below B w w' := by
  have hz := Nat.le_trans h.hT hw.size
  have kind : ∀ k e size n v xs base, w.ownsRow base e size v n xs → v.ownBlock = some k → O.ownBlock = some k → e = 28 := by
    intro k e size n v xs base h1 h2 h3
    rcases h1.2 with ⟨rfl, _⟩ | ⟨g1, _, _, rfl, _, hg1, _⟩
    · simp [Value.ownBlock] at h2
    rcases h.toks.2 with ⟨hO, _⟩ | ⟨g2, _, _, hO, _, hg2, _⟩
    · rw [hO] at h3; simp [Value.ownBlock] at h3
    · rw [hO] at h3
      simp [Value.ownBlock] at h2 h3
      subst h2; subst h3
      rw [hg1] at hg2
      injection hg2 with hg2
      injection hg2
  refine ⟨⟨h.hB, Nat.le_refl _, Nat.lt_of_lt_of_le h.pT hz, hk, ?_, ?_, ho, ?_, ?_⟩, hw⟩
  · rw [hl]
    refine row_same h.runes fun k hk => hs k (h.runesT k hk) (fun e => row_whole_ne h.runes h.blk (by decide) (by rw [hk, e])) fun e => ?_
    exact absurd (kind k 21 1 _ _ _ _ h.runes hk e) (by decide)
  · exact fun k hk => Nat.lt_of_lt_of_le (h.runesT k hk) hz
  · exact fun k hk => (ho.lt k hk).2
  · rw [hbd]
    have h1 : BadIs w' B T D x.bad := h.bad.same fun k hk _ ⟨cs, hc⟩ => hs k hk (fun e => Whole.kind h.blk (e ▸ hc) (by decide) rfl) (row_whole_ne h.toks hc (by decide))
    match x.bad, h1 with
    | none, hb => exact hb
    | some (_, _, _), ⟨d, a, b, c, e⟩ => exact ⟨d, a, b, Nat.lt_of_lt_of_le c hz, e⟩
end
end Go.Proofs.YtoidmljhlekbkaaDoor
