/-
  Instructions and words: that each is read again. No program is named here.
-/
import Derived.Test.YtmfldcacjpligaaDoorSpec
namespace Go.Proofs.YtmfldcacjpligaaDoor
namespace Is
theorem rowOf_nat {op : Int} (h : 0 ≤ op ∧ op < 71) : ∃ k : Fin 71, op = k.1 ∧ rowOf op = table.getD k.1 (0, []) := by
  refine ⟨⟨op.toNat, by omega⟩, by show op = ((op.toNat : Nat) : Int); omega, ?_⟩
  unfold rowOf
  rw [if_pos h]
theorem rowOf_none {op : Int} (h : ¬ (0 ≤ op ∧ op < 71)) : rowOf op = (0, []) := by
  unfold rowOf
  rw [if_neg h]
theorem form_range {op : Int} (h : form op ≠ 0) : 0 ≤ op ∧ op < 71 := by
  by_cases hr : 0 ≤ op ∧ op < 71
  · exact hr
  · refine absurd ?_ h
    unfold form
    rw [rowOf_none hr]
theorem form_cases (op : Int) : form op = 0 ∨ form op = 82 ∨ form op = 73 ∨ form op = 85 ∨ form op = 72 ∨ form op = 76 ∨ form op = 74 ∨ form op = 67 ∨ form op = 78 := by
  by_cases hr : 0 ≤ op ∧ op < 71
  · obtain ⟨k, _, e⟩ := rowOf_nat hr
    unfold form
    rw [e]
    have key : ∀ k : Fin 71, (table.getD k.1 (0, [])).1 = 0 ∨ (table.getD k.1 (0, [])).1 = 82 ∨ (table.getD k.1 (0, [])).1 = 73 ∨ (table.getD k.1 (0, [])).1 = 85 ∨ (table.getD k.1 (0, [])).1 = 72 ∨ (table.getD k.1 (0, [])).1 = 76 ∨ (table.getD k.1 (0, [])).1 = 74 ∨ (table.getD k.1 (0, [])).1 = 67 ∨ (table.getD k.1 (0, [])).1 = 78 := by decide
    exact key k
  · unfold form
    rw [rowOf_none hr]
    exact .inl rfl
theorem enc_ok {i : Ins} {w : Int} (h : enc i = (w, 0)) : form i.op ≠ 0 ∧ regsOk i = true ∧ immOk i = true ∧ w = word i := by
  unfold enc at h
  by_cases h1 : form i.op = 0
  · rw [if_pos h1] at h
    injection h with _ h
    exact absurd h (by decide)
  rw [if_neg h1] at h
  by_cases h2 : regsOk i = false
  · rw [if_pos h2] at h
    injection h with _ h
    exact absurd h (by decide)
  rw [if_neg h2] at h
  by_cases h3 : immOk i = false
  · rw [if_pos h3] at h
    injection h with _ h
    exact absurd h (by decide)
  rw [if_neg h3] at h
  injection h with h _
  exact ⟨h1, by simpa using h2, by simpa using h3, h.symm⟩
theorem enc_of {i : Ins} (h1 : form i.op ≠ 0) (h2 : regsOk i = true) (h3 : immOk i = true) : enc i = (word i, 0) := by
  unfold enc
  rw [if_neg h1, if_neg (by simp [h2]), if_neg (by simp [h3])]
/-- Registers and immediate, by the form. -/
theorem parts_of {i : Ins} (h2 : regsOk i = true) (h3 : immOk i = true) :
    (0 ≤ i.a ∧ i.a ≤ 15 ∧ ((shapeOf (form i.op)).regs ≤ 0 → i.a = 0)) ∧ (0 ≤ i.b ∧ i.b ≤ 15 ∧ ((shapeOf (form i.op)).regs ≤ 1 → i.b = 0)) ∧ (0 ≤ i.c ∧ i.c ≤ 15 ∧ ((shapeOf (form i.op)).regs ≤ 2 → i.c = 0)) ∧
    (shapeOf (form i.op)).low ≤ i.imm ∧ i.imm ≤ (shapeOf (form i.op)).high := by
  unfold regsOk at h2
  rw [Bool.and_eq_true, Bool.and_eq_true] at h2
  unfold immOk at h3
  exact ⟨of_decide_eq_true h2.1.1, of_decide_eq_true h2.1.2, of_decide_eq_true h2.2, of_decide_eq_true h3⟩
theorem of_parts {i : Ins}
    (h : (0 ≤ i.a ∧ i.a ≤ 15 ∧ ((shapeOf (form i.op)).regs ≤ 0 → i.a = 0)) ∧ (0 ≤ i.b ∧ i.b ≤ 15 ∧ ((shapeOf (form i.op)).regs ≤ 1 → i.b = 0)) ∧ (0 ≤ i.c ∧ i.c ≤ 15 ∧ ((shapeOf (form i.op)).regs ≤ 2 → i.c = 0)) ∧
    (shapeOf (form i.op)).low ≤ i.imm ∧ i.imm ≤ (shapeOf (form i.op)).high) : regsOk i = true ∧ immOk i = true := by
  unfold regsOk immOk regOk
  rw [Bool.and_eq_true, Bool.and_eq_true]
  exact ⟨⟨⟨decide_eq_true h.1, decide_eq_true h.2.1⟩, decide_eq_true h.2.2.1⟩, decide_eq_true h.2.2.2⟩
theorem shape_R : shapeOf 82 = ⟨3, 0, 0, 0⟩ := rfl
theorem shape_I : shapeOf 73 = ⟨2, 16, -32768, 32767⟩ := rfl
theorem shape_U : shapeOf 85 = ⟨2, 16, 0, 65535⟩ := rfl
theorem shape_H : shapeOf 72 = ⟨2, 16, 0, 31⟩ := rfl
theorem shape_L : shapeOf 76 = ⟨1, 16, 0, 65535⟩ := rfl
theorem shape_J : shapeOf 74 = ⟨1, 20, -524288, 524287⟩ := rfl
theorem shape_C : shapeOf 67 = ⟨1, 16, 0, 10⟩ := rfl
theorem shape_N : shapeOf 78 = ⟨0, 0, 0, 0⟩ := rfl
theorem p0 : (2 : Int) ^ (0 : Int).toNat = 1 := rfl
theorem p16 : (2 : Int) ^ (16 : Int).toNat = 65536 := rfl
theorem p20 : (2 : Int) ^ (20 : Int).toNat = 1048576 := rfl
/-- A word's instruction is the one that was encoded. -/
theorem dec_enc {i : Ins} {w : Int} (h : enc i = (w, 0)) : decW w = some i ∧ 0 ≤ w ∧ w < 4294967296 ∧ w / 16777216 = i.op := by
  obtain ⟨h1, h2, h3, hw⟩ := enc_ok h
  have hp := parts_of h2 h3
  have hr := form_range h1
  obtain ⟨op, a, b, c, n⟩ := i
  dsimp only at hp hr h1
  unfold word at hw
  dsimp only at hw
  unfold decW sgn16 sgn20
  rcases form_cases op with f | f | f | f | f | f | f | f | f
  · exact absurd f h1
  · rw [f, shape_R] at hp hw
    dsimp only at hp hw
    rw [p0] at hw
    have e : w / 16777216 = op := by omega
    refine ⟨?_, by omega, by omega, e⟩
    rw [e, f]
    dsimp only
    rw [if_pos rfl, if_pos (by omega)]
    congr 2 <;> omega
  · rw [f, shape_I] at hp hw
    dsimp only at hp hw
    rw [p16] at hw
    have e : w / 16777216 = op := by omega
    refine ⟨?_, by omega, by omega, e⟩
    rw [e, f]
    dsimp only
    rw [if_neg (by decide), if_pos rfl]
    congr 2
    · omega
    · omega
    · omega
    · split <;> omega
  · rw [f, shape_U] at hp hw
    dsimp only at hp hw
    rw [p16] at hw
    have e : w / 16777216 = op := by omega
    refine ⟨?_, by omega, by omega, e⟩
    rw [e, f]
    dsimp only
    rw [if_neg (by decide), if_neg (by decide), if_pos rfl]
    congr 2 <;> omega
  · rw [f, shape_H] at hp hw
    dsimp only at hp hw
    rw [p16] at hw
    have e : w / 16777216 = op := by omega
    refine ⟨?_, by omega, by omega, e⟩
    rw [e, f]
    dsimp only
    rw [if_neg (by decide), if_neg (by decide), if_neg (by decide), if_pos rfl, if_pos (by omega)]
    congr 2 <;> omega
  · rw [f, shape_L] at hp hw
    dsimp only at hp hw
    rw [p16] at hw
    have e : w / 16777216 = op := by omega
    refine ⟨?_, by omega, by omega, e⟩
    rw [e, f]
    dsimp only
    rw [if_neg (by decide), if_neg (by decide), if_neg (by decide), if_neg (by decide), if_pos rfl, if_pos (by omega)]
    congr 2 <;> omega
  · rw [f, shape_J] at hp hw
    dsimp only at hp hw
    rw [p20] at hw
    have e : w / 16777216 = op := by omega
    refine ⟨?_, by omega, by omega, e⟩
    rw [e, f]
    dsimp only
    rw [if_neg (by decide), if_neg (by decide), if_neg (by decide), if_neg (by decide), if_neg (by decide), if_pos rfl]
    congr 2
    · omega
    · omega
    · omega
    · split <;> omega
  · rw [f, shape_C] at hp hw
    dsimp only at hp hw
    rw [p16] at hw
    have e : w / 16777216 = op := by omega
    refine ⟨?_, by omega, by omega, e⟩
    rw [e, f]
    dsimp only
    rw [if_neg (by decide), if_neg (by decide), if_neg (by decide), if_neg (by decide), if_neg (by decide), if_neg (by decide), if_pos rfl, if_pos (by omega)]
    congr 2 <;> omega
  · rw [f, shape_N] at hp hw
    dsimp only at hp hw
    rw [p0] at hw
    have e : w / 16777216 = op := by omega
    refine ⟨?_, by omega, by omega, e⟩
    rw [e, f]
    dsimp only
    rw [if_neg (by decide), if_neg (by decide), if_neg (by decide), if_neg (by decide), if_neg (by decide), if_neg (by decide), if_neg (by decide), if_pos rfl, if_pos (by omega)]
    congr 2 <;> omega
/-- The fields of a word, as its form has them. -/
def fieldsOf (v : Int) : Ins :=
  let f := form (v / 16777216)
  if f = 82 then ⟨v / 16777216, v / 1048576 % 16, v / 65536 % 16, v / 4096 % 16, 0⟩
  else if f = 73 then ⟨v / 16777216, v / 1048576 % 16, v / 65536 % 16, 0, sgn16 (v % 65536)⟩
  else if f = 85 then ⟨v / 16777216, v / 1048576 % 16, v / 65536 % 16, 0, v % 65536⟩
  else if f = 72 then ⟨v / 16777216, v / 1048576 % 16, v / 65536 % 16, 0, v % 65536⟩
  else if f = 76 then ⟨v / 16777216, v / 1048576 % 16, 0, 0, v % 65536⟩
  else if f = 74 then ⟨v / 16777216, v / 1048576 % 16, 0, 0, sgn20 (v % 1048576)⟩
  else if f = 67 then ⟨v / 16777216, v / 1048576 % 16, 0, 0, v % 65536⟩
  else ⟨v / 16777216, v / 1048576 % 16, 0, 0, 0⟩
theorem ite_some {p : Prop} [Decidable p] {a i : Ins} (h : (if p then some a else none) = some i) : p ∧ a = i := by
  by_cases hp : p
  · rw [if_pos hp] at h
    injection h with h
    exact ⟨hp, h⟩
  · rw [if_neg hp] at h
    exact absurd h (by simp)
/-- An instruction's word is the one that was decoded. -/
theorem enc_dec {i : Ins} {v : Int} (h0 : 0 ≤ v) (h1 : v < 4294967296) (h : decW v = some i) : i = fieldsOf v ∧ enc i = (v, 0) := by
  have key : ∀ j : Ins, form j.op ≠ 0 → ((0 ≤ j.a ∧ j.a ≤ 15 ∧ ((shapeOf (form j.op)).regs ≤ 0 → j.a = 0)) ∧ (0 ≤ j.b ∧ j.b ≤ 15 ∧ ((shapeOf (form j.op)).regs ≤ 1 → j.b = 0)) ∧ (0 ≤ j.c ∧ j.c ≤ 15 ∧ ((shapeOf (form j.op)).regs ≤ 2 → j.c = 0)) ∧
    (shapeOf (form j.op)).low ≤ j.imm ∧ j.imm ≤ (shapeOf (form j.op)).high) → word j = v → enc j = (v, 0) := by
    intro j k1 k2 k3
    obtain ⟨k4, k5⟩ := of_parts k2
    rw [enc_of k1 k4 k5, k3]
  unfold decW at h
  unfold fieldsOf
  dsimp only at h ⊢
  rcases form_cases (v / 16777216) with f | f | f | f | f | f | f | f | f
  · rw [f] at h
    exact absurd h (by simp)
  · rw [f, if_pos rfl] at h
    obtain ⟨hc, rfl⟩ := ite_some h
    rw [f, if_pos rfl]
    refine ⟨rfl, key _ (by rw [f]; decide) (by rw [f, shape_R]; dsimp only; omega) ?_⟩
    unfold word
    dsimp only
    rw [f, shape_R, p0]
    omega
  · rw [f, if_neg (by decide), if_pos rfl] at h
    injection h with h
    subst h
    rw [f, if_neg (by decide), if_pos rfl]
    unfold sgn16
    refine ⟨rfl, key _ (by rw [f]; decide) (by rw [f, shape_I]; dsimp only; split <;> omega) ?_⟩
    unfold word
    dsimp only
    rw [f, shape_I, p16]
    split <;> omega
  · rw [f, if_neg (by decide), if_neg (by decide), if_pos rfl] at h
    injection h with h
    subst h
    rw [f, if_neg (by decide), if_neg (by decide), if_pos rfl]
    refine ⟨rfl, key _ (by rw [f]; decide) (by rw [f, shape_U]; dsimp only; omega) ?_⟩
    unfold word
    dsimp only
    rw [f, shape_U, p16]
    omega
  · rw [f, if_neg (by decide), if_neg (by decide), if_neg (by decide), if_pos rfl] at h
    obtain ⟨hc, rfl⟩ := ite_some h
    rw [f, if_neg (by decide), if_neg (by decide), if_neg (by decide), if_pos rfl]
    refine ⟨rfl, key _ (by rw [f]; decide) (by rw [f, shape_H]; dsimp only; omega) ?_⟩
    unfold word
    dsimp only
    rw [f, shape_H, p16]
    omega
  · rw [f, if_neg (by decide), if_neg (by decide), if_neg (by decide), if_neg (by decide), if_pos rfl] at h
    obtain ⟨hc, rfl⟩ := ite_some h
    rw [f, if_neg (by decide), if_neg (by decide), if_neg (by decide), if_neg (by decide), if_pos rfl]
    refine ⟨rfl, key _ (by rw [f]; decide) (by rw [f, shape_L]; dsimp only; omega) ?_⟩
    unfold word
    dsimp only
    rw [f, shape_L, p16]
    omega
  · rw [f, if_neg (by decide), if_neg (by decide), if_neg (by decide), if_neg (by decide), if_neg (by decide), if_pos rfl] at h
    injection h with h
    subst h
    rw [f, if_neg (by decide), if_neg (by decide), if_neg (by decide), if_neg (by decide), if_neg (by decide), if_pos rfl]
    unfold sgn20
    refine ⟨rfl, key _ (by rw [f]; decide) (by rw [f, shape_J]; dsimp only; split <;> omega) ?_⟩
    unfold word
    dsimp only
    rw [f, shape_J, p20]
    split <;> omega
  · rw [f, if_neg (by decide), if_neg (by decide), if_neg (by decide), if_neg (by decide), if_neg (by decide), if_neg (by decide), if_pos rfl] at h
    obtain ⟨hc, rfl⟩ := ite_some h
    rw [f, if_neg (by decide), if_neg (by decide), if_neg (by decide), if_neg (by decide), if_neg (by decide), if_neg (by decide), if_pos rfl]
    refine ⟨rfl, key _ (by rw [f]; decide) (by rw [f, shape_C]; dsimp only; omega) ?_⟩
    unfold word
    dsimp only
    rw [f, shape_C, p16]
    omega
  · rw [f, if_neg (by decide), if_neg (by decide), if_neg (by decide), if_neg (by decide), if_neg (by decide), if_neg (by decide), if_neg (by decide), if_pos rfl] at h
    obtain ⟨hc, rfl⟩ := ite_some h
    rw [f, if_neg (by decide), if_neg (by decide), if_neg (by decide), if_neg (by decide), if_neg (by decide), if_neg (by decide), if_neg (by decide)]
    refine ⟨rfl, key _ (by rw [f]; decide) (by rw [f, shape_N]; dsimp only; omega) ?_⟩
    unfold word
    dsimp only
    rw [f, shape_N, p0]
    omega
/-- The document's way to decode: the fields, encoded again. -/
theorem dec_way {v : Int} (h0 : 0 ≤ v) (h1 : v < 4294967296) : decW v = if (enc (fieldsOf v)).2 = 0 ∧ (enc (fieldsOf v)).1 = v then some (fieldsOf v) else none := by
  by_cases h : (enc (fieldsOf v)).2 = 0 ∧ (enc (fieldsOf v)).1 = v
  · rw [if_pos h]
    have e : enc (fieldsOf v) = (v, 0) := Prod.ext h.2 h.1
    exact (dec_enc e).1
  · rw [if_neg h]
    rcases hd : decW v with _ | i
    · rfl
    · obtain ⟨rfl, he⟩ := enc_dec h0 h1 hd
      rw [he] at h
      exact absurd ⟨rfl, rfl⟩ h
end Is
end Go.Proofs.YtmfldcacjpligaaDoor
