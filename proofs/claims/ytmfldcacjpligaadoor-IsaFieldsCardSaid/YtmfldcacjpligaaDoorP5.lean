/-
  The names in their order. No program is named here.
-/
import Derived.Test.YtmfldcacjpligaaDoorP4
namespace Go.Proofs.YtmfldcacjpligaaDoor
namespace Is
def nameList : List (List UInt8) := (table.filter (fun x => decide (x.1 ≠ 0))).map (·.2)
/-- How many operations there are below one. -/
def cnt : Nat → Nat
  | 0 => 0
  | k + 1 => cnt k + (if (table.getD k (0, [])).1 = 0 then 0 else 1)
theorem nameList_len : nameList.length = 44 := by decide
theorem cnt_key : ∀ k : Fin 71, (table.getD k.1 (0, [])).1 ≠ 0 → cnt k.1 < 44 ∧ nameList[cnt k.1]? = some (table.getD k.1 (0, [])).2 := by decide
theorem cnt_le (k : Nat) : cnt k ≤ k := by
  induction k with
  | zero => exact Nat.le_refl _
  | succ k ih => rw [cnt]; split <;> omega
theorem form_row {k : Nat} (h : k < 71) : form k = (table.getD k (0, [])).1 ∧ name k = (table.getD k (0, [])).2 := by
  unfold form name rowOf
  rw [if_pos (by omega)]
  exact ⟨rfl, rfl⟩
theorem cnt_name {k : Nat} (h : k < 71) (hf : form k ≠ 0) : cnt k < 44 ∧ nameList[cnt k]? = some (name k) := by
  obtain ⟨e1, e2⟩ := form_row h
  rw [e1] at hf
  rw [e2]
  exact cnt_key ⟨k, h⟩ hf
theorem cnt_succ {k : Nat} (h : k < 71) : cnt (k + 1) = cnt k + (if form k = 0 then 0 else 1) := by
  rw [cnt, (form_row h).1]
theorem cnt_all : cnt 71 = 44 := by decide
theorem list_ne {n : List UInt8} (h : n ∈ nameList) : n ≠ [] := by
  have key : nameList.all (fun n => decide (n ≠ [])) = true := by decide
  exact of_decide_eq_true (List.all_eq_true.1 key n h)
/-- Where no name is this one, there is no operation. -/
theorem opOf_none {n : List UInt8} (h : ∀ k, k < 44 → nameList[k]? ≠ some n) : opOf n = 0 := by
  by_cases hn : n = []
  · rw [hn]
    exact opOf_nil
  · refine opOf_not fun op h1 h2 e => ?_
    obtain ⟨j, rfl⟩ : ∃ j : Nat, op = j := ⟨op.toNat, by omega⟩
    by_cases hf : form j = 0
    · rw [name_none hf] at e
      exact hn e.symm
    · obtain ⟨h3, h4⟩ := cnt_name (by omega) hf
      exact h _ h3 (h4.trans (by rw [e]))
theorem opOf_cnt {n : List UInt8} {j k : Nat} (hj : j < 71) (hf : form j ≠ 0) (hk : cnt j = k) (h : nameList[k]? = some n) : opOf n = j := by
  obtain ⟨_, h4⟩ := cnt_name hj hf
  rw [hk, h] at h4
  injection h4 with h4
  rw [h4]
  exact (opOf_name hf).1
end Is
end Go.Proofs.YtmfldcacjpligaaDoor
