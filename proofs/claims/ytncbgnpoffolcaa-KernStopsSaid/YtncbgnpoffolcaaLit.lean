/-
  A table whose rows lie in memory can be read.
-/
import Derived.Test.YtncbgnpoffolcaaM15
namespace Go.Proofs.Ytncbgnpoffolcaa
open Go.RowKit
/-- The tasks' cells: each with its operations' slice. -/
def tkC (l : List (Kn.Task × Option Addr × Nat)) : List Value := l.flatMap fun x => [.int .i64 x.1.prio, .slice x.2.1 x.1.ops.length x.2.2]
theorem tkC_len (l : List (Kn.Task × Option Addr × Nat)) : (tkC l).length = l.length * 2 := by
  induction l with
  | nil => rfl
  | cons a l ih =>
    show ([_, _] ++ tkC l).length = _
    rw [List.length_append, ih]
    simp
    omega
theorem tkC_at : ∀ (l : List (Kn.Task × Option Addr × Nat)) (i : Nat) (h : i < l.length), (tkC l)[i * 2]? = some (.int .i64 l[i].1.prio) ∧ (tkC l)[i * 2 + 1]? = some (.slice l[i].2.1 l[i].1.ops.length l[i].2.2)
  | a :: l, 0, _ => ⟨rfl, rfl⟩
  | a :: l, i + 1, h => by
    have ih := tkC_at l i (by simpa using h)
    have e : tkC (a :: l) = .int .i64 a.1.prio :: .slice a.2.1 a.1.ops.length a.2.2 :: tkC l := rfl
    rw [e, show (i + 1) * 2 = i * 2 + 1 + 1 by omega, show i * 2 + 1 + 1 + 1 = (i * 2 + 1) + 1 + 1 by omega]
    simp only [List.getElem?_cons_succ, List.getElem_cons_succ]
    exact ih
theorem TabRd.of_rows {w : World} {B : Nat} {A1 A2 A3 : Option Addr} {l : List (Kn.Task × Option Addr × Nat)} {t : Kn.Table} (h1 : Reads w B 2 A1 l.length (tkC l)) (ht : t.tasks = l.map (·.1))
    (h2 : ∀ x ∈ l, Reads w B 3 x.2.1 x.1.ops.length (opsC x.1.ops) ∧ x.1.ops.length ≤ maxLen) (hs : Reads w B 1 A2 t.sems.length (intV t.sems)) (hq : Reads w B 1 A3 t.queues.length (intV t.queues))
    (l1 : l.length ≤ maxLen) (l2 : t.sems.length ≤ maxLen) (l3 : t.queues.length ≤ maxLen) : TabRd w B A1 A2 A3 t := by
  refine ⟨fun i hi => ?_, hs, hq, by rw [ht, List.length_map]; exact l1, l2, l3⟩
  have hi' : i < l.length := by rw [ht, List.length_map] at hi; exact hi
  obtain ⟨ad, e, hb, hc⟩ := h1.2 (by omega)
  have he : t.tasks[i] = l[i].1 := by simp [ht]
  have hx := h2 l[i] (List.getElem_mem hi')
  have ha := tkC_at l i hi'
  rw [he]
  exact ⟨ad, l[i].2.1, l[i].2.2, e, hb, hc _ _ ha.1, hc _ _ ha.2, hx.1, hx.2⟩
/-- A row in a block of its own reads. -/
theorem Reads.of_whole {w : World} {B g ty sz n : Nat} {cs : Array Value} (h : Whole w g ty cs) (hb : g < B) (hl : cs.size = n * sz) : Reads w B sz (some ⟨g, 0, none⟩) n cs.toList := by
  refine ⟨by simpa using hl, fun _ => ⟨_, rfl, hb, fun j u hj => ?_⟩⟩
  rw [Addr.add_lit, Nat.zero_add, h.cell j]
  simpa using hj
theorem Reads.nil {w : World} {B sz : Nat} (A : Option Addr) : Reads w B sz A 0 [] := ⟨by simp, fun h => by omega⟩
end Go.Proofs.Ytncbgnpoffolcaa
