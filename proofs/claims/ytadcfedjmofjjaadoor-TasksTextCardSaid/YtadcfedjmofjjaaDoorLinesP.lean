/-
  The lines of a text, as strings.Split cuts them and as the document does. No program is named here.
-/
import Derived.Test.YtadcfedjmofjjaaDoorDec
import Derived.Lib.SplitLaws
namespace Go.Proofs.YtadcfedjmofjjaaDoor
open Go.Lib
/-- A text cut at each end of a line. -/
def parts : List UInt8 → List (List UInt8)
  | [] => [[]]
  | b :: l => if b = 10 then [] :: parts l else match parts l with
    | h :: t => (b :: h) :: t
    | [] => [[b]]
theorem parts_ne (l : List UInt8) : parts l ≠ [] := by
  cases l with
  | nil => simp [parts]
  | cons b l =>
    unfold parts
    split
    · simp
    · split <;> simp
def addHead (cur : List UInt8) : List (List UInt8) → List (List UInt8)
  | h :: t => (cur ++ h) :: t
  | [] => [cur]
theorem addHead_nil {P : List (List UInt8)} (h : P ≠ []) : addHead [] P = P := by
  cases P with
  | nil => exact absurd rfl h
  | cons a t => rfl
/-- The last one is dropped if it is empty. -/
def trim (P : List (List UInt8)) : List (List UInt8) := if P.getLast? = some [] then P.dropLast else P
theorem trim_cons (a : List UInt8) {P : List (List UInt8)} (h : P ≠ []) : trim (a :: P) = a :: trim P := by
  unfold trim
  rw [List.getLast?_cons_of_ne_nil h, List.dropLast_cons_of_ne_nil h]
  split <;> rfl
theorem linesGo_parts (l : List UInt8) : ∀ cur, Tk.linesGo l cur = trim (addHead cur (parts l)) := by
  induction l with
  | nil =>
    intro cur
    unfold Tk.linesGo parts addHead trim
    by_cases h : cur = []
    · subst h; rfl
    · rw [if_neg h, if_neg (by simpa using h)]
      simp
  | cons b l ih =>
    intro cur
    unfold Tk.linesGo parts
    by_cases h : b = 10
    · rw [if_pos h, if_pos h, ih []]
      rw [addHead_nil (parts_ne l)]
      show _ = trim ((cur ++ []) :: parts l)
      rw [List.append_nil, trim_cons _ (parts_ne l)]
    · rw [if_neg h, if_neg h, ih]
      rcases hp : parts l with _ | ⟨a, t⟩
      · exact absurd hp (parts_ne l)
      · simp [addHead]
theorem lines_parts (l : List UInt8) : Tk.lines l = trim (parts l) := by
  unfold Tk.lines
  rw [linesGo_parts, addHead_nil (parts_ne l)]
theorem index_one (b : UInt8) (l : List UInt8) (h : b ≠ 10) : index (b :: l) [10] = if index l [10] == -1 then -1 else index l [10] + 1 := by
  have hp : ([10] : List UInt8).isPrefixOf (b :: l) = false := by simp [List.isPrefixOf, Ne.symm h]
  rw [index, hp]
  simp
theorem splitK_parts (l : List UInt8) : splitK [10] 0 (count l [10]) l = parts l := by
  induction l with
  | nil => rfl
  | cons b l ih =>
    unfold parts
    by_cases h : b = 10
    · subst h
      have hix : index (10 :: l) [10] = ((0 : Nat) : Int) := by rw [index]; simp [List.isPrefixOf]
      rw [if_pos rfl, count_cons_eq, Nat.add_comm, splitK, if_neg (by rw [hix]; decide), hix]
      simpa using ih
    · rw [if_neg h, count_cons_ne b 10 l h]
      have hi := index_one b l h
      by_cases hm : index l [10] = -1
      · have e1 : count l [10] = 0 := count_miss hm
        rw [e1] at ih ⊢
        rw [← ih]
        rfl
      · have hge := index_ge l [10]
        obtain ⟨j, hj⟩ : ∃ j : Nat, index l [10] = j := ⟨(index l [10]).toNat, by omega⟩
        have hc := count_hit (by simp) hj
        rw [if_neg (by simpa using hm)] at hi
        obtain ⟨k, hk⟩ : ∃ k, count l [10] = k + 1 := ⟨_, by rw [hc, Nat.add_comm]⟩
        rw [hk] at ih ⊢
        rw [splitK, if_neg (by rw [hj]; simp), hj] at ih
        rw [splitK, if_neg (by rw [hi, hj]; simp; omega), hi, hj]
        have e2 : ((j : Int) + 1).toNat = j + 1 := by omega
        rw [e2, ← ih]
        simp
theorem splitB_parts (s : ByteArray) : (splitB ⟨#[10]⟩ 0 (countB s ⟨#[10]⟩) s).map (fun x => x.data.toList) = parts (bytesOf s) := by
  rw [splitB_data]
  exact splitK_parts (bytesOf s)
theorem parts_len (l : List UInt8) : (parts l).length ≤ l.length + 1 ∧ 0 < (parts l).length := by
  refine ⟨?_, List.length_pos_iff.2 (parts_ne l)⟩
  induction l with
  | nil => simp [parts]
  | cons b l ih =>
    unfold parts
    split
    · simp; omega
    · split
      · rename_i h; rw [h] at ih; simp at ih ⊢; omega
      · simp
theorem parts_mem {l : List UInt8} {x : List UInt8} (h : x ∈ parts l) : x.length ≤ l.length := by
  induction l generalizing x with
  | nil => simp [parts] at h; subst h; simp
  | cons b l ih =>
    unfold parts at h
    split at h
    · rcases List.mem_cons.1 h with rfl | h
      · simp
      · have := ih h; simp; omega
    · split at h
      · rename_i a t hp
        rcases List.mem_cons.1 h with rfl | h
        · have := ih (x := a) (by rw [hp]; simp); simp; omega
        · have := ih (x := x) (by rw [hp]; simp [h]); simp; omega
      · rw [List.mem_singleton] at h; subst h; simp
/-- The split's pieces as values. -/
theorem split_vals (s : ByteArray) : ((splitB ⟨#[10]⟩ 0 (countB s ⟨#[10]⟩) s).map Value.string) = (parts (bytesOf s)).map (fun x => Value.string ⟨x.toArray⟩) := by
  rw [← splitB_parts, List.map_map]
  refine List.map_congr_left fun x _ => ?_
  obtain ⟨⟨l⟩⟩ := x
  rfl
theorem split_count (s : ByteArray) : countB s ⟨#[10]⟩ + 1 = (parts (bytesOf s)).length := by
  rw [← splitB_parts, List.length_map, splitB_all _ (by decide) 0 _ s rfl]
/-- One line of all. -/
theorem linesRun_cons {ls : List (List UInt8)} {i : Nat} {t : Tk.Table} {st k : Nat} (h : k < ls.length) :
    Tk.linesRun (ls.drop k) i t st = match Tk.line t st ls[k] with
      | some (t', st') => Tk.linesRun (ls.drop (k + 1)) (i + 1) t' st'
      | none => .inr i := by
  rw [List.drop_eq_getElem_cons h]
  rfl
end Go.Proofs.YtadcfedjmofjjaaDoor
