/-
  Instructions' names and texts: that no two are one. No program is named here.
-/
import Derived.Test.YtmfldcacjpligaaDoorP1
namespace Go.Proofs.YtmfldcacjpligaaDoor
namespace Is
def isDigit (b : UInt8) : Bool := decide (48 ≤ b.toNat ∧ b.toNat ≤ 57)
def value (w : List UInt8) : Int := w.foldl (fun n b => 10 * n + (b.toNat - 48 : Int)) 0
theorem digits_small {n : Nat} (h : n ≤ 9) : digits n = [UInt8.ofNat (48 + n)] := by rw [digits, if_pos h]
theorem digits_great {n : Nat} (h : 9 < n) : digits n = digits (n / 10) ++ [UInt8.ofNat (48 + n % 10)] := by rw [digits, if_neg (by omega)]
theorem digit_nat {d : Nat} (h : d ≤ 9) : (UInt8.ofNat (48 + d)).toNat = 48 + d := by simp; omega
theorem value_snoc (l : List UInt8) (b : UInt8) : value (l ++ [b]) = 10 * value l + (b.toNat - 48 : Int) := by
  unfold value
  rw [List.foldl_append]
  rfl
theorem digits_law (n : Nat) : digits n ≠ [] ∧ (digits n).all isDigit = true ∧ value (digits n) = n ∧ ∀ k, n < 10 ^ (k + 1) → (digits n).length ≤ k + 1 := by
  induction n using Nat.strongRecOn with
  | _ n ih =>
    by_cases h : n ≤ 9
    · rw [digits_small h]
      have hd := digit_nat h
      refine ⟨by simp, ?_, ?_, fun k _ => by simp⟩
      · simp only [List.all_cons, List.all_nil, Bool.and_true, isDigit, decide_eq_true_eq]
        omega
      · unfold value
        simp only [List.foldl_cons, List.foldl_nil]
        omega
    · rw [digits_great (by omega)]
      obtain ⟨h1, h2, h3, h5⟩ := ih (n / 10) (by omega)
      have hd := digit_nat (d := n % 10) (by omega)
      refine ⟨by simp, ?_, ?_, ?_⟩
      · rw [List.all_append, h2]
        simp only [List.all_cons, List.all_nil, Bool.and_true, Bool.true_and, isDigit, decide_eq_true_eq]
        omega
      · rw [value_snoc, h3, hd]
        omega
      · intro k hk
        rcases k with _ | k
        · simp at hk
          omega
        · have := h5 k (by rw [Nat.pow_succ] at hk; omega)
          simp
          omega
theorem digits_inj {m n : Nat} (h : digits m = digits n) : m = n := by
  have h1 := (digits_law m).2.2.1
  rw [h, (digits_law n).2.2.1] at h1
  omega
theorem digits_mem {n : Nat} {b : UInt8} (h : b ∈ digits n) : 48 ≤ b.toNat ∧ b.toNat ≤ 57 := of_decide_eq_true (List.all_eq_true.1 (digits_law n).2.1 b h)
theorem numStr_mem {n : Int} {b : UInt8} (h : b ∈ numStr n) : b ≠ 44 ∧ b ≠ 32 := by
  unfold numStr at h
  split at h
  · rcases List.mem_cons.1 h with rfl | h
    · decide
    · have := digits_mem h
      constructor <;> rintro rfl <;> simp at this
  · have := digits_mem h
    constructor <;> rintro rfl <;> simp at this
theorem numStr_ne (n : Int) : numStr n ≠ [] := by
  unfold numStr
  split
  · simp
  · exact (digits_law _).1
theorem digits_minus {n : Nat} {l : List UInt8} : digits n ≠ 45 :: l := by
  intro h
  have := digits_mem (n := n) (b := 45) (by rw [h]; exact .head _)
  simp at this
theorem numStr_inj {m n : Int} (h : numStr m = numStr n) : m = n := by
  unfold numStr at h
  split at h <;> split at h
  · injection h with _ h
    have := digits_inj h
    omega
  · exact absurd h.symm digits_minus
  · exact absurd h digits_minus
  · have := digits_inj h
    omega
theorem split_at (s : UInt8) : ∀ u u' x x' : List UInt8, s ∉ u → s ∉ u' → u ++ s :: x = u' ++ s :: x' → u = u' ∧ x = x'
  | [], [], x, x', _, _, h => by
    injection h with _ h
    exact ⟨rfl, h⟩
  | [], b :: u', x, x', _, h2, h => by
    injection h with h _
    exact absurd (.head _) (h ▸ h2)
  | b :: u, [], x, x', h1, _, h => by
    injection h with h _
    exact absurd (.head _) (h ▸ h1)
  | b :: u, b' :: u', x, x', h1, h2, h => by
    injection h with h0 h
    obtain ⟨r1, r2⟩ := split_at s u u' x x' (fun hm => h1 (.tail _ hm)) (fun hm => h2 (.tail _ hm)) h
    exact ⟨by rw [h0, r1], r2⟩
/-! Names. -/
theorem name_key : ∀ k : Fin 71, (table.getD k.1 (0, [])).1 ≠ 0 → ((table.map (·.2)).findIdx? (· == (table.getD k.1 (0, [])).2)).getD 0 = k.1 ∧ (table.getD k.1 (0, [])).2 ≠ [] ∧ (32 : UInt8) ∉ (table.getD k.1 (0, [])).2 ∧ (table.getD k.1 (0, [])).2.length ≤ 5 := by decide
theorem none_key : ∀ k : Fin 71, (table.getD k.1 (0, [])).1 = 0 → (table.getD k.1 (0, [])).2 = [] := by decide
theorem opOf_name {op : Int} (h : form op ≠ 0) : opOf (name op) = op ∧ name op ≠ [] ∧ (32 : UInt8) ∉ name op ∧ (name op).length ≤ 5 := by
  obtain ⟨k, e, er⟩ := rowOf_nat (form_range h)
  unfold form at h
  rw [er] at h
  obtain ⟨h1, h2, h3, h4⟩ := name_key k h
  unfold opOf name
  rw [er, h1]
  exact ⟨e.symm, h2, h3, h4⟩
theorem name_none {op : Int} (h : form op = 0) : name op = [] := by
  by_cases hr : 0 ≤ op ∧ op < 71
  · obtain ⟨k, e, er⟩ := rowOf_nat hr
    unfold form at h
    rw [er] at h
    unfold name
    rw [er]
    exact none_key k h
  · unfold name
    rw [rowOf_none hr]
theorem name_inj {p q : Int} (hp : form p ≠ 0) (hq : form q ≠ 0) (h : name p = name q) : p = q := by
  have h1 := (opOf_name hp).1
  rw [h, (opOf_name hq).1] at h1
  exact h1.symm
theorem opOf_nil : opOf [] = 0 := by decide
theorem opOf_at {n : List UInt8} (hn : n ≠ []) {op : Int} (h : name op = n) : opOf n = op := by
  by_cases hf : form op = 0
  · exact absurd (h.symm.trans (name_none hf)) hn
  · rw [← h]
    exact (opOf_name hf).1
theorem opOf_not {n : List UInt8} (h : ∀ op : Int, 1 ≤ op → op < 71 → name op ≠ n) : opOf n = 0 := by
  unfold opOf
  rcases e : (table.map (·.2)).findIdx? (· == n) with _ | k
  · rw [e]
    rfl
  · rw [e]
    rw [List.findIdx?_eq_some_iff_getElem] at e
    obtain ⟨hk, h1, _⟩ := e
    have hl : (table.map (·.2)).length = 71 := by rw [List.length_map]; rfl
    rcases k with _ | k
    · rfl
    · refine absurd ?_ (h ((k + 1 : Nat) : Int) (by omega) (by omega))
      unfold name rowOf
      rw [if_pos (by omega)]
      rw [beq_iff_eq] at h1
      rw [← h1, List.getElem_map]
      show (table.getD (k + 1) (0, [])).2 = _
      rw [List.getD_eq_getElem?_getD, List.getElem?_eq_getElem (by rw [hl] at hk; exact hk)]
      rfl
/-! Texts. -/
theorem reg_mem {n : Int} {b : UInt8} (h : b ∈ (114 : UInt8) :: numStr n) : b ≠ 44 := by
  rcases List.mem_cons.1 h with rfl | h
  · decide
  · exact (numStr_mem h).1
theorem reg_inj {m n : Int} (h : (114 : UInt8) :: numStr m = 114 :: numStr n) : m = n := by
  injection h with _ h
  exact numStr_inj h
theorem comma {u u' x x' : List UInt8} (h1 : ∀ b ∈ u, b ≠ 44) (h2 : ∀ b ∈ u', b ≠ 44) (h : u ++ [44, 32] ++ x = u' ++ [44, 32] ++ x') : u = u' ∧ x = x' := by
  rw [List.append_assoc, List.append_assoc] at h
  obtain ⟨e1, e2⟩ := split_at 44 u u' (32 :: x) (32 :: x') (fun hm => h1 _ hm rfl) (fun hm => h2 _ hm rfl) h
  injection e2 with _ e2
  exact ⟨e1, e2⟩
/-- What an instruction's text says behind its name. -/
theorem parts_R {i : Ins} (f : form i.op = 82) : parts i = [114 :: numStr i.a, 114 :: numStr i.b, 114 :: numStr i.c] := by unfold parts; rw [f, shape_R]; rfl
theorem parts_2 {i : Ins} (f : form i.op = 73 ∨ form i.op = 85 ∨ form i.op = 72) : parts i = [114 :: numStr i.a, 114 :: numStr i.b, numStr i.imm] := by
  rcases f with f | f | f
  all_goals
    unfold parts
    rw [f]
    rfl
theorem parts_1 {i : Ins} (f : form i.op = 76 ∨ form i.op = 74 ∨ form i.op = 67) : parts i = [114 :: numStr i.a, numStr i.imm] := by
  rcases f with f | f | f
  all_goals
    unfold parts
    rw [f]
    rfl
theorem parts_N {i : Ins} (f : form i.op = 78) : parts i = [] := by unfold parts; rw [f]; rfl
theorem text_eq {i : Ins} (h : (enc i).2 = 0) : text i = if parts i = [] then name i.op else name i.op ++ 32 :: joined (parts i) := by
  unfold text
  rw [if_pos h]
theorem enc_form {i : Ins} (h : (enc i).2 = 0) : enc i = ((enc i).1, 0) := by rw [← h]
theorem text_inj {i j : Ins} (hi : (enc i).2 = 0) (hj : (enc j).2 = 0) (h : text i = text j) : i = j := by
  obtain ⟨i1, i2, i3, _⟩ := enc_ok (enc_form hi)
  obtain ⟨j1, j2, j3, _⟩ := enc_ok (enc_form hj)
  obtain ⟨_, _, ni, _⟩ := opOf_name i1
  obtain ⟨_, _, nj, _⟩ := opOf_name j1
  have hpi := parts_of i2 i3
  have hpj := parts_of j2 j3
  rw [text_eq hi, text_eq hj] at h
  have hop : i.op = j.op := by
    by_cases p : parts i = []
    · rw [if_pos p] at h
      by_cases q : parts j = []
      · rw [if_pos q] at h
        exact name_inj i1 j1 h
      · rw [if_neg q] at h
        rw [h] at ni
        exact absurd (List.mem_append.2 (.inr (.head _))) ni
    · rw [if_neg p] at h
      by_cases q : parts j = []
      · rw [if_pos q] at h
        rw [← h] at nj
        exact absurd (List.mem_append.2 (.inr (.head _))) nj
      · rw [if_neg q] at h
        exact name_inj i1 j1 (split_at 32 _ _ _ _ ni nj h).1
  rw [hop] at h
  rw [hop] at hpi
  obtain ⟨op, a, b, c, n⟩ := i
  obtain ⟨op', a', b', c', n'⟩ := j
  dsimp only at hop hpi hpj j1 ⊢
  subst hop
  rcases form_cases op with f | f | f | f | f | f | f | f | f
  · exact absurd f j1
  · rw [parts_R f, parts_R f, if_neg (by simp), if_neg (by simp)] at h
    have h := List.append_cancel_left h
    injection h with _ h
    rw [f, shape_R] at hpi hpj
    dsimp only [joined] at h hpi hpj
    obtain ⟨e1, h⟩ := comma (fun _ => reg_mem) (fun _ => reg_mem) h
    obtain ⟨e2, e3⟩ := comma (fun _ => reg_mem) (fun _ => reg_mem) h
    have e1 := reg_inj e1
    have e2 := reg_inj e2
    have e3 := reg_inj e3
    congr 1
    omega
  all_goals first
    | rw [parts_2 (by simp [f]), parts_2 (by simp [f]), if_neg (by simp), if_neg (by simp)] at h
      have h := List.append_cancel_left h
      injection h with _ h
      rw [f] at hpi hpj
      first | rw [shape_I] at hpi hpj | rw [shape_U] at hpi hpj | rw [shape_H] at hpi hpj
      dsimp only [joined] at h hpi hpj
      obtain ⟨e1, h⟩ := comma (fun _ => reg_mem) (fun _ => reg_mem) h
      obtain ⟨e2, e3⟩ := comma (fun _ => reg_mem) (fun _ => reg_mem) h
      have e1 := reg_inj e1
      have e2 := reg_inj e2
      have e3 := numStr_inj e3
      congr 1
      omega
    | rw [parts_1 (by simp [f]), parts_1 (by simp [f]), if_neg (by simp), if_neg (by simp)] at h
      have h := List.append_cancel_left h
      injection h with _ h
      rw [f] at hpi hpj
      first | rw [shape_L] at hpi hpj | rw [shape_J] at hpi hpj | rw [shape_C] at hpi hpj
      dsimp only [joined] at h hpi hpj
      obtain ⟨e1, e3⟩ := comma (fun _ => reg_mem) (fun _ => reg_mem) h
      have e1 := reg_inj e1
      have e3 := numStr_inj e3
      congr 1 <;> omega
    | rw [f, shape_N] at hpi hpj
      dsimp only at hpi hpj
      congr 1 <;> omega
end Is
end Go.Proofs.YtmfldcacjpligaaDoor
