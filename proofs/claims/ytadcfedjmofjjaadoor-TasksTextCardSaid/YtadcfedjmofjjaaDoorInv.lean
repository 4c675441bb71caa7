/-
  A region that draws its order, walked by an invariant: each operation is looked at once, whatever came ahead of it.
-/
import Derived.Orders
import Derived.Still
import Derived.StillTail
import Derived.Tactics
import Derived.Tactics2
namespace Go.Proofs.YtadcfedjmofjjaaDoor
theorem ready_nil_of_count {md : Region.Mode} {ops : Array Oper} {listed : Array Bool} (h : listed.toList.count false = 0) : Region.ready md ops listed = [] := by
  rcases hr : Region.ready md ops listed with _ | ⟨i, l⟩
  · rfl
  · have hi := (mem_ready.1 (show i ∈ Region.ready md ops listed by rw [hr]; exact List.mem_cons_self)).1
    rcases Nat.lt_or_ge i listed.size with h' | h'
    · simp [h'] at hi
      have hm : false ∈ listed.toList := by
        rw [← hi]
        exact Array.getElem_mem_toList h'
      exact absurd hm (List.count_eq_zero.1 h)
    · simp [Array.getElem?_eq_none h'] at hi
theorem count_set {listed : Array Bool} {i : Nat} (h : listed.getD i true = false) : (listed.setIfInBounds i true).toList.count false + 1 = listed.toList.count false := by
  rcases Nat.lt_or_ge i listed.size with h' | h'
  · simp [h'] at h
    have h2 : listed.toList[i]'(by simpa using h') = false := by simpa using h
    have hm : false ∈ listed.toList := by rw [← h2]; exact List.getElem_mem _
    have hpos := List.count_pos_iff.2 hm
    have hc := List.count_set (a := true) (b := false) (l := listed.toList) (i := i) (by simpa using h')
    rw [h2] at hc
    rw [Array.toList_setIfInBounds, hc, if_pos (by rfl), if_neg (by decide)]
    omega
  · simp [Array.getElem?_eq_none h'] at h
/-- Each operation once, under an invariant. -/
theorem wpAny_inv {P : Program} {md : Region.Mode} {ops : Array Oper} {Q : Exit → Act → World → Prop} {a0 : Act} (I : Act → Array Bool → Act → World → Prop)
    (hs : ∀ listed a w, I a0 listed a w → ∀ i ∈ Region.ready md ops listed, wpOp P ops Q i (I a0 (listed.setIfInBounds i true)) a w)
    (he : ∀ listed a w, I a0 listed a w → Region.ready md ops listed = [] → Q .normal a w) :
    ∀ (fuel : Nat) (listed : Array Bool) (a : Act) (w : World), listed.toList.count false ≤ fuel → I a0 listed a w → wpAny P md ops Q fuel listed a w
  | 0, listed, a, w, hc, hI => by
    have h0 := ready_nil_of_count (md := md) (ops := ops) (Nat.le_zero.1 hc)
    exact ⟨h0, he _ _ _ hI h0⟩
  | fuel + 1, listed, a, w, hc, hI => ⟨he _ _ _ hI, fun i hi => wpOp_mono (fun a' w' h' => wpAny_inv I hs he fuel _ a' w' (by have := count_set (mem_ready.1 hi).1; omega) h') (hs _ _ _ hI i hi)⟩
/-- The same, the invariant told from the first frame on. -/
theorem wpAny_inv_at {P : Program} {md : Region.Mode} {ops : Array Oper} {Q : Exit → Act → World → Prop} {a0 : Act} {fuel : Nat} {listed0 : Array Bool} {w0 : World} (I : Act → Array Bool → Act → World → Prop)
    (hc : listed0.toList.count false ≤ fuel)
    (hs : ∀ listed a w, I a0 listed a w → ∀ i ∈ Region.ready md ops listed, wpOp P ops Q i (I a0 (listed.setIfInBounds i true)) a w)
    (he : ∀ listed a w, I a0 listed a w → Region.ready md ops listed = [] → Q .normal a w)
    (h0 : I a0 listed0 a0 w0) : wpAny P md ops Q fuel listed0 a0 w0 := wpAny_inv I hs he fuel listed0 a0 w0 hc h0
/-- Where each operation waits for earlier ones alone, nothing is left unlisted. -/
theorem listed_all {md : Region.Mode} {ops : Array Oper} {listed : Array Bool} (hz : listed.size = ops.size)
    (hB : ((List.range ops.size).all fun j => ((ops[j]?).map fun o => o.after.all fun e => !Region.binds md e || decide (e.on < j)).getD true) = true)
    (h : Region.ready md ops listed = []) : ∀ i, i < ops.size → listed.getD i true = true := by
  intro i
  induction i using Nat.strongRecOn with
  | _ i ih =>
    intro hi
    cases hl : listed.getD i true with
    | true => rfl
    | false =>
      exfalso
      have hm : i ∈ Region.ready md ops listed := by
        refine mem_ready.2 ⟨hl, ops[i], by simp [hi], fun e he hb => ?_⟩
        have h1 := List.all_eq_true.1 hB i (List.mem_range.2 hi)
        rw [show ops[i]? = some ops[i] by simp [hi], Option.map_some, Option.getD_some] at h1
        have h2 := Array.all_eq_true'.1 h1 e he
        rw [hb] at h2
        have h3 : e.on < i := by simpa using h2
        have h4 := ih e.on h3 (by omega)
        have h5 : e.on < listed.size := by omega
        simp [h5] at h4 ⊢
        exact h4
      rw [h] at hm
      cases hm
/-- What is ready: operation number i is not listed yet, and what it waits for is. -/
theorem ready_spec {md : Region.Mode} {ops : Array Oper} {listed : Array Bool} {i : Nat} (h : i ∈ Region.ready md ops listed) : i < ops.size ∧ ∀ o, ops[i]? = some o → ∀ e ∈ o.after, Region.binds md e = true → listed.getD e.on false = true := by
  obtain ⟨_, o, ho, h2⟩ := mem_ready.1 h
  exact ⟨(Array.getElem?_eq_some_iff.1 ho).1, fun o' ho' => by rw [ho] at ho'; cases ho'; exact h2⟩
end Go.Proofs.YtadcfedjmofjjaaDoor
