/-
  Whatever the input, KernRuns returns true and its input reads as it did: the candidate's run and the document's go side by side.
-/
import Derived.Test.YtncbgnpoffolcaaRows
import Derived.Test.YtncbgnpoffolcaaRuns
import Derived.Test.YtncbgnpoffolcaaOpn
import Derived.WalkKit
import Derived.ProofKit
import Derived.OpenShut
import Derived.LaidMore
import Derived.ShutString
import Derived.Stop.Joined
import Derived.ChangeOld
namespace Go.Proofs.Ytncbgnpoffolcaa.kernRuns
open Go.Proofs Go.ChangeShapes Go.WideShapes Go.ChangeAt Go.WideElems Go.RowKit
theorem own : ownKnob Try.prog.godebug = none := by kernel_rfl
theorem laidOut : laidOutB Try.prog = true := by kernel_rfl
set_option maxRecDepth 100000 in
theorem lifted (os : Os) (started : os.Started) (H : Type) (enc : TypeId × Value → H) :
 ReturnsInHanded {} Try.checked os 6 .any (Rows.kernRunsSpec.pre6 enc Try.prog Try.f6 Rows.kernRunsRow.domain false) (Rows.kernRunsSpec.post enc Try.prog Try.f6 false true false false) := by
 refine returnsInHanded_of_calls (C := Try.checked) own started (by kernel_rfl)
  (ChangeSpec.witness6 (enc := enc) (C := Try.checked) false ⟨#[], #[.agg #[.slice none 0 0, .slice none 0 0, .int .i64 0, .slice none 0 0], .int .i64 0, .int .i64 0], []⟩ 8 (by kernel_rfl) (by kernel_rfl) (by kernel_rfl) (by kernel_rfl)) ?_
 intro w tape i _ _ _ hok hpre hholds
 obtain ⟨_, _, _, fn', hfn', _, _, _, _, hval0⟩ := hok
 obtain rfl : fn' = Try.f6 := Option.some.inj (hfn'.symm.trans Try.func6)
 obtain ⟨⟨ds, gs, before, hWw, hcnd⟩, hz⟩ := hpre
 have hwt := hz.weights hWw
 have hW0 := DataW.Whole.of_heap (w' := w.forCall tape i) (by rfl) hWw
 obtain ⟨W, hWW⟩ : ∃ W, W = w.forCall tape i := ⟨_, rfl⟩
 obtain ⟨args, harg⟩ : ∃ args, args = i.args := ⟨_, rfl⟩
 suffices key : Calls Try.prog 6 args W fun e W' => ∃ v, e = .returned v ∧ Rows.kernRunsSpec.post enc Try.prog Try.f6 false true false false W args v W' by
  rw [harg, hWW] at key
  refine key.mono fun e W' ⟨v, he, hp⟩ => ?_
  subst he
  exact ChangeSpec.post_blind hp
 rw [← hWW, ← harg] at hW0
 have hval : ∀ (j : Nat) t v, Try.f6.params[j]? = some t → args[j]? = some v → Value.okWide Try.prog W .any w.heap.size t v := by rw [hWW, harg]; exact hval0
 clear hWW harg hWw hval0 hz
 have hW' := hW0
 obtain ⟨p, q, hA0, hV, rfl, hfz, hnd⟩ := hW0
 have hA : DataW.TrodAll enc Try.prog W 0 (fun _ => true) true Try.f6.params.toList args.toList ds p := hA0
 rw [Try.params6] at hA hval hwt
 obtain ⟨v0, vs0, d0, ds0, p0, q0, hargs, rfl, rfl, h0, r0⟩ := trodAll_cons hA
 obtain ⟨v1, vs1, d1, ds1, p1, q1, rfl, rfl, rfl, h1, r1⟩ := trodAll_cons r0
 obtain ⟨v2, vs2, d2, ds2, p2, q2, rfl, rfl, rfl, h2, r2⟩ := trodAll_cons r1
 obtain ⟨rfl, rfl, rfl⟩ := trodAll_nil r2
 obtain rfl : args = #[v0, v1, v2] := by cases args; simp_all
 obtain ⟨rfl, rfl⟩ := trodVars_none hV
 have hw0 : (d0.weights Try.prog 26).all (· ≤ reachBytes) = true := by
  have h := hwt
  simp only [List.cons_append, DataW.weightsEach, List.all_append, Bool.and_eq_true] at h
  exact h.1
 have k0 := h0
 have lt0 : ∀ x ∈ p0, x.block < W.heap.size := by obtain ⟨m, hm⟩ := k0; exact DataW.trod_lt m _ _ _ hm
 obtain ⟨A1, A2, A3, c1, c2, c3, t, rfl, hr, hb⟩ := open_table (hval 0 26 v0 rfl rfl) h0 hw0
 have k1 := h1
 have lt1 : ∀ x ∈ p1, x.block < W.heap.size := by obtain ⟨m, hm⟩ := k1; exact DataW.trod_lt m _ _ _ hm
 obtain ⟨a1, rfl⟩ := okWide_int Try.underlying3 (hval 1 3 v1 rfl rfl)
 have k2 := h2
 have lt2 : ∀ x ∈ p2, x.block < W.heap.size := by obtain ⟨m, hm⟩ := k2; exact DataW.trod_lt m _ _ _ hm
 obtain ⟨a2, rfl⟩ := okWide_int Try.underlying3 (hval 2 3 v2 rfl rfl)
 clear hA0
 refine (kernRuns_any hr hb a1 a2).mono fun e W' ⟨he, bel⟩ => ?_
 subst he
 exact ⟨_, rfl, _, _, _, [], _, [], hW', trodAll_mk1 (shut_bool Try.underlying4 _), (trodAll_cons_mk (Below.trod laidOut (by kernel_rfl) (of_decide_eq_true (by kernel_rfl)) k0 bel lt0) (trodAll_cons_mk (Below.trod laidOut (by kernel_rfl) (of_decide_eq_true (by kernel_rfl)) k1 bel lt1) (trodAll_cons_mk (Below.trod laidOut (by kernel_rfl) (of_decide_eq_true (by kernel_rfl)) k2 bel lt2) trodAll_mk0))), rfl, bel.frame _, fun h => by cases h⟩
theorem over : Rows.kernRunsRow.holds Try.pinned (OpenSpec.ofChange Rows.kernRunsSpec) :=
 OpenClaim.holds_of_wide 6 Try.f6 rfl rfl rfl rfl rfl rfl rfl ⟨rfl, rfl, rfl, rfl, rfl⟩ rfl rfl rfl rfl rfl (by kernel_rfl) Try.func6 (by kernel_rfl)
  (of_decide_eq_true (by kernel_rfl)) (by unfold Func.isWrapper; first | (rw [if_pos (by decide +kernel)]; kernel_rfl) | (rw [if_neg (by decide +kernel)]; exact ⟨rfl, rfl⟩))
  (fun os started H enc _ => lifted os started H enc)
theorem proved : Rows.KernRunsSaid := over
#print axioms proved
end Go.Proofs.Ytncbgnpoffolcaa.kernRuns
