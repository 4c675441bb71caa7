/-
  KernStops: what a run answers, to be read later, and what a longer one answers beside it.
-/
import Derived.Test.YtncbgnpoffolcaaAlv
import Derived.Test.YtncbgnpoffolcaaRb
import Derived.Test.YtncbgnpoffolcaaStpP
namespace Go.Proofs.Ytncbgnpoffolcaa
open Go.RowKit
theorem add_nought (a : Addr) : a.add 0 = a := by
  obtain ⟨b, o, p⟩ := a
  unfold Addr.add
  simp
theorem run_pre (P : Option Addr) (m pc n : Nat) (h : n ≤ pc) (W : World) : (Instr.slice 34 (.slice P m pc) none (some (.int .i64 (n : Int))) none).run Try.prog W = .ok (.slice P n pc) W := by
  have e : Try.prog.elem 34 = 5 := by kernel_rfl
  have hs : (sizeOf 5).run Try.prog W = .ok 1 W := by go_simp
  rw [run_slice_h (P := Try.prog) W 34 P m pc (by rw [Try.underlying34, e]) .i64 n (by omega) (by omega), e, hs]
  unfold sliced
  simp
  cases P <;> simp [add_nought]
/-- What a run answers, plainly: its bytes, its ticks, its operations, its error. -/
structure St where
  out : List UInt8
  tk : Int
  op : Int
  x : Int
def st (t : Kn.Table) (ticks ops : Nat) : St := if t.fits then ⟨(Kn.runT t ticks ops).out, (Kn.runT t ticks ops).ticks, (Kn.runT t ticks ops).ops, 0⟩ else ⟨[], 0, 0, 20⟩
/-- It lies there. -/
structure StRd (w' : World) (o : List UInt8) (P : Option Addr) (pc : Nat) : Prop where
  pre : ∀ W, Below w'.heap.size w' W → ∀ n, n ≤ o.length → (convert 34 9 (.slice P n pc)).run Try.prog W = .ok (.string ⟨(o.take n).toArray⟩) W
  cap : o.length ≤ pc
def StAns (w : World) (a : St) (e : Ending) (w' : World) : Prop :=
  ∃ P Q R pc qn qc rn rc, e = .returned (.tuple #[.agg #[.slice P a.out.length pc, .slice Q qn qc, .slice R rn rc, .int .i64 a.tk, .int .i64 a.op], .int .i64 a.x]) ∧ Hid (StRd w' a.out P pc) ∧ Below w.heap.size w w'
theorem run_st {w : World} {A1 A2 A3 : Option Addr} {c1 c2 c3 : Nat} {t : Kn.Table} {a b : Int} {T O : Nat} (ha : a = T) (hb : b = O) (hT : T ≤ 100000) (hO : O ≤ 100000) (hr : TabRd w w.heap.size A1 A2 A3 t) :
    Calls Try.prog 22 #[.agg #[.slice A1 t.tasks.length c1, .slice A2 t.sems.length c2, .int .i64 t.mutexes, .slice A3 t.queues.length c3], .int .i64 a, .int .i64 b] w (StAns w (st t T O)) := by
  subst ha hb
  unfold st
  cases hf : t.fits
  · refine (run_err hr (.inl ⟨hf, rfl⟩)).mono fun e w' h => ?_
    exact ⟨none, none, none, 0, 0, 0, 0, 0, h.1, Lib.hid ⟨fun W _ n hn => (by
      have h0 : n = 0 := by simpa using hn
      subst h0
      exact Lib.run_convert_nil_bytes W 34 9 5 0 Try.underlying34 Try.underlying5 Try.underlying9), Nat.le_refl _⟩, h.2⟩
  · refine (run_good hr hf hT hO).mono fun e w' h => ?_
    obtain ⟨P, Q, R, pn, pc, qn, qc, rn, rc, e1, hb, HR⟩ := h.opened
    have hl := HR.out.len
    subst hl
    refine ⟨P, Q, R, pc, qn, qc, rn, rc, e1, Lib.hid ⟨fun W hW n hn => ?_, HR.out.cap⟩, hb⟩
    have hn' : n ≤ (Kn.runT t T O).out.length := hn
    show _ = Result.ok (Value.string ⟨((Kn.runT t T O).out.take n).toArray⟩) W
    have hlen : ((Kn.runT t T O).out.take n).length = n := by rw [List.length_take]; omega
    by_cases h0 : n = 0
    · subst h0
      cases P with
      | none => exact Lib.run_convert_nil_bytes W 34 9 5 pc Try.underlying34 Try.underlying5 Try.underlying9
      | some ad => exact run_convert_bytes_back W 34 9 5 ad pc [] Try.underlying34 Try.underlying5 Try.underlying9 fun j hj => by cases hj
    · obtain ⟨ad, rfl, -, -⟩ := HR.out.bytes W hW 0 (by omega)
      have q := run_convert_bytes_back (P := Try.prog) W 34 9 5 ad pc ((Kn.runT t T O).out.take n) Try.underlying34 Try.underlying5 Try.underlying9 fun j hj => by
        rw [hlen] at hj
        obtain ⟨ad', e2, -, hc⟩ := HR.out.bytes W hW j (by omega)
        injection e2 with e2
        subst e2
        rw [hc, List.getElem_take]
      rw [hlen] at q
      exact q
/-- A longer run beside a shorter one. -/
theorem st_more (t : Kn.Table) {T O T' O' : Nat} (h1 : T ≤ T') (h2 : O ≤ O') : (st t T' O').x = (st t T O).x ∧ ((st t T O).x = 0 → (st t T O).op ≤ O ∧ (st t T O).tk ≤ T ∧ (st t T O).op ≤ (st t T' O').op ∧ (st t T O).tk ≤ (st t T' O').tk ∧ (st t T O).out.length ≤ (st t T' O').out.length ∧ (st t T' O').out.take (st t T O).out.length = (st t T O).out) := by
  unfold st
  cases hf : t.fits
  · exact ⟨rfl, fun h => by cases h⟩
  · obtain ⟨a, b, c, d, l, hl⟩ := Kn.stops_run hf h1 h2
    refine ⟨rfl, fun _ => ⟨?_, ?_, ?_, ?_, ?_, ?_⟩⟩
    · show ((Kn.runT t T O).ops : Int) ≤ _; omega
    · show ((Kn.runT t T O).ticks : Int) ≤ _; omega
    · show ((Kn.runT t T O).ops : Int) ≤ ((Kn.runT t T' O').ops : Nat); omega
    · show ((Kn.runT t T O).ticks : Int) ≤ ((Kn.runT t T' O').ticks : Nat); omega
    · show (Kn.runT t T O).out.length ≤ (Kn.runT t T' O').out.length
      rw [hl, List.length_append]
      omega
    · show (Kn.runT t T' O').out.take (Kn.runT t T O).out.length = (Kn.runT t T O).out
      rw [hl, List.take_left']
      rfl
end Go.Proofs.Ytncbgnpoffolcaa
