/-
  An operation's form, in both texts; the shape of a form: the walks.
-/
import Derived.Test.YtmfldcacjpligaaDoorP4
import Derived.Test.YtmfldcacjpligaaDoorProg
import Derived.WalkKit
import Derived.Outline
import Derived.IntWalk
import Derived.Below
import Derived.Lib.Hide
import Derived.LoopTactic
import Derived.Laws.NewBlocks
import Derived.Laws.Rows
import Derived.Great.BuildSlice
import Derived.Deep.MidRow
import Derived.Deep.DeepCutAuto
import Derived.KernelRfl
namespace Go.Proofs.YtmfldcacjpligaaDoor
open Go.RowKit
/-- The form as the given program has it: a blank where there is none. -/
def formC (op : Int) : Int := if Is.form op = 0 then 32 else (Is.form op).toNat
theorem formC_none {op : Int} (h : ¬ (0 ≤ op ∧ op < 71)) : formC op = 32 := by
  unfold formC Is.form
  rw [Is.rowOf_none h]
  rfl
theorem formC_nat (k : Nat) (h : k < 71) : formC k = if (Is.table.getD k (0, [])).1 = 0 then 32 else (((Is.table.getD k (0, [])).1).toNat : Int) := by
  obtain ⟨j, e, er⟩ := Is.rowOf_nat (op := k) (by omega)
  have : k = j.1 := by omega
  unfold formC Is.form
  rw [er, this]
set_option maxRecDepth 100000 in
set_option maxHeartbeats 4000000 in
theorem run_form (k : Nat) (hk : k < 71) : ∀ W : World, (Instr.index 9 (.string ⟨#[32, 82, 82, 82, 82, 82, 82, 82, 82, 82, 82, 82, 82, 82, 32, 32, 73, 85, 85, 85, 72, 72, 72, 76, 73, 32, 32, 32, 32, 32, 32, 32, 73, 73, 73, 73, 73, 32, 32, 32, 73, 73, 73, 32, 32, 32, 32, 32, 73, 73, 73, 73, 73, 73, 32, 32, 74, 73, 32, 32, 32, 32, 32, 32, 78, 78, 78, 32, 67, 67, 78]⟩) (.int .i64 k)).run Tryd.prog W = .ok (.int .u8 (formC k)) W := by
  have h : k = 0 ∨ k = 1 ∨ k = 2 ∨ k = 3 ∨ k = 4 ∨ k = 5 ∨ k = 6 ∨ k = 7 ∨ k = 8 ∨ k = 9 ∨ k = 10 ∨ k = 11 ∨ k = 12 ∨ k = 13 ∨ k = 14 ∨ k = 15 ∨ k = 16 ∨ k = 17 ∨ k = 18 ∨ k = 19 ∨ k = 20 ∨ k = 21 ∨ k = 22 ∨ k = 23 ∨ k = 24 ∨ k = 25 ∨ k = 26 ∨ k = 27 ∨ k = 28 ∨ k = 29 ∨ k = 30 ∨ k = 31 ∨ k = 32 ∨ k = 33 ∨ k = 34 ∨ k = 35 ∨ k = 36 ∨ k = 37 ∨ k = 38 ∨ k = 39 ∨ k = 40 ∨ k = 41 ∨ k = 42 ∨ k = 43 ∨ k = 44 ∨ k = 45 ∨ k = 46 ∨ k = 47 ∨ k = 48 ∨ k = 49 ∨ k = 50 ∨ k = 51 ∨ k = 52 ∨ k = 53 ∨ k = 54 ∨ k = 55 ∨ k = 56 ∨ k = 57 ∨ k = 58 ∨ k = 59 ∨ k = 60 ∨ k = 61 ∨ k = 62 ∨ k = 63 ∨ k = 64 ∨ k = 65 ∨ k = 66 ∨ k = 67 ∨ k = 68 ∨ k = 69 ∨ k = 70 := by omega
  rw [formC_nat k hk]
  rcases h with rfl | rfl | rfl | rfl | rfl | rfl | rfl | rfl | rfl | rfl | rfl | rfl | rfl | rfl | rfl | rfl | rfl | rfl | rfl | rfl | rfl | rfl | rfl | rfl | rfl | rfl | rfl | rfl | rfl | rfl | rfl | rfl | rfl | rfl | rfl | rfl | rfl | rfl | rfl | rfl | rfl | rfl | rfl | rfl | rfl | rfl | rfl | rfl | rfl | rfl | rfl | rfl | rfl | rfl | rfl | rfl | rfl | rfl | rfl | rfl | rfl | rfl | rfl | rfl | rfl | rfl | rfl | rfl | rfl | rfl | rfl <;> exact fun _ => by kernel_rfl
theorem form_any (op : Int) (w : World) : Calls Tryd.prog 25 #[.int .i64 op] w fun e w' => e = .returned (.int .u8 (formC op)) ∧ w = w' := by
  by_cases h : 0 ≤ op ∧ op < 71
  · obtain ⟨k, rfl⟩ : ∃ k : Nat, op = k := ⟨op.toNat, by omega⟩
    have hk : k < 71 := by omega
    have hr := run_form k hk
    have h1 : ¬ (k : Int) < 0 := by omega
    have h2 : ¬ (71 : Int) ≤ k := by omega
    clear h hk
    generalize formC k = f at *
    go_enter Tryd.func25, Tryd.ntmps25
    go_wp2_with fail
    go_ret
    exact ⟨rfl, rfl⟩
  · rw [formC_none h]
    by_cases h1 : op < 0
    · clear h
      go_enter Tryd.func25, Tryd.ntmps25
      go_wp2_with fail
      go_ret
      exact ⟨rfl, rfl⟩
    · have h2 : (71 : Int) ≤ op := by omega
      clear h
      go_enter Tryd.func25, Tryd.ntmps25
      go_wp2_with fail
      go_ret
      exact ⟨rfl, rfl⟩
def nameV (op : Int) : Value := .string ⟨(Is.name op).toArray⟩
theorem ne_eq {a b : Int} (h : a ≠ b) : (a == b) = false := beq_eq_false_iff_ne.2 h
set_option maxRecDepth 100000 in
set_option maxHeartbeats 16000000 in
theorem rform_any (op : Int) (w : World) : Calls Tryd.prog 17 #[.int .i64 op] w fun e w' => e = .returned (.tuple #[.int .u8 ((Is.form op).toNat : Int), nameV op]) ∧ w = w' := by
  by_cases h : Is.form op = 0
  · have hn : nameV op = .string ⟨#[]⟩ := by unfold nameV; rw [Is.name_none h]
    rw [h, hn]
    have e1 : (op == 1) = false := ne_eq (by rintro rfl; exact absurd h (by decide))
    have e2 : (op == 2) = false := ne_eq (by rintro rfl; exact absurd h (by decide))
    have e3 : (op == 3) = false := ne_eq (by rintro rfl; exact absurd h (by decide))
    have e4 : (op == 4) = false := ne_eq (by rintro rfl; exact absurd h (by decide))
    have e5 : (op == 5) = false := ne_eq (by rintro rfl; exact absurd h (by decide))
    have e6 : (op == 6) = false := ne_eq (by rintro rfl; exact absurd h (by decide))
    have e7 : (op == 7) = false := ne_eq (by rintro rfl; exact absurd h (by decide))
    have e8 : (op == 8) = false := ne_eq (by rintro rfl; exact absurd h (by decide))
    have e9 : (op == 9) = false := ne_eq (by rintro rfl; exact absurd h (by decide))
    have e10 : (op == 10) = false := ne_eq (by rintro rfl; exact absurd h (by decide))
    have e11 : (op == 11) = false := ne_eq (by rintro rfl; exact absurd h (by decide))
    have e12 : (op == 12) = false := ne_eq (by rintro rfl; exact absurd h (by decide))
    have e13 : (op == 13) = false := ne_eq (by rintro rfl; exact absurd h (by decide))
    have e16 : (op == 16) = false := ne_eq (by rintro rfl; exact absurd h (by decide))
    have e17 : (op == 17) = false := ne_eq (by rintro rfl; exact absurd h (by decide))
    have e18 : (op == 18) = false := ne_eq (by rintro rfl; exact absurd h (by decide))
    have e19 : (op == 19) = false := ne_eq (by rintro rfl; exact absurd h (by decide))
    have e20 : (op == 20) = false := ne_eq (by rintro rfl; exact absurd h (by decide))
    have e21 : (op == 21) = false := ne_eq (by rintro rfl; exact absurd h (by decide))
    have e22 : (op == 22) = false := ne_eq (by rintro rfl; exact absurd h (by decide))
    have e23 : (op == 23) = false := ne_eq (by rintro rfl; exact absurd h (by decide))
    have e24 : (op == 24) = false := ne_eq (by rintro rfl; exact absurd h (by decide))
    have e32 : (op == 32) = false := ne_eq (by rintro rfl; exact absurd h (by decide))
    have e33 : (op == 33) = false := ne_eq (by rintro rfl; exact absurd h (by decide))
    have e34 : (op == 34) = false := ne_eq (by rintro rfl; exact absurd h (by decide))
    have e35 : (op == 35) = false := ne_eq (by rintro rfl; exact absurd h (by decide))
    have e36 : (op == 36) = false := ne_eq (by rintro rfl; exact absurd h (by decide))
    have e40 : (op == 40) = false := ne_eq (by rintro rfl; exact absurd h (by decide))
    have e41 : (op == 41) = false := ne_eq (by rintro rfl; exact absurd h (by decide))
    have e42 : (op == 42) = false := ne_eq (by rintro rfl; exact absurd h (by decide))
    have e48 : (op == 48) = false := ne_eq (by rintro rfl; exact absurd h (by decide))
    have e49 : (op == 49) = false := ne_eq (by rintro rfl; exact absurd h (by decide))
    have e50 : (op == 50) = false := ne_eq (by rintro rfl; exact absurd h (by decide))
    have e51 : (op == 51) = false := ne_eq (by rintro rfl; exact absurd h (by decide))
    have e52 : (op == 52) = false := ne_eq (by rintro rfl; exact absurd h (by decide))
    have e53 : (op == 53) = false := ne_eq (by rintro rfl; exact absurd h (by decide))
    have e56 : (op == 56) = false := ne_eq (by rintro rfl; exact absurd h (by decide))
    have e57 : (op == 57) = false := ne_eq (by rintro rfl; exact absurd h (by decide))
    have e64 : (op == 64) = false := ne_eq (by rintro rfl; exact absurd h (by decide))
    have e65 : (op == 65) = false := ne_eq (by rintro rfl; exact absurd h (by decide))
    have e66 : (op == 66) = false := ne_eq (by rintro rfl; exact absurd h (by decide))
    have e68 : (op == 68) = false := ne_eq (by rintro rfl; exact absurd h (by decide))
    have e69 : (op == 69) = false := ne_eq (by rintro rfl; exact absurd h (by decide))
    have e70 : (op == 70) = false := ne_eq (by rintro rfl; exact absurd h (by decide))
    clear h hn
    go_enter Tryd.func17, Tryd.ntmps17
    go_wp2_with fail
    go_ret2
    exact ⟨rfl, rfl⟩
  · have hr := Is.form_range h
    have hk : op = 1 ∨ op = 2 ∨ op = 3 ∨ op = 4 ∨ op = 5 ∨ op = 6 ∨ op = 7 ∨ op = 8 ∨ op = 9 ∨ op = 10 ∨ op = 11 ∨ op = 12 ∨ op = 13 ∨ op = 16 ∨ op = 17 ∨ op = 18 ∨ op = 19 ∨ op = 20 ∨ op = 21 ∨ op = 22 ∨ op = 23 ∨ op = 24 ∨ op = 32 ∨ op = 33 ∨ op = 34 ∨ op = 35 ∨ op = 36 ∨ op = 40 ∨ op = 41 ∨ op = 42 ∨ op = 48 ∨ op = 49 ∨ op = 50 ∨ op = 51 ∨ op = 52 ∨ op = 53 ∨ op = 56 ∨ op = 57 ∨ op = 64 ∨ op = 65 ∨ op = 66 ∨ op = 68 ∨ op = 69 ∨ op = 70 := by
      obtain ⟨k, rfl⟩ : ∃ k : Nat, op = k := ⟨op.toNat, by omega⟩
      have key : ∀ j : Fin 71, Is.form (j.1 : Int) ≠ 0 → (j.1 : Int) = 1 ∨ (j.1 : Int) = 2 ∨ (j.1 : Int) = 3 ∨ (j.1 : Int) = 4 ∨ (j.1 : Int) = 5 ∨ (j.1 : Int) = 6 ∨ (j.1 : Int) = 7 ∨ (j.1 : Int) = 8 ∨ (j.1 : Int) = 9 ∨ (j.1 : Int) = 10 ∨ (j.1 : Int) = 11 ∨ (j.1 : Int) = 12 ∨ (j.1 : Int) = 13 ∨ (j.1 : Int) = 16 ∨ (j.1 : Int) = 17 ∨ (j.1 : Int) = 18 ∨ (j.1 : Int) = 19 ∨ (j.1 : Int) = 20 ∨ (j.1 : Int) = 21 ∨ (j.1 : Int) = 22 ∨ (j.1 : Int) = 23 ∨ (j.1 : Int) = 24 ∨ (j.1 : Int) = 32 ∨ (j.1 : Int) = 33 ∨ (j.1 : Int) = 34 ∨ (j.1 : Int) = 35 ∨ (j.1 : Int) = 36 ∨ (j.1 : Int) = 40 ∨ (j.1 : Int) = 41 ∨ (j.1 : Int) = 42 ∨ (j.1 : Int) = 48 ∨ (j.1 : Int) = 49 ∨ (j.1 : Int) = 50 ∨ (j.1 : Int) = 51 ∨ (j.1 : Int) = 52 ∨ (j.1 : Int) = 53 ∨ (j.1 : Int) = 56 ∨ (j.1 : Int) = 57 ∨ (j.1 : Int) = 64 ∨ (j.1 : Int) = 65 ∨ (j.1 : Int) = 66 ∨ (j.1 : Int) = 68 ∨ (j.1 : Int) = 69 ∨ (j.1 : Int) = 70 := by decide
      exact key ⟨k, by omega⟩ h
    clear h hr
    rcases hk with rfl | rfl | rfl | rfl | rfl | rfl | rfl | rfl | rfl | rfl | rfl | rfl | rfl | rfl | rfl | rfl | rfl | rfl | rfl | rfl | rfl | rfl | rfl | rfl | rfl | rfl | rfl | rfl | rfl | rfl | rfl | rfl | rfl | rfl | rfl | rfl | rfl | rfl | rfl | rfl | rfl | rfl | rfl | rfl
    all_goals
      go_enter Tryd.func17, Tryd.ntmps17
      go_wp2_with fail
      go_ret2
      exact ⟨rfl, rfl⟩
end Go.Proofs.YtmfldcacjpligaaDoor
