/-
  The law's first call: the example of the document; the loops that take a table apart.
-/
import Derived.Test.YtadcfedjmofjjaaDoorD5
import Derived.Test.YtadcfedjmofjjaaDoorS1
namespace Go.Proofs.YtadcfedjmofjjaaDoor
open Go.RowKit
theorem num_any (n : Int) (w : World) : Calls Tryd.prog 11 #[.int .i64 n] w fun e w' => e = .returned (.int .i64 n) ∧ w = w' := by
  go_enter Tryd.func11, Tryd.ntmps11
  go_wp2_with fail
  go_ret
  exact ⟨rfl, rfl⟩
def aliveSrc : ByteArray := ⟨#[115, 101, 109, 115, 32, 49, 10, 109, 117, 116, 101, 120, 101, 115, 32, 48, 10, 113, 117, 101, 117, 101, 115, 10, 116, 97, 115, 107, 32, 51, 10, 32, 116, 97, 107, 101, 32, 48, 32, 45, 49, 10, 32, 112, 117, 116, 32, 54, 53]⟩
def aliveT : Tk.Table := ⟨[⟨3, [⟨3, 0, -1⟩, ⟨0, 65, 0⟩]⟩], [1], 0, []⟩
theorem alive_parse : Tk.parse (bytesOf aliveSrc) = (aliveT, 0, 0) := by kernel_rfl
set_option maxRecDepth 100000 in
set_option maxHeartbeats 4000000 in
theorem alive_any (w : World) (m0 : Int) (hm : w.cell? ⟨0, 0, none⟩ = some (.int .i64 m0)) : Calls Tryd.prog 8 #[] w fun e w' => e = .returned (.bool true) ∧ Below w.heap.size w w' := by
  go_enter Tryd.func8, Tryd.ntmps8
  go_wp2_with fail
  refine (parse_any aliveSrc w (by decide) m0 hm).mono ?_
  rintro e w1 ⟨V1, V2, V3, rfl, ht, hb⟩
  rw [alive_parse] at ht ⊢
  obtain ⟨A1, n1, hV1, _, _⟩ := ht.len
  obtain ⟨A2, n2, hV2, _, _⟩ := row_slice ht.sems
  obtain ⟨A3, n3, hV3, _, _⟩ := row_slice ht.queues
  subst hV1 hV2 hV3
  have hrd := (ht.reads).1
  obtain ⟨ad, A, c, eA, had, hc0, hc1, hro, _⟩ := hrd.task 0 (by decide)
  subst eA
  obtain ⟨ad2, eA2, had2, o0, o1, o2⟩ := hro.op (k := 0) (by decide)
  subst eA2
  have z0 : ad.add (0 * 2) = ad := by simp [Addr.add]
  have z2 : ad2.add (0 * 3) = ad2 := by simp [Addr.add]
  rw [add_pos _ _ (by decide)] at hc1 o1 o2
  rw [z2] at o0
  have hc1' : w1.cell? ⟨ad.block, ad.off + 1, none⟩ = some (.slice (some ad2) 2 c) := hc1
  have o0' : w1.cell? ad2 = some (.int .i64 3) := o0
  have o1' : w1.cell? ⟨ad2.block, ad2.off + 1, none⟩ = some (.int .i64 0) := o1
  have o2' : w1.cell? ⟨ad2.block, ad2.off + 2, none⟩ = some (.int .i64 (-1)) := o2
  have hl : aliveT.tasks.length = 1 := rfl
  have hl2 : aliveT.sems.length = 1 := rfl
  have hl3 : aliveT.queues.length = 0 := rfl
  have hl4 : aliveT.mutexes = 0 := rfl
  rw [hl, hl2, hl3, hl4]
  clear hc0 hc1 o0 o1 o2 hl hl2 hl3 hl4 hro hrd ht z0 z2
  go_wp2_with fail
  refine (num_any _ _).mono ?_
  rintro e w' ⟨rfl, rfl⟩
  go_wp2_with fail
  go_ret
  exact ⟨rfl, hb.alloc hb.size _⟩
end Go.Proofs.YtadcfedjmofjjaaDoor
