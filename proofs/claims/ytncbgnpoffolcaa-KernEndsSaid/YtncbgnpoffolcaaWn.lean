/-
  Behind a table: its run, the letters that are wanted.
-/
import Derived.Test.YtncbgnpoffolcaaSc
import Derived.Test.YtncbgnpoffolcaaTl
import Derived.Test.YtncbgnpoffolcaaAlf
import Derived.Test.YtncbgnpoffolcaaFstP
namespace Go.Proofs.Ytncbgnpoffolcaa
open Go.RowKit
theorem run_at {w : World} {A1 A2 A3 : Option Addr} {c1 c2 c3 n1 n2 n3 : Nat} {mu : Int} {t : Kn.Table} {T O : Int} {ticks ops : Nat} (h1 : n1 = t.tasks.length) (h2 : n2 = t.sems.length) (h3 : n3 = t.queues.length) (hm : mu = t.mutexes) (hT : T = ticks) (hO : O = ops)
    (hr : TabRd w w.heap.size A1 A2 A3 t) (hf : t.fits = true) (ht : ticks ≤ 100000) (ho : ops ≤ 100000) :
    Calls Try.prog 22 #[.agg #[.slice A1 n1 c1, .slice A2 n2 c2, .int .i64 mu, .slice A3 n3 c3], .int .i64 T, .int .i64 O] w (RunAns w (Kn.runT t ticks ops)) := by
  subst h1 h2 h3 hm hT hO
  exact run_good hr hf ht ho
theorem byt_nat (i : Nat) : Kn.byt (i : Int) = UInt8.ofNat (97 + i) := rfl
def prOf (l : List Int) (i : Nat) : Int := l.getD i 0
theorem prOf_at {l : List Int} {i : Nat} (h : i < l.length) : prOf l i = l[i] := by
  unfold prOf
  rw [List.getD_eq_getElem?_getD, List.getElem?_eq_getElem h]
  rfl
/-- A letter behind what is wanted so far. -/
theorem want_push (s : List Int) (i : Nat) : (⟨(s.map Kn.byt).toArray⟩ : ByteArray) ++ (⟨#[UInt8.ofNat (97 + i)]⟩ : ByteArray) = ⟨((s ++ [(i : Int)]).map Kn.byt).toArray⟩ := by
  have := str_add (s.map Kn.byt) [UInt8.ofNat (97 + i)]
  rw [List.map_append]
  exact this
theorem run_want {a b c : ByteArray} (h : a ++ b = c) (hs : a.size + b.size ≤ 9223372036854775807) (W : World) : (Op.stringOp .add a b).run Try.prog W = .ok (.string c) W := by
  rw [run_string_add_sum W a b hs, h]
theorem lt_alloc {w : World} {n : Nat} (h : n < w.heap.size) (o : Obj) : n < (w.alloc o).heap.size := by
  rw [World.size_alloc]
  omega
end Go.Proofs.Ytncbgnpoffolcaa
