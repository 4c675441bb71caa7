/-
  The document's kernel: what the walks need holds between its operations; an operation, whichever: the walk of do. The document's kernel: a run: the walk of Run.
-/
import Derived.Test.YtncbgnpoffolcaaRkT
import Derived.Test.YtncbgnpoffolcaaRkI
import Derived.Test.YtncbgnpoffolcaaRkJ
import Derived.Test.YtncbgnpoffolcaaRkK
import Derived.Test.YtncbgnpoffolcaaRkL
import Derived.Test.YtncbgnpoffolcaaRkQ
import Derived.Test.YtncbgnpoffolcaaRkU
import Derived.BigQuiet
namespace Go.Proofs.Ytncbgnpoffolcaa
open Go.RowKit
namespace Rk
open Kn (TL Should Ok Inv Mono)
section
variable {k : Kn.K} {r : K} {τ : Nat → Nat}
theorem Rel.rf (h : Rel τ k r) (hk : Ok k) (h0 : 0 < k.tasks.length) : RF r 32 := by
 have hl := h.len
 have hf := hk.fine
 refine ⟨by omega, by have := hk.inv.tasks; omega, fun i hi => ?_, fun x => ?_, by rw [h.owner]; exact hk.inv.few.2.1⟩
 ·rw [hl] at hi
  rw [(h.task i hi).prio]
  exact hk.inv.prio i hi
 ·by_cases h1 : x < 32
  ·rw [h.rows x h1]
   exact hf.len x
  ·by_cases h2 : x < 40
   ·have := h.ques (x - 32) (by omega)
    rw [show 32 + (x - 32) = x by omega] at this
    rw [this]
    exact hf.len _
   ·unfold K.l
    rw [zd, List.getElem?_eq_none (by rw [h.lens]; omega)]
    simp
theorem Rel.rp (h : Rel τ k r) (hk : Ok k) : RP r := by
 have hl := h.len
 refine ⟨fun i hi => ?_, fun i hi hs ho => ?_, fun o ho => ?_⟩
 ·rw [hl] at hi
  rw [(h.task i hi).base]
  exact (hk.good.task i hi).base
 ·rw [hl] at hi
  have t := h.task i hi
  rw [t.state] at hs
  have q := t.on hs
  cases hon : (k.ti i).on with
  | none => rw [hon] at q; have q' : (r.ti i).on = 0 := q; omega
  | some x =>
    rw [hon] at q
    have hx := (hk.inv.on i x hi hon).2
    unfold Kn.K.OnOk at hx
    have := hk.inv.few
    have e := h.owner
    unfold On at q
    simp only at q
    rw [e]
    rcases hx with ⟨j, e1, h1⟩ | ⟨j, e1, h1⟩ | ⟨j, e1, h1⟩ | ⟨j, e1, h1⟩ <;> omega
 ·rw [h.owner] at ho
  rw [hl]
  exact hk.good.owner o ho
end
/-! Counts. -/
def Nm (d : Nat) (r r' : K) : Prop := r'.count ≤ r.count + d ∧ r'.sinceOps = r.sinceOps
theorem nm {d : Nat} {r r' : K} (h1 : r'.count ≤ r.count + d) (h2 : r'.sinceOps = r.sinceOps) : Nm d r r' := ⟨h1, h2⟩
theorem nm0 {d : Nat} {r r' : K} (h1 : r'.count = r.count) (h2 : r'.sinceOps = r.sinceOps) : Nm d r r' := ⟨by omega, h2⟩
theorem Nm.ite {d : Nat} {c : Prop} [Decidable c] {r a b : K} (ha : Nm d r a) (hb : Nm d r b) : Nm d r (if c then a else b) := by
 by_cases h : c
 ·rw [if_pos h]; exact ha
 ·rw [if_neg h]; exact hb
theorem Nm.trans {a b c : K} {d e : Nat} (h : Nm d a b) (h' : Nm e b c) : Nm (d + e) a c := ⟨by have := h.1; have := h'.1; omega, h'.2.trans h.2⟩
theorem free_nm (r : K) (i : Nat) : Nm 0 r (r.free i) := Nm.ite (nm0 rfl rfl) (nm0 rfl rfl)
theorem gives_nm (n : Int) : ∀ (f i : Nat) (r : K), Nm 0 r (K.gives n f i r)
 | 0, _, _ => nm0 rfl rfl
 | f + 1, i, r => by
   unfold K.gives
   exact (Nm.ite (c := r.owner.getD i (-1) = n) (free_nm r i) (nm0 rfl rfl)).trans (gives_nm n f (i + 1) _)
theorem fin_nm (r : K) (n : Int) : Nm 0 r (r.fin n) := (nm0 (r' := (r.leave n).setT n fun t => { t with state := 2 }) (d := 0) rfl rfl).trans (gives_nm n _ _ _)
theorem moveAt_nm (last : Int) : ∀ (ps : List Int) (i : Nat) (r : K), Nm 0 r (K.moveAt last ps i r)
 | [], _, _ => nm0 rfl rfl
 | p :: ps, i, r => by
   rw [moveAt_cons]
   have h : Nm 0 r (r.move1 last p i) := Nm.ite (nm0 rfl rfl) (Nm.ite (nm0 rfl rfl) (Nm.ite (nm0 rfl rfl) (nm0 rfl rfl)))
   exact h.trans (moveAt_nm last ps (i + 1) _)
theorem prio_nm (r : K) : Nm 0 r r.priorities := moveAt_nm _ _ _ _
theorem act_nm (r : K) (n : Int) (o : Kn.Op) : Nm 1 r (r.act n o) := by
 have z : ∀ {r' : K}, Nm 0 r r' → Nm 1 r r' := fun h => ⟨by have := h.1; omega, h.2⟩
 have w : ∀ on id v, Nm 1 r (r.wait n on id v) := fun _ _ _ => nm (zl _) rfl
 have wt : ∀ on id v x a, Nm 1 r ((r.wait n on id v).till n x a) := fun _ _ _ _ _ => nm (zl _) rfl
 have h8 : Nm 1 r (r.recv n o) := by
  refine Nm.ite (nm0 rfl rfl) ?_
  cases r.l (32 + o.a.toNat) with
  | nil => exact w _ _ _
  | cons x q => exact Nm.ite (nm0 rfl rfl) (nm0 rfl rfl)
 have h3 : Nm 1 r (r.take n o) := Nm.ite (nm0 rfl rfl) (Nm.ite (nm0 rfl rfl) (Nm.ite (nm0 rfl rfl) (Nm.ite (wt _ _ _ _ _) (w _ _ _))))
 have h4 : Nm 1 r (r.give n o) := Nm.ite (nm0 rfl rfl) (Nm.ite (nm0 rfl rfl) (Nm.ite (nm0 rfl rfl) (nm0 rfl rfl)))
 have h5 : Nm 1 r (r.lock n o) := Nm.ite (nm0 rfl rfl) (Nm.ite (nm0 rfl rfl) (Nm.ite (nm0 rfl rfl) (w _ _ _)))
 have h6 : Nm 1 r (r.unlock n o) := Nm.ite (nm0 rfl rfl) (Nm.ite (nm0 rfl rfl) (z ((nm0 (r' := r.say n 0) (d := 0) rfl rfl).trans (free_nm _ _))))
 have h7 : Nm 1 r (r.send n o) := Nm.ite (nm0 rfl rfl) (Nm.ite (nm0 rfl rfl) (Nm.ite (nm0 rfl rfl) (w _ _ _)))
 have h10 : Nm 1 r (r.loop n o) := Nm.ite (nm0 rfl rfl) (nm0 rfl rfl)
 have h12 : Nm 1 r ((r.put 33).fin n) := z ((nm0 (r' := r.put 33) (d := 0) rfl rfl).trans (fin_nm _ _))
 have h2 : Nm 1 r (r.delay n o) := Nm.ite (nm0 rfl rfl) (wt _ _ _ _ _)
 have hp : ∀ a, Nm 1 r (r.put a) := fun _ => nm0 rfl rfl
 have hs : ∀ a, Nm 1 r (r.say n a) := fun _ => nm0 rfl rfl
 exact Nm.ite (hp _) (Nm.ite (nm0 rfl rfl) (Nm.ite h2 (Nm.ite h3 (Nm.ite h4 (Nm.ite h5 (Nm.ite h6 (Nm.ite h7 (Nm.ite h8 (Nm.ite (hp _) (Nm.ite h10 (Nm.ite (hs _) (Nm.ite h12 (Nm.ite (nm0 rfl rfl) (hs _))))))))))))))
theorem do_nm (r : K) (n : Int) : Nm 1 r (r.do_ n) := by
 have h := act_nm (r.setT n fun t => { t with place := t.place + 1 }) n ((r.t n).ops.getD (r.t n).place ⟨0, 0, 0⟩)
 exact ⟨h.1, h.2⟩
/-- An operation: the walk of do. -/
theorem do_any {w : World} {B : Nat} {r : K} {L : Ly} {k : Kn.K} {τ : Nat → Nat} {m : Nat} (h : RM w B r L) (hr : Rel τ k r) (hk : Ok k) (hm : m < k.tasks.length) (hp : (k.ti m).place < (k.ti m).ops.length)
 (hct : r.count ≤ 1000000) (htk : r.ticks ≤ 1000000) (hout : r.out.length ≤ 1000000) : Calls Try.prog 50 #[.pointer (some ⟨L.b, 0, none⟩), .int .i64 m] w (DoPost w B (r.do_ m) L) := by
 have t := hr.task m hm
 have g := hk.good.task m hm
 have hf := g.fits (k.ti m).place hp
 have hD : ∀ o, (k.ti m).ops[(k.ti m).place] = o → DO w B 32 r L m o := fun o ho =>
  ⟨h, hr.rf hk (by omega), by decide, by rw [hr.len]; exact hm, by rw [t.ops, t.place]; exact hp, by rw [t.ops]; exact g.few, by rw [t.ops, t.place, List.getElem?_eq_getElem hp, ho], hct⟩
 generalize (k.ti m).ops[(k.ti m).place] = o at *
 have hD' := hD o rfl
 clear hD
 obtain ⟨kd, oa, ob⟩ := o
 have hss : ∀ a : Nat, ∀ h : a < r.sems.length, 0 ≤ r.sems[a] ∧ r.sems[a] ≤ 100 := fun a h => hk.good.sems _ (by rw [← hr.sems]; exact List.getElem_mem h)
 have nat : 0 ≤ oa → ∃ a : Nat, oa = a := fun h => ⟨oa.toNat, by omega⟩
 rcases Kn.fits_cases hf with h1 | h1 | h1 | h1 | h1 | h1 | h1 | h1 | h1 | h1 | h1 | h1 <;> simp only at h1
 ·obtain ⟨rfl, a0, a1⟩ := h1
  obtain ⟨a, rfl⟩ := nat a0
  exact do_0 hD' (by omega) hout
 ·subst h1
  exact do_1 hD'
 ·obtain ⟨rfl, a0, a1⟩ := h1
  obtain ⟨a, rfl⟩ := nat a0
  exact do_2 hD' (by omega) htk
 ·obtain ⟨rfl, a0, a1, b0, b1⟩ := h1
  obtain ⟨a, rfl⟩ := nat a0
  exact do_3 hD' (by omega) b1 htk (hss a)
 ·obtain ⟨h1, a0, a1⟩ := h1
  obtain ⟨a, rfl⟩ := nat a0
  rcases h1 with rfl | rfl | rfl | rfl
  ·exact do_4 hD' (by omega) (hss a)
  ·exact do_5 hD' (by omega)
  ·exact do_6 hD' (by omega)
  ·exact do_8 hD' (by omega)
 ·obtain ⟨rfl, a0, a1, b0, b1⟩ := h1
  obtain ⟨a, rfl⟩ := nat a0
  exact do_7 hD' (by omega)
 ·obtain ⟨rfl, a0, a1, b0, b1⟩ := h1
  obtain ⟨a, rfl⟩ := nat a0
  refine do_10 hD' ⟨b0, b1⟩ (fun j hj => ?_) (by rw [t.loops, t.ops]; exact g.loops)
  rw [t.loops] at hj ⊢
  rw [zd, List.getElem?_eq_getElem hj]
  exact g.loop _ (List.getElem_mem hj)
 ·obtain ⟨rfl, a0, a1⟩ := h1
  exact do_13 hD'
 ·subst h1
  exact do_9 hD' hout
 ·subst h1
  exact do_11 hD'
 ·subst h1
  exact do_12 hD' hout
 ·subst h1
  exact do_14 hD'
end Rk
end Go.Proofs.Ytncbgnpoffolcaa
namespace Go.Proofs.Ytncbgnpoffolcaa
open Go.RowKit
namespace Rk
open Kn (Ok)
/-- Between two rounds of a run. -/
structure Up (ticks ops f0 : Nat) (r0 : K) (k : Kn.K) (r : K) (f : Nat) : Prop where
 rel : Rel (fun _ => k.ticks) k r
 ok : Ok k
 pos : 0 < k.tasks.length
 tk : k.ticks ≤ ticks
 op : k.ops ≤ ops
 cnt : r.count ≤ r.ops
 sn : r.sinceOps ≤ r.ops
 run : K.run ticks ops f0 r0 = K.run ticks ops f r
 fuel : k.rest ticks ops < f
theorem wakeAt_nm : ∀ (f i : Nat) (r : K), Nm 0 r (K.wakeAt f i r)
 | 0, _, _ => nm0 rfl rfl
 | f + 1, i, r => by
   unfold K.wakeAt
   have h : Nm 0 r (if (r.ti i).state = 1 ∧ (r.ti i).wake = r.ticks then r.ready i (r.ti i).answer else r) := Nm.ite (nm0 rfl rfl) (nm0 rfl rfl)
   exact h.trans (wakeAt_nm f (i + 1) _)
section
variable {ticks ops f0 f : Nat} {r0 r : K} {k : Kn.K}
theorem Up.ran (h : Up ticks ops f0 r0 k r f) : r.running = k.running := h.rel.running h.ok.inv
theorem Up.stop_idle (h : Up ticks ops f0 r0 k r (f + 1)) (hr : r.running = -1) (hc : r.timed = false ∨ ticks ≤ r.ticks) : K.run ticks ops f0 r0 = r := by
 rw [h.run]
 unfold K.run
 simp only []
 rw [hr, if_pos (by decide), if_pos hc]
theorem Up.stop_ops (h : Up ticks ops f0 r0 k r (f + 1)) {i : Nat} (hr : r.running = i) (hc : ops ≤ r.ops) : K.run ticks ops f0 r0 = r := by
 rw [h.run]
 unfold K.run
 simp only []
 rw [hr, if_neg (by omega), if_pos hc]
theorem Up.tick (h : Up ticks ops f0 r0 k r (f + 1)) (hr : r.running = -1) (hc : ¬ (r.timed = false ∨ ticks ≤ r.ticks)) : Up ticks ops f0 r0 k.tick r.tick f := by
 have hkr : k.running = -1 := h.ran.symm.trans hr
 have hkc : ¬ (k.timed = false ∨ ticks ≤ k.ticks) := by rw [← h.rel.timed h.ok, ← h.rel.ticks]; exact hc
 have e : k.round ticks ops = some k.tick := by
  unfold Kn.K.round
  rw [hkr, if_pos (by decide), if_neg hkc]
 obtain ⟨o1, m1, q1, q2, q3⟩ := h.ok.round e
 have n1 := (wakeAt_nm r.tasks.length 0 { r with ticks := r.ticks + 1, sinceOps := 0 })
 have n2 := prio_nm { K.wakeAt r.tasks.length 0 { r with ticks := r.ticks + 1, sinceOps := 0 } with ran := -1 }
 have eo : r.tick.ops = r.ops := by
  have h1 := (h.rel.tick h.ok).ops
  rw [h1, (Kn.tick_nums k).2.1, h.rel.ops]
 refine ⟨(h.rel.tick h.ok).now fun _ _ => (Kn.tick_nums k).1.symm, o1, by rw [m1.tasks]; exact h.pos, q2 h.tk, q3 h.op, ?_, ?_, ?_, by have := h.fuel; omega⟩
 ·rw [eo]
  have a1 : (K.wakeAt r.tasks.length 0 { r with ticks := r.ticks + 1, sinceOps := 0 }).count ≤ r.count + 0 := n1.1
  have a2 : r.tick.count ≤ (K.wakeAt r.tasks.length 0 { r with ticks := r.ticks + 1, sinceOps := 0 }).count + 0 := n2.1
  have := h.cnt
  omega
 ·have a1 : (K.wakeAt r.tasks.length 0 { r with ticks := r.ticks + 1, sinceOps := 0 }).sinceOps = 0 := n1.2
  have a2 : r.tick.sinceOps = (K.wakeAt r.tasks.length 0 { r with ticks := r.ticks + 1, sinceOps := 0 }).sinceOps := n2.2
  omega
 ·rw [h.run]
  show (if r.running < 0 then _ else _) = _
  rw [hr, if_pos (by decide), if_neg hc]
theorem Up.fin (h : Up ticks ops f0 r0 k r (f + 1)) {i : Nat} (hr : r.running = i) (hi : i < k.tasks.length) (hs : (k.ti i).state = 0) (h1 : ¬ ops ≤ r.ops) (h2 : (r.ti i).ops.length ≤ (r.ti i).place) :
 Up ticks ops f0 r0 ((k.fin i).anew i) (({ r with ran := (i : Int) } : K).fin i).priorities f ∧ Rel (fun _ => k.ticks) (k.fin i) (({ r with ran := (i : Int) } : K).fin i) ∧ Ok (k.fin i) ∧ (k.fin i).tasks.length = k.tasks.length := by
 have hkr : k.running = i := h.ran.symm.trans hr
 have t := h.rel.task i hi
 have hk2 : (k.ti i).ops.length ≤ (k.ti i).place := by rw [← t.ops, ← t.place]; exact h2
 have hk1 : ¬ ops ≤ k.ops := by rw [← h.rel.ops]; exact h1
 have e : k.round ticks ops = some ((k.fin i).anew i) := by
  unfold Kn.K.round
  rw [hkr, if_neg (by omega), if_neg hk1, Kn.t_nat, if_pos hk2]
 obtain ⟨o1, m1, q1, q2, q3⟩ := h.ok.round e
 have h0 : Rel (fun _ => k.ticks) k { r with ran := (i : Int) } := ⟨h.rel.len, h.rel.task, h.rel.lens, h.rel.rows, h.rel.ques, h.rel.sems, h.rel.owner, h.rel.size, h.rel.out, h.rel.ticks, h.rel.ops, h.rel.since, h.rel.ord⟩
 obtain ⟨k1, m2, _⟩ := h.ok.fin hi hs
 have hf := h0.fin h.ok hi hs
 have ha := hf.anew k1 (last := (i : Int)) (fin_ran _ _)
 have n1 := fin_nm { r with ran := (i : Int) } i
 have n2 := prio_nm (({ r with ran := (i : Int) } : K).fin i)
 have eo : (({ r with ran := (i : Int) } : K).fin i).priorities.ops = r.ops := by
  rw [ha.ops, (Kn.anew_nums _ _).2.1, (Kn.fin_nums _ _).2.1, h.rel.ops]
 refine ⟨⟨ha.now fun _ _ => ?_, o1, by rw [m1.tasks]; exact h.pos, q2 h.tk, q3 h.op, ?_, ?_, ?_, by have := h.fuel; omega⟩, hf, k1, m2.tasks⟩
 ·rw [(Kn.anew_nums _ _).1, (Kn.fin_nums _ _).1]
 ·rw [eo]
  have a1 : (({ r with ran := (i : Int) } : K).fin i).count ≤ r.count + 0 := n1.1
  have a2 := n2.1
  have := h.cnt
  omega
 ·rw [eo]
  have a1 : (({ r with ran := (i : Int) } : K).fin i).sinceOps = r.sinceOps := n1.2
  have a2 := n2.2
  have := h.sn
  omega
 ·rw [h.run]
  show (if r.running < 0 then _ else _) = _
  rw [hr, if_neg (by omega), if_neg h1, t_nat, if_pos h2]
theorem Up.act (h : Up ticks ops f0 r0 k r (f + 1)) {i : Nat} (hr : r.running = i) (hi : i < k.tasks.length) (hs : (k.ti i).state = 0) (h1 : ¬ ops ≤ r.ops) (h2 : ¬ (r.ti i).ops.length ≤ (r.ti i).place) :
 Up ticks ops f0 r0 ((({ k with ops := k.ops + 1 } : Kn.K).do_ i).anew i) ((r.step i).do_ i).priorities f ∧ Rel (fun _ => k.ticks) { k with ops := k.ops + 1 } (r.step i) ∧ Ok { k with ops := k.ops + 1 } ∧ (k.ti i).place < (k.ti i).ops.length ∧
  Rel (fun _ => k.ticks) (({ k with ops := k.ops + 1 } : Kn.K).do_ i) ((r.step i).do_ i) ∧ Ok (({ k with ops := k.ops + 1 } : Kn.K).do_ i) ∧ (({ k with ops := k.ops + 1 } : Kn.K).do_ i).tasks.length = k.tasks.length := by
 have hkr : k.running = i := h.ran.symm.trans hr
 have t := h.rel.task i hi
 have hk2 : ¬ (k.ti i).ops.length ≤ (k.ti i).place := by rw [← t.ops, ← t.place]; exact h2
 have hk1 : ¬ ops ≤ k.ops := by rw [← h.rel.ops]; exact h1
 have e : k.round ticks ops = some ((({ k with ops := k.ops + 1 } : Kn.K).do_ i).anew i) := by
  unfold Kn.K.round
  rw [hkr, if_neg (by omega), if_neg hk1, Kn.t_nat, if_neg hk2]
 obtain ⟨o1, m1, q1, q2, q3⟩ := h.ok.round e
 have h0 : Rel (fun _ => k.ticks) { k with ops := k.ops + 1 } (r.step i) := ⟨h.rel.len, h.rel.task, h.rel.lens, h.rel.rows, h.rel.ques, h.rel.sems, h.rel.owner, h.rel.size, h.rel.out, h.rel.ticks, by show r.ops + 1 = k.ops + 1; rw [h.rel.ops], h.rel.since, h.rel.ord⟩
 have k0 : Ok { k with ops := k.ops + 1 } := (h.ok.nums (k' := { k with ops := k.ops + 1 }) rfl (fun _ _ => rfl) h.ok.inv.lens rfl rfl rfl h.ok.good.sems h.ok.good.owner h.ok.good.que (by show k.out.length ≤ k.ops + 1; have := h.ok.good.out; omega)).1
 have ho : k.out.length < k.ops + 1 := by have := h.ok.good.out; omega
 have hpl : (k.ti i).place < (k.ti i).ops.length := by omega
 obtain ⟨k1, m2⟩ := k0.do_ (i := i) hi hs ho hpl
 have hd := h0.do_ k0 (i := i) hi hs h.rel.ticks.symm ho hpl
 have ha := hd.anew k1 (last := (i : Int)) (do_ran _ _)
 have n1 := do_nm (r.step i) i
 have n2 := prio_nm ((r.step i).do_ i)
 have eo : ((r.step i).do_ i).priorities.ops = r.ops + 1 := by
  rw [ha.ops, (Kn.anew_nums _ _).2.1, (Kn.do_nums _ _).2.1, h.rel.ops]
 refine ⟨⟨ha.now fun _ _ => ?_, o1, by rw [m1.tasks]; exact h.pos, q2 h.tk, q3 h.op, ?_, ?_, ?_, by have := h.fuel; omega⟩, h0, k0, hpl, hd, k1, m2.tasks⟩
 ·rw [(Kn.anew_nums _ _).1, (Kn.do_nums _ _).1]
 ·rw [eo]
  have a1 : ((r.step i).do_ i).count ≤ r.count + 1 := n1.1
  have a2 := n2.1
  have := h.cnt
  omega
 ·rw [eo]
  have a1 : ((r.step i).do_ i).sinceOps = r.sinceOps + 1 := n1.2
  have a2 := n2.2
  have := h.sn
  omega
 ·rw [h.run]
  show (if r.running < 0 then _ else _) = _
  rw [hr, if_neg (by omega), if_neg h1, t_nat, if_neg h2]
end
section
variable {w : World} {B : Nat} {r : K} {L : Ly}
theorem kerC_put {r' : K} {j : Nat} {u : Value} (hn : numsC r' = (numsC r).set j u) : kerC r' L = (kerC r L).set (37 + j) u := by
 unfold kerC
 rw [List.set_append_right _ _ (by rw [headsC_len]; omega), headsC_len, hn]
 congr 2
 omega
theorem RM.setTicks (h : RM w B r L) (n : Nat) : RM (w.setCell ⟨L.b, 37, none⟩ (.int .i64 n)) B { r with ticks := n } L := h.num (r' := { r with ticks := n }) ⟨rfl, fun _ => rfl, rfl, rfl⟩ (kerC_put (j := 0) rfl) (fun p => by cases p <;> rfl) (fun p => by cases p <;> rfl)
theorem RM.setOps (h : RM w B r L) (n : Nat) : RM (w.setCell ⟨L.b, 38, none⟩ (.int .i64 n)) B { r with ops := n } L := h.num (r' := { r with ops := n }) ⟨rfl, fun _ => rfl, rfl, rfl⟩ (kerC_put (j := 1) rfl) (fun p => by cases p <;> rfl) (fun p => by cases p <;> rfl)
theorem RM.setRan (h : RM w B r L) (n : Int) : RM (w.setCell ⟨L.b, 40, none⟩ (.int .i64 n)) B { r with ran := n } L := h.num (r' := { r with ran := n }) ⟨rfl, fun _ => rfl, rfl, rfl⟩ (kerC_put (j := 3) rfl) (fun p => by cases p <;> rfl) (fun p => by cases p <;> rfl)
theorem RM.setMost (h : RM w B r L) (n : Nat) : RM (w.setCell ⟨L.b, 41, none⟩ (.int .i64 n)) B { r with most := n } L := h.num (r' := { r with most := n }) ⟨rfl, fun _ => rfl, rfl, rfl⟩ (kerC_put (j := 4) rfl) (fun p => by cases p <;> rfl) (fun p => by cases p <;> rfl)
theorem RM.setSince (h : RM w B r L) (n : Nat) : RM (w.setCell ⟨L.b, 42, none⟩ (.int .i64 n)) B { r with sinceOps := n } L := h.num (r' := { r with sinceOps := n }) ⟨rfl, fun _ => rfl, rfl, rfl⟩ (kerC_put (j := 5) rfl) (fun p => by cases p <;> rfl) (fun p => by cases p <;> rfl)
end
theorem Up.woke {ticks ops f0 f : Nat} {r0 r : K} {k : Kn.K} (h : Up ticks ops f0 r0 k r f) : ∃ k1, Rel (fun _ => k.ticks + 1) k1 { K.wakeAt r.tasks.length 0 { r with ticks := r.ticks + 1, sinceOps := 0 } with ran := -1 } ∧ Ok k1 ∧ k1.tasks.length = k.tasks.length := by
 obtain ⟨h0, m0⟩ := h.ok.nums (k' := { k with ticks := k.ticks + 1 }) rfl (fun _ _ => rfl) h.ok.inv.lens rfl rfl rfl h.ok.good.sems h.ok.good.owner h.ok.good.que h.ok.good.out
 obtain ⟨h1, m1⟩ := Kn.Ok.tickAt k.tasks.length 0 _ h0 (by show 0 + k.tasks.length ≤ k.tasks.length; omega)
 have e := h.rel
 have hr : Rel (fun j => if j < 0 then k.ticks + 1 else k.ticks) { k with ticks := k.ticks + 1 } { r with ticks := r.ticks + 1, sinceOps := 0 } :=
  ⟨e.len, fun j hj => by rw [if_neg (by omega)]; exact e.task j hj, e.lens, e.rows, e.ques, e.sems, e.owner, e.size, e.out, by show r.ticks + 1 = k.ticks + 1; rw [e.ticks], e.ops, e.since, e.ord⟩
 have hw := Rel.wakeAt (T := k.ticks) k.tasks.length 0 _ _ hr h0 (by show r.ticks + 1 = _; rw [e.ticks]) (by show 0 + k.tasks.length = k.tasks.length; omega)
 rw [← e.len] at hw
 rw [← e.len] at h1 m1
 exact ⟨_, ⟨hw.len, hw.task, hw.lens, hw.rows, hw.ques, hw.sems, hw.owner, hw.size, hw.out, hw.ticks, hw.ops, hw.since, hw.ord⟩, h1, m1.tasks⟩
def tmd (t : T) : Bool := decide (t.state = 1 ∧ 0 ≤ t.wake)
theorem any_next {r : K} {j : Nat} (hj : j < r.tasks.length) : (r.tasks.take (j + 1)).any tmd = ((r.tasks.take j).any tmd || tmd (r.ti j)) := by
 have e : r.ti j = r.tasks[j] := by unfold K.ti; simp [hj]
 rw [List.take_succ_eq_append_getElem hj, List.any_append, e]
 simp
theorem wakeAt_step {r : K} {f j : Nat} : K.wakeAt (f + 1) j r = K.wakeAt f (j + 1) (if (r.ti j).state = 1 ∧ (r.ti j).wake = r.ticks then r.ready j (r.ti j).answer else r) := rfl
end Rk
end Go.Proofs.Ytncbgnpoffolcaa
