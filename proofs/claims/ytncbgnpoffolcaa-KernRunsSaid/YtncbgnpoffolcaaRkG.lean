/-
  The document's kernel: all priorities: the walk of priorities.
-/
import Derived.Test.YtncbgnpoffolcaaRkF
import Derived.Test.YtncbgnpoffolcaaRkT
import Derived.BigQuiet
namespace Go.Proofs.Ytncbgnpoffolcaa
open Go.RowKit
namespace Rk
/-- What the walk of priorities needs besides. -/
structure RP (r : K) : Prop where
 base : ∀ i, i < r.tasks.length → 0 ≤ (r.ti i).base ∧ (r.ti i).base < 32
 on : ∀ i, i < r.tasks.length → (r.ti i).state = 1 → (r.ti i).on = 2 → 0 ≤ (r.ti i).id ∧ (r.ti i).id < r.owner.length
 own : ∀ o ∈ r.owner, -1 ≤ o ∧ o < r.tasks.length
section
variable {r : K} {M : Nat}
def knT (t : T) : Kn.T := ⟨[], t.base, t.prio, t.state, 0, 0, [], if t.on = 2 then some (40 + t.id.toNat) else none, 0, 0⟩
theorem kn_len : r.kn.tasks.length = r.tasks.length := by show (r.tasks.map _).length = _; rw [List.length_map]
theorem kn_at {j : Nat} (hj : j < r.tasks.length) : r.kn.tasks[j]'(by rw [kn_len]; exact hj) = knT (r.ti j) := by
 have er : r.ti j = r.tasks[j] := by unfold K.ti; simp [hj]
 rw [er]
 simp [K.kn, knT]
theorem kn_bases {ls : List Int} (hl : ls.length = r.tasks.length) (h : ∀ q, q < r.tasks.length → ls[q]? = some (r.ti q).base) : r.kn.tasks.map (·.base) = ls := by
 apply List.ext_getElem?
 intro q
 by_cases hq : q < r.tasks.length
 ·rw [h q hq, List.getElem?_map, List.getElem?_eq_getElem (by rw [kn_len]; exact hq), kn_at hq]
  rfl
 ·rw [List.getElem?_eq_none (by rw [List.length_map, kn_len]; omega), List.getElem?_eq_none (by omega)]
theorem kn_own2 {j : Nat} (hp : RP r) (hf : RF r M) (hj : j < r.tasks.length) (hs : (r.ti j).state = 1) (ho : (r.ti j).on = 2) : r.kn.ownerOf (knT (r.ti j)) = r.owner.getD (r.ti j).id.toNat (-1) := by
 have := hp.on j hj hs ho
 have h8 := hf.owner
 unfold Kn.K.ownerOf knT
 rw [if_pos ho]
 simp only []
 rw [if_pos (by omega), Nat.add_sub_cancel_left]
 rfl
theorem kn_own0 {j : Nat} (ho : (r.ti j).on ≠ 2) : r.kn.ownerOf (knT (r.ti j)) = -1 := by
 unfold Kn.K.ownerOf knT
 rw [if_neg ho]
theorem kn_pass {j : Nat} {l : List Int} {b : Bool} (hj : j < r.tasks.length) : r.kn.pass (r.kn.tasks.drop j) j l b =
 if (r.ti j).state = 1 ∧ 0 ≤ r.kn.ownerOf (knT (r.ti j)) ∧ l.getD j 0 < l.getD (r.kn.ownerOf (knT (r.ti j))).toNat 0 then r.kn.pass (r.kn.tasks.drop (j + 1)) (j + 1) (l.set (r.kn.ownerOf (knT (r.ti j))).toNat (l.getD j 0)) true else r.kn.pass (r.kn.tasks.drop (j + 1)) (j + 1) l b := by
 rw [List.drop_eq_getElem_cons (by rw [kn_len]; exact hj), Kn.pass_cons, kn_at hj]
 rfl
theorem intAt {w : World} {B g n c : Nat} {l : List Int} (h : w.ownsRow B 3 1 (.slice (some ⟨g, 0, none⟩) n c) n (intV l)) {j : Nat} (hj : j < l.length) : w.cell? ⟨g, j, none⟩ = some (.int .i64 l[j]) := by
 have hl := h.1
 rw [intV_len] at hl
 rw [h.cellAt j (by omega)]
 simp [intV, hj]
theorem row_fo {w w' : World} {L L' : Ly} {B g n c : Nat} {e : TypeId} {size : Nat} {xs : List Value} (h : w.ownsRow B e size (.slice (some ⟨g, 0, none⟩) n c) n xs) (f : Fo w L g) (k : Kp w L w' L') : w'.ownsRow B e size (.slice (some ⟨g, 0, none⟩) n c) n xs :=
 row_same h fun b hb => by
  have e : g = b := by simpa [Value.ownBlock] using hb
  rw [← e]
  exact f.same k
/-- One task moved. -/
def K.move1 (last p : Int) (i : Nat) (r : K) : K :=
 if p = (r.ti i).prio then r
 else if (r.ti i).state ≠ 0 then r.setT i fun t => { t with prio := p }
 else if (i : Int) = last then ((r.leave i).setT i fun t => { t with prio := p }).setL p.toNat ((i : Int) :: ·)
 else ((r.leave i).setT i fun t => { t with prio := p }).setL p.toNat (· ++ [(i : Int)])
theorem moveAt_cons (last p : Int) (ps : List Int) (i : Nat) (r : K) : K.moveAt last (p :: ps) i r = K.moveAt last ps (i + 1) (r.move1 last p i) := rfl
theorem RF.move1 {last p : Int} {i : Nat} (h : RF r M) (hi : i < r.tasks.length) (hp : 0 ≤ p ∧ p < 32) : RF (r.move1 last p i) (M + 1) ∧ (r.move1 last p i).tasks.length = r.tasks.length ∧ (r.move1 last p i).ran = r.ran := by
 have h0 : RF ((r.leave i).setT i fun t => { t with prio := p }) M := h.leave.setT hi hp
 unfold K.move1
 by_cases c1 : p = (r.ti i).prio
 ·rw [if_pos c1]; exact ⟨h.more (Nat.le_succ _), rfl, rfl⟩
 rw [if_neg c1]
 by_cases c2 : (r.ti i).state ≠ 0
 ·rw [if_pos c2]; exact ⟨(h.setT hi hp).more (Nat.le_succ _), len_setT, rfl⟩
 rw [if_neg c2]
 by_cases c3 : (i : Int) = last
 ·rw [if_pos c3]
  refine ⟨h0.setL (Nat.le_succ _) ?_, len_setT, rfl⟩
  rw [List.length_cons]
  have := h0.len p.toNat
  omega
 ·rw [if_neg c3]; exact ⟨h0.push, len_setT, rfl⟩
end
end Rk
section
variable {w : World} {o : Oper} {a : Act}
theorem run_storeN {p : Addr} {x : Value} {n : Int} (hc : w.cell? p = some x) (hf : w.frozen? p = false) : (Instr.storeAt 3 (.pointer (some p)) (.int .i64 n)).run Try.prog w = .ok () (w.setCell p (.int .i64 n)) := by
 go_simp
theorem step_storeN {ops : Array Oper} {K : Act → World → Prop} {Q : Exit → Act → World → Prop} {E : Prop} (hgd : o.guard = none) (x y : Operand) (ho : o.op = .store 3 x y) {p : Addr} {z : Value} {n : Int} (hx : a.eval x = .pointer (some p)) (hy : a.eval y = .int .i64 n) (hc : w.cell? p = some z) (hf : w.frozen? p = false)
 (h : K (a.put o.dst undef) (w.setCell p (.int .i64 n))) : if Region.wanted o (yielded ops a.tmps) = true then Oper.wp Try.prog o a w K Q else E := by
 have hw : Region.wanted o (yielded ops a.tmps) = true := by simp [Region.wanted, hgd]
 rw [if_pos hw]
 have hr' : (execOp a.eval o).run Try.prog w = .ok .skip (w.setCell p (.int .i64 n)) := by
  unfold execOp
  simp only [ho, hx, hy]
  simp [run_storeN hc hf]
 unfold Oper.wp
 rw [hr']
 exact h
/-- One number, and a row behind it. -/
theorem run_frontI {g0 B : Nat} {V : Value} {xs : List Int} (n : Int) (hown : w.ownsRow g0 3 1 (.slice (some ⟨g0, 0, none⟩) 1 1) 1 (intV [n])) (h : w.ownsRow B 3 1 V xs.length (intV xs)) (hl : xs.length ≤ 1000000) (ty : TypeId) :
 ∃ g cap w', (Builtin.append_ #[24, 24] ty #[.slice (some ⟨g0, 0, none⟩) 1 1, V]).run Try.prog w = .ok (.slice (some ⟨g, 0, none⟩) (xs.length + 1) cap) w' ∧ w'.ownsRow g0 3 1 (.slice (some ⟨g, 0, none⟩) (xs.length + 1) cap) (xs.length + 1) (intV (n :: xs)) ∧ w.grownBy w' (some g0) := by
 obtain ⟨i3, hi3, hi30, hi31, hi32⟩ := info_parts info3
 rcases h.2 with ⟨rfl, h0⟩ | ⟨b, cap, cur, rfl, _, hb, _⟩
 ·have hx : xs = [] := List.eq_nil_of_length_eq_zero h0
  subst hx
  exact ⟨g0, 1, w, run_append_owned_none (P := Try.prog) (w := w) g0 24 ty 3 i3 1 Try.underlying24 hi3 _ 1 _ hown, hown, ⟨rfl, rfl, rfl, zl _, fun _ _ _ => rfl⟩⟩
 ·have hlt := (hown.lt g0 rfl).2
  have hnews : ∀ (j : Nat) (u : Value), (intV xs)[j]? = some u → w.cell? ((⟨b, 0, none⟩ : Addr).add j) = some u := h.cells rfl
  have h1 : ∀ u ∈ intV xs, u.oneCell' = true := by
   intro u hu
   obtain ⟨x, _, rfl⟩ := List.mem_map.1 hu
   rfl
  obtain ⟨v', w', hr, h2, h3, _, _⟩ := run_append_own_at (P := Try.prog) w g0 24 ty 3 i3 _ 1 8 Try.underlying24 hi3 hi30 hi31 hi32 rfl (by decide) (.slice (some ⟨g0, 0, none⟩) 1 1) 1 _ hown ⟨b, 0, none⟩ xs.length cap (intV xs) (by simp [intV]) hnews h1 (by unfold maxLen; omega) (by omega) (by omega)
  obtain ⟨g', c', e, _⟩ := h2.form (by omega)
  subst e
  refine ⟨g', c', w', ?_, ?_, h3⟩
  ·rw [Nat.add_comm xs.length 1]; exact hr
  ·rw [Nat.add_comm xs.length 1]; exact h2
theorem step_frontI {ops : Array Oper} {K : Act → World → Prop} {Q : Exit → Act → World → Prop} {E : Prop} (hgd : o.guard = none) (s x : Operand) (ho : o.op = .call { callee := .builtin .append, args := #[s, x], argTypes := #[24, 24] })
 {g0 B : Nat} {V : Value} {xs : List Int} (n : Int) (hs : a.eval s = .slice (some ⟨g0, 0, none⟩) 1 1) (hown : w.ownsRow g0 3 1 (.slice (some ⟨g0, 0, none⟩) 1 1) 1 (intV [n])) (hx : a.eval x = V) (h : w.ownsRow B 3 1 V xs.length (intV xs)) (hl : xs.length ≤ 1000000)
 (hK : ∀ g cap w', w'.ownsRow g0 3 1 (.slice (some ⟨g, 0, none⟩) (xs.length + 1) cap) (xs.length + 1) (intV (n :: xs)) → w.grownBy w' (some g0) → K (a.put o.dst (.slice (some ⟨g, 0, none⟩) (xs.length + 1) cap)) w') : if Region.wanted o (yielded ops a.tmps) = true then Oper.wp Try.prog o a w K Q else E := by
 have hw : Region.wanted o (yielded ops a.tmps) = true := by simp [Region.wanted, hgd]
 rw [if_pos hw]
 obtain ⟨g, cap, w', hrun, h1, h2⟩ := run_frontI n hown h hl o.type
 unfold Oper.wp execOp
 simp only [ho, resolve, invoke, builtin, Sem.run_bind, Sem.run_pure, Result.andThen_ok, List.map_toArray, List.map_cons, List.map_nil, hs, hx, hrun]
 exact hK g cap w' h1 h2
end
namespace Rk
theorem RM.fronted {wx wa w5 : World} {B : Nat} {r : K} {L : Ly} {p gg cap : Nat} {n : Int} (h : RM wx B r L) (hp : p < 32) (hb : Below wx.heap.size wx wa)
 (hown : w5.ownsRow wx.heap.size 3 1 (.slice (some ⟨gg, 0, none⟩) ((r.l p).length + 1) cap) ((r.l p).length + 1) (intV (n :: r.l p))) (hgrow : wa.grownBy w5 (some wx.heap.size)) :
 RM (w5.setCell ⟨L.b, 1 + p, none⟩ (.slice (some ⟨gg, 0, none⟩) ((r.l p).length + 1) cap)) B (r.setL p (n :: ·)) (L.set (.l p) (.slice (some ⟨gg, 0, none⟩) ((r.l p).length + 1) cap)) ∧
  Kp wx L (w5.setCell ⟨L.b, 1 + p, none⟩ (.slice (some ⟨gg, 0, none⟩) ((r.l p).length + 1) cap)) (L.set (.l p) (.slice (some ⟨gg, 0, none⟩) ((r.l p).length + 1) cap)) := by
 have hz := hb.size
 refine h.setRow (f := (n :: ·)) hp (row_mono hown (zt h.low (Nat.le_of_lt h.lt))) ⟨hgrow.os.trans hb.os, hgrow.tape.trans hb.tape, hgrow.output.trans hb.output, zt hz hgrow.size, fun b hbl _ => ?_⟩ (fun b hb => .inr (hown.lt b hb).1)
 exact (hgrow.block b (by omega) (by intro e; injection e with e; omega)).trans (hb.block b hbl)
set_option maxRecDepth 100000 in
set_option maxHeartbeats 16000000 in
theorem priorities_any {w : World} {B M : Nat} {r : K} {L : Ly} (h : RM w B r L) (hf : RF r M) (hM : M ≤ 900000) (hn : r.tasks.length ≤ 32) (hp : RP r) :
 Calls Try.prog 49 #[.pointer (some ⟨L.b, 0, none⟩)] w fun e w' => e = .returned (.tuple #[]) ∧ ∃ L', RM w' B r.priorities L' ∧ Kp w L w' L' := by
 obtain ⟨i3, hi3, hi30, hi31, hi32⟩ := info_parts info3
 obtain ⟨gt, ct, hta⟩ := h.ta hf.pos
 have hn0 := hf.pos
 have HTA := zh hta
 have HF := zh hf
 have HK := zh h
 have HP := zh hp
 have c0 := h.cTa
 rw [hta] at c0
 obtain ⟨wm, hmk, hown, hgrow⟩ := run_make_full (P := Try.prog) w w.heap.size 24 3 i3 _ 1 Try.underlying24 hi3 hi30 hi31 .i64 .i64 r.tasks.length (by rw [hi32]; omega) (by unfold maxLen; omega) (zl _)
 obtain ⟨gm, hgm⟩ : ∃ gm, gm = w.heap.size := ⟨_, rfl⟩
 obtain ⟨l0, hl0, hll0⟩ : ∃ l0 : List Int, (madeCells (Value.int .i64 0).cells (r.tasks.length * 1)).toList = intV l0 ∧ l0.length = r.tasks.length := by
  refine ⟨List.replicate r.tasks.length 0, ?_, by simp⟩
  rw [Nat.mul_one, show (Value.int .i64 0).cells = #[Value.int .i64 0] from rfl, toList_madeCells_one]
  simp [intV]
 have hgwm : gm ≤ w.heap.size := Nat.le_of_eq hgm
 rw [hl0, ← hgm] at hown
 rw [← hgm] at hmk
 have hbm : Below gm w wm := (zr gm w).grown hgrow hgwm (fun k hk => by cases hk)
 have HOW := zh hown
 have HBM := zh hbm
 have HGM := zh hgm
 clear h hf hta hp hown hgrow hbm hgm hl0 hgwm
 go_enter Try.func49, Try.ntmps49
 go_wp2_with fail
 clear hmk
 have hbz : ∀ {wr : World}, Below gm w wr → RM wr B r L := fun {wr} hb => HK.out.below (by rw [← HGM.out]; exact hb)
 have HBZ := zh (fun (wr : World) (hb : Below gm w wr) => hbz hb)
 clear hbz
 go_loopg [3] r.tasks.length (fun kk iv wr => ∃ (j : Nat) (ls : List Int), j ≤ r.tasks.length ∧ iv = .int .i64 j ∧ ls.length = r.tasks.length ∧ (∀ q, q < j → ls[q]? = some (r.ti q).base) ∧ wr.ownsRow gm 3 1 (.slice (some ⟨gm, 0, none⟩) r.tasks.length r.tasks.length) r.tasks.length (intV ls) ∧ Below gm w wr ∧ r.tasks.length - j ≤ kk)
 case atStart => exact ⟨0, l0, Nat.zero_le _, rfl, hll0, (fun q hq => absurd hq (Nat.not_lt_zero _)), HOW.out, HBM.out, by omega⟩
 case round =>
  obtain ⟨j, ls, hj, rfl, hls, hq, own, hb, hkk⟩ := hrel
  have HB := zh hb
  have HOR := zh own
  have HQ := zh hq
  have HKr := zh (HBZ.out _ hb)
  have c0 := HKr.out.cTa
  rw [HTA.out] at c0
  clear hb own hq
  by_cases hlt : j < r.tasks.length
  ·have hlt' : (j : Int) < r.tasks.length := by omega
   have hj0 : (0 : Int) ≤ j := by omega
   have t0 : wr.cell? ⟨gt, j * 13, none⟩ = some (.int .i64 (r.ti j).base) := HKr.out.cTask HTA.out hlt (j := 0) (by decide)
   have m0 := intAt HOR.out (j := j) (by omega)
   have mf := HOR.out.frozenAt j
   obtain ⟨o1, o2⟩ := HOR.out.stored j (.int .i64 (r.ti j).base)
   rw [← intV_set] at o1
   have HN : Hid (∀ q, q < j + 1 → (ls.set j (r.ti j).base)[q]? = some (r.ti q).base) := fun q hq => by
    by_cases e : q = j
    ·rw [e, List.getElem?_set_self (by omega)]
    ·rw [List.getElem?_set_ne (Ne.symm e)]
     exact HQ.out q (by omega)
   have O1 := zh o1
   have HB2 := zh (HB.out.setCell (p := ⟨gm, j, none⟩) (zl _) (.int .i64 (r.ti j).base))
   have hls2 : (ls.set j (r.ti j).base).length = r.tasks.length := by rw [List.length_set]; exact hls
   clear o1 o2
   generalize (r.ti j).base = bs at *
   generalize ls[j]'(by omega) = lj at *
   go_wp2_with fail
   go_roundg (r.tasks.length - (j + 1))
   case measure => omega
   case rel => exact ⟨j + 1, _, by omega, by go_num, hls2, HN.out, O1.out, HB2.out, zl _⟩
  ·have hge : ¬ (j : Int) < r.tasks.length := by omega
   have hjl : j = r.tasks.length := by omega
   subst hjl
   have hbs := kn_bases hls HQ.out
   have HI : Hid (r.kn.priorities = r.kn.prios (32 * r.tasks.length + 1) ls) := by
    show r.kn.prios _ _ = _
    rw [hbs, kn_len]
   have hPL : Kn.PL r.tasks.length ls := ⟨hls, fun z hz => by
    obtain ⟨q, hq, rfl⟩ := List.mem_iff_getElem.1 hz
    have h1 := HQ.out q (by omega)
    rw [List.getElem?_eq_getElem hq] at h1
    injection h1 with h1
    rw [h1]
    exact HP.out.base q (by omega)⟩
   have hsum := Kn.sum_le ls hPL.2
   have S0 : Hid (∃ l f, Kn.PL r.tasks.length l ∧ wr.ownsRow gm 3 1 (.slice (some ⟨gm, 0, none⟩) r.tasks.length r.tasks.length) r.tasks.length (intV l) ∧ r.kn.priorities = r.kn.prios f l ∧ Kn.sum l < f ∧ f ≤ 32 * r.tasks.length + 1) := ⟨ls, _, hPL, HOR.out, HI.out, by rw [hls] at hsum; omega, zl _⟩
   clear hPL hsum HI hbs HQ HOR
   go_wp2_with fail
   go_loopg [4] (32 * r.tasks.length + 2) (fun kk av wx => ∃ (l : List Int) (f : Nat) (b : Bool), av = .bool b ∧ Kn.PL r.tasks.length l ∧ wx.ownsRow gm 3 1 (.slice (some ⟨gm, 0, none⟩) r.tasks.length r.tasks.length) r.tasks.length (intV l) ∧ (b = true → r.kn.priorities = r.kn.prios f l ∧ Kn.sum l < f) ∧ (b = false → r.kn.priorities = l) ∧ Below gm w wx ∧ (if b then f + 1 else 0) ≤ kk)
   case atStart =>
    obtain ⟨l, f, q1, q2, q3, q4, q5⟩ := S0.out
    exact ⟨l, f, true, rfl, q1, q2, fun _ => ⟨q3, q4⟩, (fun e => by cases e), HB.out, by rw [if_pos rfl]; omega⟩
   case round =>
    obtain ⟨l, f, b, rfl, hPL, hLI, hbt, hbf, hbx, hkx⟩ := hrel
    have hPl := zh hPL
    have hLi := zh hLI
    have HBX := zh hbx
    clear hPL hLI hbx S0 HB HKr c0
    rcases b with _ | _
    ·have E := zh (hbf rfl)
     clear hbt hbf
     obtain ⟨wx, rfl⟩ : ∃ wx : World, wx = wr := ⟨_, rfl⟩
     have HEP : Hid (r.priorities = K.moveAt r.ran l 0 r) := by
      show K.moveAt r.ran r.kn.priorities 0 r = _
      rw [E.out]
     have HKX := zh (HBZ.out _ HBX.out)
     have HFO : Hid (Fo wx L gm) := ⟨(hLi.out.lt gm rfl).2, fun e => by have := HK.out.lt; have := HGM.out; omega, fun p hp => by have := (HK.out.rowLt hp).2; have := HGM.out; omega⟩
     have HPX : Hid (Kp w L wx L) := Kp.of_below (by rw [← HGM.out]; exact HBX.out)
     clear E HBX
     go_wp2_with fail
     go_loopg [8] r.tasks.length (fun k4 iv wz => ∃ (j : Nat) (r' : K) (L' : Ly), j ≤ r.tasks.length ∧ iv = .int .i64 j ∧ r.priorities = K.moveAt r.ran (l.drop j) j r' ∧ RF r' (M + j) ∧ r'.tasks.length = r.tasks.length ∧ r'.ran = r.ran ∧ RM wz B r' L' ∧ Kp w L wz L' ∧ wz.ownsRow gm 3 1 (.slice (some ⟨gm, 0, none⟩) r.tasks.length r.tasks.length) r.tasks.length (intV l) ∧ Fo wz L' gm ∧ r.tasks.length - j ≤ k4)
     case atStart => exact ⟨0, r, L, Nat.zero_le _, rfl, HEP.out, HF.out.more (by omega), rfl, rfl, HKX.out, HPX.out, hLi.out, HFO.out, by omega⟩
     case round =>
      obtain ⟨j, r', L', hj, rfl, he, hrf, hlr, hran, hk, hpk, how, hfo, hkk⟩ := hrel
      obtain ⟨wz, rfl⟩ : ∃ wz : World, wz = wr := ⟨_, rfl⟩
      have HE := zh he
      have HRF := zh hrf
      have HKz := zh hk
      have HPz := zh hpk
      have HOz := zh how
      have HFz := zh hfo
      have hll := hPl.out.1
      clear he hrf hk hpk how hfo HEP HKX HPX HFO hLi
      have eb := HPz.out.b
      have ebT : L'.V .ta = .slice (some ⟨gt, 0, none⟩) r.tasks.length ct := (HPz.out.fix .ta (by simp) (by simp)).trans HTA.out
      have c0 : wz.cell? ⟨L.b, 0, none⟩ = some (.slice (some ⟨gt, 0, none⟩) r.tasks.length ct) := by
       have q := HKz.out.cTa
       rw [ebT, eb] at q
       exact q
      by_cases hlt : j < r.tasks.length
      ·have hlt' : (j : Int) < r.tasks.length := by omega
       have hj0 : (0 : Int) ≤ j := by omega
       have hjr : j < r'.tasks.length := by omega
       have hpb := hPl.out.2 (l[j]'(by omega)) (List.getElem_mem (by omega))
       obtain ⟨p, hp⟩ := Int.eq_ofNat_of_zero_le hpb.1
       have hp32 : p < 32 := by omega
       have ip : (p : Int) < 32 := by omega
       have ip0 : (0 : Int) ≤ p := by omega
       have HD : Hid (l.drop j = (p : Int) :: l.drop (j + 1)) := by
        show _ = _
        rw [List.drop_eq_getElem_cons (by omega), hp]
       have mj := intAt HOz.out (j := j) (by omega)
       rw [hp] at mj
       have ebT' : L'.V .ta = .slice (some ⟨gt, 0, none⟩) r'.tasks.length ct := by rw [hlr]; exact ebT
       have t1 : wz.cell? ⟨gt, j * 13 + 1, none⟩ = some (.int .i64 (r'.ti j).prio) := HKz.out.cTask ebT' hjr (j := 1) (by decide)
       have t5 : wz.cell? ⟨gt, j * 13 + 5, none⟩ = some (.int .i64 (r'.ti j).state) := HKz.out.cTask ebT' hjr (j := 5) (by decide)
       have s1 := HKz.out.rowFree ebT' (j * 13 + 1)
       have HN : Hid (∀ r2, r'.move1 r.ran p j = r2 → r.priorities = K.moveAt r.ran (l.drop (j + 1)) (j + 1) r2) := fun r2 e => by
        rw [HE.out, HD.out, moveAt_cons, e]
       obtain ⟨m1, m2, m3⟩ := HRF.out.move1 (last := r.ran) (p := (p : Int)) hjr ⟨ip0, ip⟩
       have HM1 := zh m1
       rw [hlr] at m2
       rw [hran] at m3
       have HM2 := zh m2
       have HM3 := zh m3
       have HPJ := zh hp
       clear hp hpb HE HD m1 m2 m3
       by_cases hc1 : (p : Int) = (r'.ti j).prio
       ·have HNN : Hid (r'.move1 r.ran p j = r') := if_pos hc1
        have hcb : ((p : Int) == (r'.ti j).prio) = true := by simp [hc1]
        rw [← hc1] at t1 hcb
        clear hc1 t5
        go_wp2_with fail
        refine zy ?_
        repeat go_big_quiet_step (fail)
        refine wpQuiet_nil ?_
        intro _ hw'
        obtain ⟨nq, hw2⟩ := hw'
        subst hw2
        go_wp2_with fail
        go_roundg (r.tasks.length - (j + 1))
        case measure => omega
        case rel => exact ⟨j + 1, r', L', by omega, by go_num, HN.out _ HNN.out, HRF.out.more (by omega), hlr, hran, HKz.out.below ((zr _ _).drewN' _), HPz.out.drewN _, HOz.out, ⟨HFz.out.lt, HFz.out.b, HFz.out.V⟩, zl _⟩
       ·have hcb : ((p : Int) == (r'.ti j).prio) = false := by simp [hc1]
        go_wp2_with fail
        refine zy ?_
        repeat go_big_quiet_step (fail)
        refine wpQuiet_nil ?_
        intro _ hw'
        obtain ⟨nq, hw2⟩ := hw'
        subst hw2
        have HKv : Hid (RM (wz.drewN nq) B r' L') := HKz.out.below ((zr _ _).drewN' _)
        have HPv : Hid (Kp w L (wz.drewN nq) L') := HPz.out.drewN _
        have HOv : Hid ((wz.drewN nq).ownsRow gm 3 1 (.slice (some ⟨gm, 0, none⟩) r.tasks.length r.tasks.length) r.tasks.length (intV l)) := HOz.out
        have HFv : Hid (Fo (wz.drewN nq) L' gm) := ⟨HFz.out.lt, HFz.out.b, HFz.out.V⟩
        replace t1 : (wz.drewN nq).cell? ⟨gt, j * 13 + 1, none⟩ = some (.int .i64 (r'.ti j).prio) := t1
        replace t5 : (wz.drewN nq).cell? ⟨gt, j * 13 + 5, none⟩ = some (.int .i64 (r'.ti j).state) := t5
        replace c0 : (wz.drewN nq).cell? ⟨L.b, 0, none⟩ = some (.slice (some ⟨gt, 0, none⟩) r.tasks.length ct) := c0
        replace mj : (wz.drewN nq).cell? ⟨gm, j, none⟩ = some (.int .i64 (p : Int)) := mj
        replace s1 : (wz.drewN nq).frozen? ⟨gt, j * 13 + 1, none⟩ = false := s1
        clear HKz HPz HOz HFz
        generalize wz.drewN nq = wv at *
        by_cases hc2 : (r'.ti j).state = 0
        ·have HLV := zh (leave_any HKv.out hjr HRF.out.tasks (HRF.out.prio j hjr) (zt (HRF.out.len _) (by omega)))
         rw [eb] at HLV
         have HMV : Hid (r'.move1 r.ran p j = if (j : Int) = r.ran then ((r'.leave j).setT j fun t => { t with prio := (p : Int) }).setL p ((j : Int) :: ·) else ((r'.leave j).setT j fun t => { t with prio := (p : Int) }).setL p (· ++ [(j : Int)])) := by
          show (if _ then _ else _) = _
          rw [if_neg hc1, if_neg (fun q => q hc2)]
          rfl
         have HRL : Hid (RF ((r'.leave j).setT j fun t => { t with prio := (p : Int) }) (M + j)) := HRF.out.leave.setT hjr ⟨ip0, ip⟩
         rw [hc2] at t5
         have hq1 : ∃ q1, (r'.ti j).prio = q1 := ⟨_, rfl⟩
         obtain ⟨q1, hq1⟩ := hq1
         clear hc2 hc1
         rw [hq1] at hcb t1
         go_wp2_with fail
         refine HLV.out.mono ?_
         rintro e w1 ⟨rfl, L1, k1, p1⟩
         have HPP := zh (HPv.out.trans p1)
         have hOg := HFv.out.same p1
         have HO1 : Hid (w1.ownsRow gm 3 1 (.slice (some ⟨gm, 0, none⟩) r.tasks.length r.tasks.length) r.tasks.length (intV l)) := row_same HOv.out (fun k hk => by
          have e : gm = k := by simpa [Value.ownBlock] using hk
          rw [← e]
          exact hOg)
         have HF1 := zh (HFv.out.kp p1)
         have HK1 := zh k1
         clear k1 p1 hOg c0 mj s1 t1 t5 HLV HKv HOv HFv HPv eb ebT ebT'
         have eb := HPP.out.b
         have ebT : L1.V .ta = .slice (some ⟨gt, 0, none⟩) r.tasks.length ct := (HPP.out.fix .ta (by simp) (by simp)).trans HTA.out
         have c0 : w1.cell? ⟨L.b, 0, none⟩ = some (.slice (some ⟨gt, 0, none⟩) r.tasks.length ct) := by
          have q := HK1.out.cTa
          rw [ebT, eb] at q
          exact q
         have mj := intAt HO1.out (j := j) (by omega)
         have mje := HPJ.out
         rw [mje] at mj
         have hlen1 : (r'.leave j).tasks.length = r.tasks.length := hlr
         have ebT' : L1.V .ta = .slice (some ⟨gt, 0, none⟩) (r'.leave j).tasks.length ct := by rw [hlen1]; exact ebT
         have t1 : w1.cell? ⟨gt, j * 13 + 1, none⟩ = some (.int .i64 q1) := by
          rw [← hq1]
          exact HK1.out.cTask ebT' hjr (j := 1) (by decide)
         have s1 := HK1.out.rowFree ebT' (j * 13 + 1)
         have kd : RM w1.drew B (r'.leave j) L1 := HK1.out.below ((zr _ _).drew)
         have k2 := kd.task (i := j) (f := fun t => { t with prio := (p : Int) }) (u := .int .i64 (p : Int)) ebT' hjr (j := 1) (by decide) rfl rfl rfl
         have p2 : Kp w1 L1 _ L1 := (Kp.of_below ((zr _ _).drew)).trans (Kp.task (w := w1.drew) (i := j) (j := 1) (u := .int .i64 (p : Int)) ebT')
         have HP2 := zh (HPP.out.trans p2)
         have HO2 : Hid ((w1.drew.setCell ⟨gt, j * 13 + 1, none⟩ (.int .i64 (p : Int))).ownsRow gm 3 1 (.slice (some ⟨gm, 0, none⟩) r.tasks.length r.tasks.length) r.tasks.length (intV l)) := ownsRow_setCell_other (w := w1.drew) HO1.out (a := ⟨gt, j * 13 + 1, none⟩) (fun e => by
          have e2 : gm = gt := by simpa [Value.ownBlock] using e
          exact HF1.out.V .ta (by rw [ebT', e2]; rfl)) _
         have HF2 := zh (HF1.out.kp p2)
         have HK2 := zh k2
         have hq40 := k2.cRan
         have crn : (w1.drew.setCell ⟨gt, j * 13 + 1, none⟩ (.int .i64 (p : Int))).cell? ⟨L.b, 40, none⟩ = some (.int .i64 r.ran) := by
          rw [← eb, hq40, ← hran]
          rfl
         clear k2 p2 kd hq1 hq40
         have hlen3 : ((r'.leave j).setT j fun t => { t with prio := (p : Int) }).tasks.length = r.tasks.length := by rw [len_setT]; exact hlen1
         generalize hr3 : ((r'.leave j).setT j fun t => { t with prio := (p : Int) }) = r3 at *
         clear hr3
         go_upto_region 24 with fail
         refine wp_region_need (S := fun w' => w'.cell? (⟨L.b, 0, none⟩) = some (.slice (some ⟨gt, 0, none⟩) r.tasks.length ct) ∧ w'.cell? (⟨gm, j, none⟩) = some (.int .i64 (p : Int))) (need := fun i => i != 11) 12 (bs 12 0) (by kernel_rfl) (by kernel_rfl) (by kernel_rfl) ?_ (fun hHeld => ?_)
         ·(try dsimp only)
          exact ⟨c0, mj⟩
         refine tk 0 (bs 12 1) (v := ?_) ?_ ?_; rotate_left 2
         refine tk 1 (bs 12 3) (v := ?_) ?_ ?_; rotate_left 2
         refine tk 2 (bs 12 7) (v := ?_) ?_ ?_; rotate_left 2
         refine tk 3 (bs 12 15) (v := ?_) ?_ ?_; rotate_left 2
         refine tk 4 (bs 12 31) (v := ?_) ?_ ?_; rotate_left 2
         refine tk 5 (bs 12 63) (v := ?_) ?_ ?_; rotate_left 2
         refine tk 6 (bs 12 127) (v := ?_) ?_ ?_; rotate_left 2
         refine tk 7 (bs 12 255) (v := ?_) ?_ ?_; rotate_left 2
         refine tk 8 (bs 12 511) (v := ?_) ?_ ?_; rotate_left 2
         refine tk 9 (bs 12 1023) (v := ?_) ?_ ?_; rotate_left 2
         refine tk 10 (bs 12 2047) (v := ?_) ?_ ?_; rotate_left 2
         rotate_left
         iterate 11 (rotate_left; focus (intro w hSw; (try dsimp only at hSw); obtain ⟨hS0', hS1'⟩ := hSw; go_simp; with_reducible rfl))
         try simp only [Act.put, p1, p2, p3, p4, p5, p6]
         refine wpAnyN_step (i := 11) (listed' := (bs 12 4095)) (by kernel_rfl) rfl (by kernel_rfl) (fun K hK => ?_)
         refine step_storeN rfl _ _ (by rfl) (by rfl) (by rfl) (z := .int .i64 q1) t1 s1 ?_
         refine hK.out _ _ ?_ (fun hHeld => ?_)
         ·exact fun h => absurd h (by decide)
         clear hK K
         try simp only [Act.put, p1, p2, p3]
         refine wpAnyN_done (by kernel_rfl) ?_ _
         clear hHeld c0 t1 s1 mj HK1 HPP HO1 HF1
         generalize w1.drew.setCell ⟨gt, j * 13 + 1, none⟩ (.int .i64 (p : Int)) = w2 at *
         obtain ⟨AV, cV, eV, -, -⟩ := HK2.out.slice (.l p)
         replace eV : L1.V (.l p) = .slice AV (r3.l p).length cV := eV
         have EV := zh eV
         have hxl : (r3.l p).length ≤ 1000000 := zt (HRL.out.len p) (by omega)
         have HR : Hid (w2.ownsRow B 3 1 (.slice AV (r3.l p).length cV) (r3.l p).length (intV (r3.l p))) := by
          show w2.ownsRow B 3 1 _ _ _
          rw [← eV]
          exact HK2.out.row (.l p)
         have xv : w2.cell? ⟨L.b, 1 + p, none⟩ = some (.slice AV (r3.l p).length cV) := by
          rw [← eV, ← eb]
          exact HK2.out.cRow hp32
         have xf : w2.frozen? ⟨L.b, 1 + p, none⟩ = false := by
          rw [← eb]
          exact HK2.out.free (1 + p)
         have hgml : gm < w2.heap.size := HF2.out.lt
         have hLbl : L.b < w2.heap.size := by
          rw [← eb]
          exact HK2.out.lt
         have hBw : B ≤ w2.heap.size := zt HK2.out.low (by rw [eb]; exact Nat.le_of_lt hLbl)
         have hne0 : some gm ≠ (Value.slice AV (r3.l p).length cV).ownBlock := fun e => HF2.out.V (.l p) (by rw [eV]; exact e.symm)
         have hne1 : some L.b ≠ (Value.slice AV (r3.l p).length cV).ownBlock := fun e => HK2.out.ne (.l p) (by rw [eV, eb]; exact e.symm)
         have mj2 := intAt HO2.out (j := j) (by omega)
         rw [mje] at mj2
         have EB := zh eb
         clear eb ebT ebT' eV
         by_cases hcr : (j : Int) = r.ran
         ·have hrb : ((j : Int) == r.ran) = true := by simp [hcr]
          rw [if_pos hcr] at HMV
          rw [← hcr] at crn hrb
          clear hcr
          go_upto_region 26 with fail
          have hl0 : Addr.block (⟨gm, j, none⟩) < w2.heap.size := hgml
          have hl1 : Addr.block (⟨L.b, 1 + p, none⟩) < w2.heap.size := hLbl
          have hn0 : some gm ≠ some w2.heap.size := fun e => by injection e with e; omega
          have hn1 : some L.b ≠ some w2.heap.size := fun e => by injection e with e; omega
          refine wp_region_need (S := fun w' => w'.cell? (⟨gm, j, none⟩) = some (.int .i64 (p : Int)) ∧ w'.cell? (⟨L.b, 1 + p, none⟩) = some ((.slice AV (r3.l p).length cV))) (need := fun i => i != 20) 21 (bs 21 0) (by kernel_rfl) (by kernel_rfl) (by kernel_rfl) ?_ (fun hHeld => ?_)
          ·(try dsimp only)
           exact ⟨mj2, xv⟩
          refine tk 0 (bs 21 1) (v := ?_) ?_ ?_; rotate_left 2
          refine tk 1 (bs 21 3) (v := ?_) ?_ ?_; rotate_left 2
          refine tk 2 (bs 21 7) (v := ?_) ?_ ?_; rotate_left 2
          refine tk 3 (bs 21 15) (v := ?_) ?_ ?_; rotate_left 2
          refine tk 4 (bs 21 31) (v := ?_) ?_ ?_; rotate_left 2
          refine tk 5 (bs 21 63) (v := ?_) ?_ ?_; rotate_left 2
          refine tk 7 (bs 21 191) (v := ?_) ?_ ?_; rotate_left 2
          refine tk 8 (bs 21 447) (v := ?_) ?_ ?_; rotate_left 2
          refine tk 9 (bs 21 959) (v := ?_) ?_ ?_; rotate_left 2
          refine tk 10 (bs 21 1983) (v := ?_) ?_ ?_; rotate_left 2
          refine tk 11 (bs 21 4031) (v := ?_) ?_ ?_; rotate_left 2
          refine tk 12 (bs 21 8127) (v := ?_) ?_ ?_; rotate_left 2
          refine tk 13 (bs 21 16319) (v := ?_) ?_ ?_; rotate_left 2
          refine tk 14 (bs 21 32703) (v := ?_) ?_ ?_; rotate_left 2
          refine tk 15 (bs 21 65471) (v := ?_) ?_ ?_; rotate_left 2
          refine tk 17 (bs 21 196543) (v := ?_) ?_ ?_; rotate_left 2
          refine tk 18 (bs 21 458687) (v := ?_) ?_ ?_; rotate_left 2
          rotate_left
          iterate 17 (rotate_left; focus (intro w hSw; (try dsimp only at hSw); obtain ⟨hS0', hS1'⟩ := hSw; go_simp; with_reducible rfl))
          try simp only [Act.put, p1, p2, p3, p4, p5, p6]
          refine wpAnyN_step (i := 6) (listed' := (bs 21 458751)) (by kernel_rfl) rfl (by kernel_rfl) (fun K hK => ?_)
          refine step_bsI rfl _ (by rfl) (j : Int) (by rfl) ?_
          refine hK.out _ _ ?_ (fun hHeld => ?_)
          ·(try dsimp only)
           exact fun _ => ⟨(zw _ _ _ hl0).trans hHeld.1, (zw _ _ _ hl1).trans hHeld.2⟩
          clear hK K
          replace hHeld := hHeld rfl
          try simp only [Act.put, p1, p2, p3, p4, p5, p6]
          refine wpAnyN_step (i := 16) (listed' := (bs 21 524287)) (by kernel_rfl) rfl (by kernel_rfl) (fun K hK => ?_)
          refine step_frontI rfl _ _ (by rfl) (g0 := w2.heap.size) (B := B) (V := (.slice AV (r3.l p).length cV)) (xs := r3.l p) (j : Int) (by rfl) (World.ownsRow_lit w2.drew #[.int .i64 (j : Int)] 1 (zl _) (by unfold maxLen; omega) rfl) (by rfl) (HR.out.alloc _) hxl ?_
          intro gg cap w5 hown hgrow
          have z0 := (hgrow.cell_far (⟨L.b, 1 + p, none⟩) (lt_al hl1 _) hn1).trans hHeld.2
          have zf := (hgrow.frozen_far (⟨L.b, 1 + p, none⟩) (lt_al hl1 _) hn1).trans ((zx (zo _ _ _ hl1)).trans xf)
          have HO := zh hown
          have HG := zh hgrow
          clear hown
          refine hK.out _ _ ?_ (fun hHeld => ?_)
          ·(try dsimp only)
           exact fun _ => ⟨(hgrow.cell_far (⟨gm, j, none⟩) (lt_al hl0 _) hn0).trans hHeld.1, (hgrow.cell_far (⟨L.b, 1 + p, none⟩) (lt_al hl1 _) hn1).trans hHeld.2⟩
          clear hK K
          replace hHeld := hHeld rfl
          try simp only [Act.put, p1, p2, p3, p4, p5, p6]
          refine tk 19 (bs 21 1048575) (v := ?_) ?_ ?_; rotate_left 2
          rotate_left
          iterate 1 (rotate_left; focus (intro w hSw; (try dsimp only at hSw); obtain ⟨hS0', hS1'⟩ := hSw; go_simp; with_reducible rfl))
          try simp only [Act.put, p1, p2, p3, p4, p5, p6]
          refine wpAnyN_step (i := 20) (listed' := (bs 21 2097151)) (by kernel_rfl) rfl (by kernel_rfl) (fun K hK => ?_)
          refine step_storeI rfl _ _ (by rfl) (by rfl) (by rfl) z0 zf ?_
          refine hK.out _ _ ?_ (fun hHeld => ?_)
          ·exact fun h => absurd h (by decide)
          clear hK K
          try simp only [Act.put, p1, p2, p3]
          refine wpAnyN_done (by kernel_rfl) ?_ _
          obtain ⟨a1, a2⟩ := HK2.out.fronted (n := (j : Int)) hp32 (wa := w2.drew.alloc (.cells #[.int .i64 (j : Int)] 3)) (((zr _ _).drew).alloc (zl _) _) HO.out HG.out
          rw [EB.out] at a1 a2
          have HO4 := zh (row_fo HO2.out HF2.out a2)
          have HF4 := zh (HF2.out.kp a2)
          have HP4 := zh (HP2.out.trans a2)
          rw [← HMV.out] at a1
          have HK4 := zh a1
          clear a1 a2 hgrow
          go_wp2_with fail
          go_roundg (r.tasks.length - (j + 1))
          case measure => omega
          case rel => exact ⟨j + 1, _, _, by omega, by go_num, HN.out _ rfl, HM1.out, HM2.out, HM3.out, HK4.out, HP4.out, HO4.out, HF4.out, zl _⟩
         ·have hrb : ((j : Int) == r.ran) = false := by simp [hcr]
          rw [if_neg hcr] at HMV
          go_upto_region 27 with fail
          have hl0 : Addr.block (⟨gm, j, none⟩) < w2.heap.size := hgml
          have hl1 : Addr.block (⟨L.b, 1 + p, none⟩) < w2.heap.size := hLbl
          refine wp_region_need (S := fun w' => w'.cell? (⟨gm, j, none⟩) = some (.int .i64 (p : Int)) ∧ w'.cell? (⟨L.b, 1 + p, none⟩) = some ((.slice AV (r3.l p).length cV))) (need := fun i => i != 20) 21 (bs 21 0) (by kernel_rfl) (by kernel_rfl) (by kernel_rfl) ?_ (fun hHeld => ?_)
          ·(try dsimp only)
           exact ⟨mj2, xv⟩
          refine tk 0 (bs 21 1) (v := ?_) ?_ ?_; rotate_left 2
          refine tk 1 (bs 21 3) (v := ?_) ?_ ?_; rotate_left 2
          refine tk 2 (bs 21 7) (v := ?_) ?_ ?_; rotate_left 2
          refine tk 3 (bs 21 15) (v := ?_) ?_ ?_; rotate_left 2
          refine tk 4 (bs 21 31) (v := ?_) ?_ ?_; rotate_left 2
          refine tk 5 (bs 21 63) (v := ?_) ?_ ?_; rotate_left 2
          refine tk 6 (bs 21 127) (v := ?_) ?_ ?_; rotate_left 2
          refine tk 7 (bs 21 255) (v := ?_) ?_ ?_; rotate_left 2
          refine tk 8 (bs 21 511) (v := ?_) ?_ ?_; rotate_left 2
          refine tk 9 (bs 21 1023) (v := ?_) ?_ ?_; rotate_left 2
          refine tk 10 (bs 21 2047) (v := ?_) ?_ ?_; rotate_left 2
          refine tk 11 (bs 21 4095) (v := ?_) ?_ ?_; rotate_left 2
          refine tk 12 (bs 21 8191) (v := ?_) ?_ ?_; rotate_left 2
          refine tk 13 (bs 21 16383) (v := ?_) ?_ ?_; rotate_left 2
          refine tk 14 (bs 21 32767) (v := ?_) ?_ ?_; rotate_left 2
          refine tk 17 (bs 21 163839) (v := ?_) ?_ ?_; rotate_left 2
          refine tk 18 (bs 21 425983) (v := ?_) ?_ ?_; rotate_left 2
          rotate_left
          iterate 17 (rotate_left; focus (intro w hSw; (try dsimp only at hSw); obtain ⟨hS0', hS1'⟩ := hSw; go_simp; with_reducible rfl))
          try simp only [Act.put, p1, p2, p3, p4, p5, p6]
          refine wpAnyN_step (i := 15) (listed' := (bs 21 458751)) (by kernel_rfl) rfl (by kernel_rfl) (fun K hK => ?_)
          refine step_bsI rfl _ (by rfl) ((j : Int)) (by rfl) ?_
          refine hK.out _ _ ?_ (fun hHeld => ?_)
          ·(try dsimp only)
           exact fun _ => ⟨(zw _ _ _ hl0).trans hHeld.1, (zw _ _ _ hl1).trans hHeld.2⟩
          clear hK K
          replace hHeld := hHeld rfl
          try simp only [Act.put, p1, p2, p3, p4, p5, p6]
          refine wpAnyN_step (i := 16) (listed' := (bs 21 524287)) (by kernel_rfl) rfl (by kernel_rfl) (fun K hK => ?_)
          refine step_appI rfl _ _ (by rfl) B (.slice AV (r3.l p).length cV) (r3.l p) (by rfl) (HR.out.alloc _) ((j : Int)) ⟨w2.heap.size, 0, none⟩ 1 (by rfl) (by exact (zm w2 3 #[.int .i64 ((j : Int))]).cell 0) hxl (by rw [World.size_alloc]; exact Nat.le_succ_of_le hBw) ?_
          intro gg cap w5 hown hgrow hor
          have hVlt := HR.out.lt
          have z0 := (hgrow.cell_far (⟨L.b, 1 + p, none⟩) (lt_al hl1 _) hne1).trans hHeld.2
          have zf := (hgrow.frozen_far (⟨L.b, 1 + p, none⟩) (lt_al hl1 _) hne1).trans ((zx (zo _ _ _ hl1)).trans xf)
          have HO := zh hown
          have HG := zh hgrow
          have HOR := zh hor
          clear hown hor
          refine hK.out _ _ ?_ (fun hHeld => ?_)
          ·(try dsimp only)
           exact fun _ => ⟨(hgrow.cell_far (⟨gm, j, none⟩) (lt_al hl0 _) hne0).trans hHeld.1, (hgrow.cell_far (⟨L.b, 1 + p, none⟩) (lt_al hl1 _) hne1).trans hHeld.2⟩
          clear hK K
          replace hHeld := hHeld rfl
          try simp only [Act.put, p1, p2, p3, p4, p5, p6]
          refine tk 19 (bs 21 1048575) (v := ?_) ?_ ?_; rotate_left 2
          rotate_left
          iterate 1 (rotate_left; focus (intro w hSw; (try dsimp only at hSw); obtain ⟨hS0', hS1'⟩ := hSw; go_simp; with_reducible rfl))
          try simp only [Act.put, p1, p2, p3, p4, p5, p6]
          refine wpAnyN_step (i := 20) (listed' := (bs 21 2097151)) (by kernel_rfl) rfl (by kernel_rfl) (fun K hK => ?_)
          refine step_storeI rfl _ _ (by rfl) (by rfl) (by rfl) z0 zf ?_
          refine hK.out _ _ ?_ (fun hHeld => ?_)
          ·exact fun h => absurd h (by decide)
          clear hK K
          try simp only [Act.put, p1, p2, p3]
          refine wpAnyN_done (by kernel_rfl) ?_ _
          obtain ⟨a1, a2⟩ := HK2.out.pushed (n := (j : Int)) hp32 (gg := gg) (cap := cap) (w5 := w5) HO.out (by rw [EV.out]; exact grown_drew HG.out) (by rw [EV.out]; exact HOR.out)
          rw [EB.out] at a1 a2
          have HO4 := zh (row_fo HO2.out HF2.out a2)
          have HF4 := zh (HF2.out.kp a2)
          have HP4 := zh (HP2.out.trans a2)
          rw [← HMV.out] at a1
          have HK4 := zh a1
          clear a1 a2 hgrow
          go_wp2_with fail
          go_roundg (r.tasks.length - (j + 1))
          case measure => omega
          case rel => exact ⟨j + 1, _, _, by omega, by go_num, HN.out _ rfl, HM1.out, HM2.out, HM3.out, HK4.out, HP4.out, HO4.out, HF4.out, zl _⟩
        ·have HMV : Hid (r'.move1 r.ran p j = r'.setT j fun t => { t with prio := (p : Int) }) := by
          show (if _ then _ else _) = _
          rw [if_neg hc1, if_pos hc2]
         have kd : RM wv.drew B r' L' := HKv.out.below ((zr _ _).drew)
         have k2 := kd.task (i := j) (f := fun t => { t with prio := (p : Int) }) (u := .int .i64 (p : Int)) ebT' hjr (j := 1) (by decide) rfl rfl rfl
         have p2 : Kp wv L' _ L' := (Kp.of_below ((zr _ _).drew)).trans (Kp.task (w := wv.drew) (i := j) (j := 1) (u := .int .i64 (p : Int)) ebT')
         rw [← HMV.out] at k2
         have HK2 := zh k2
         have HP2 := zh (HPv.out.trans p2)
         have HO2 : Hid ((wv.drew.setCell ⟨gt, j * 13 + 1, none⟩ (.int .i64 (p : Int))).ownsRow gm 3 1 (.slice (some ⟨gm, 0, none⟩) r.tasks.length r.tasks.length) r.tasks.length (intV l)) := ownsRow_setCell_other (w := wv.drew) HOv.out (a := ⟨gt, j * 13 + 1, none⟩) (fun e => by
          have e2 : gm = gt := by simpa [Value.ownBlock] using e
          exact HFv.out.V .ta (by rw [ebT', e2]; rfl)) _
         have HF2 := zh (HFv.out.kp p2)
         have hsb : ((r'.ti j).state == 0) = false := by simp [hc2]
         clear k2 p2 kd HMV
         obtain ⟨q1, hq1⟩ : ∃ q1, (r'.ti j).prio = q1 := ⟨_, rfl⟩
         rw [hq1] at hcb t1
         clear hq1 hc1
         go_upto_region 22 with fail
         refine wp_region_need (S := fun w' => w'.cell? (⟨L.b, 0, none⟩) = some (.slice (some ⟨gt, 0, none⟩) r.tasks.length ct) ∧ w'.cell? (⟨gm, j, none⟩) = some (.int .i64 (p : Int))) (need := fun i => i != 11) 12 (bs 12 0) (by kernel_rfl) (by kernel_rfl) (by kernel_rfl) ?_ (fun hHeld => ?_)
         ·(try dsimp only)
          exact ⟨c0, mj⟩
         refine tk 0 (bs 12 1) (v := ?_) ?_ ?_; rotate_left 2
         refine tk 1 (bs 12 3) (v := ?_) ?_ ?_; rotate_left 2
         refine tk 2 (bs 12 7) (v := ?_) ?_ ?_; rotate_left 2
         refine tk 3 (bs 12 15) (v := ?_) ?_ ?_; rotate_left 2
         refine tk 4 (bs 12 31) (v := ?_) ?_ ?_; rotate_left 2
         refine tk 5 (bs 12 63) (v := ?_) ?_ ?_; rotate_left 2
         refine tk 6 (bs 12 127) (v := ?_) ?_ ?_; rotate_left 2
         refine tk 7 (bs 12 255) (v := ?_) ?_ ?_; rotate_left 2
         refine tk 8 (bs 12 511) (v := ?_) ?_ ?_; rotate_left 2
         refine tk 9 (bs 12 1023) (v := ?_) ?_ ?_; rotate_left 2
         refine tk 10 (bs 12 2047) (v := ?_) ?_ ?_; rotate_left 2
         rotate_left
         iterate 11 (rotate_left; focus (intro w hSw; (try dsimp only at hSw); obtain ⟨hS0', hS1'⟩ := hSw; go_simp; with_reducible rfl))
         try simp only [Act.put, p1, p2, p3, p4, p5, p6]
         refine wpAnyN_step (i := 11) (listed' := (bs 12 4095)) (by kernel_rfl) rfl (by kernel_rfl) (fun K hK => ?_)
         refine step_storeN rfl _ _ (by rfl) (by rfl) (by rfl) (z := .int .i64 q1) t1 s1 ?_
         refine hK.out _ _ ?_ (fun hHeld => ?_)
         ·exact fun h => absurd h (by decide)
         clear hK K
         try simp only [Act.put, p1, p2, p3]
         refine wpAnyN_done (by kernel_rfl) ?_ _
         clear hHeld
         generalize wv.drew.setCell ⟨gt, j * 13 + 1, none⟩ (.int .i64 (p : Int)) = w2 at *
         go_wp2_with fail
         go_roundg (r.tasks.length - (j + 1))
         case measure => omega
         case rel => exact ⟨j + 1, _, L', by omega, by go_num, HN.out _ rfl, HM1.out, HM2.out, HM3.out, HK2.out, HP2.out, HO2.out, HF2.out, zl _⟩
      ·have hge : ¬ (j : Int) < r.tasks.length := by omega
       have EE : Hid (r.priorities = r') := by
        show _ = _
        rw [HE.out, List.drop_of_length_le (by omega)]
        rfl
       go_wp2_with fail
       go_end0
       rw [EE.out]
       exact ⟨rfl, L', HKz.out, HPz.out⟩
    ·obtain ⟨hp, hs⟩ := hbt rfl
     have HPR := zh hp
     have HS := zh hs
     have hs0 := (Kn.sum_le l hPl.out.2).1
     have hf1 : 1 ≤ f := by omega
     clear hbt hbf hp hs hs0
     simp only [if_true] at hkx
     go_wp2_with fail
     go_loopg [4, 5] r.tasks.length (fun k2 av iv wy => ∃ (j : Nat) (l2 : List Int) (b2 : Bool), j ≤ r.tasks.length ∧ iv = .int .i64 j ∧ av = .bool b2 ∧ Kn.PL r.tasks.length l2 ∧ wy.ownsRow gm 3 1 (.slice (some ⟨gm, 0, none⟩) r.tasks.length r.tasks.length) r.tasks.length (intV l2) ∧ r.kn.pass r.kn.tasks 0 l false = r.kn.pass (r.kn.tasks.drop j) j l2 b2 ∧ (b2 = true → Kn.sum l2 < Kn.sum l) ∧ Kn.sum l2 ≤ Kn.sum l ∧ Below gm w wy ∧ r.tasks.length - j ≤ k2)
     case atStart => exact ⟨0, l, false, Nat.zero_le _, rfl, rfl, hPl.out, hLi.out, rfl, (fun e => by cases e), Int.le_refl _, HBX.out, by omega⟩
     case round =>
      obtain ⟨j, l2, b2, hj, rfl, rfl, hPL2, hLI2, hps, hb2t, hsle, hby, hk2⟩ := hrel
      obtain ⟨wy, rfl⟩ : ∃ wy : World, wy = wr := ⟨_, rfl⟩
      have HPL := zh hPL2
      have HLI := zh hLI2
      have HPS := zh hps
      have HBT := zh hb2t
      have HSL := zh hsle
      have HBY := zh hby
      have HKy := zh (HBZ.out _ hby)
      have c0 := HKy.out.cTa
      rw [HTA.out] at c0
      clear hPL2 hLI2 hps hb2t hsle hby
      by_cases hlt : j < r.tasks.length
      ·have hlt' : (j : Int) < r.tasks.length := by omega
       have hj0 : (0 : Int) ≤ j := by omega
       have t0 : wy.cell? ⟨gt, j * 13, none⟩ = some (.int .i64 (r.ti j).base) := HKy.out.cTask HTA.out hlt (j := 0) (by decide)
       have t1 : wy.cell? ⟨gt, j * 13 + 1, none⟩ = some (.int .i64 (r.ti j).prio) := HKy.out.cTask HTA.out hlt (j := 1) (by decide)
       have t2 : wy.cell? ⟨gt, j * 13 + 2, none⟩ = some (L.O j) := HKy.out.cTask HTA.out hlt (j := 2) (by decide)
       have t3 : wy.cell? ⟨gt, j * 13 + 3, none⟩ = some (.int .i64 (r.ti j).place) := HKy.out.cTask HTA.out hlt (j := 3) (by decide)
       have t4 : wy.cell? ⟨gt, j * 13 + 4, none⟩ = some (.int .i64 (r.ti j).last) := HKy.out.cTask HTA.out hlt (j := 4) (by decide)
       have t5 : wy.cell? ⟨gt, j * 13 + 5, none⟩ = some (.int .i64 (r.ti j).state) := HKy.out.cTask HTA.out hlt (j := 5) (by decide)
       have t6 : wy.cell? ⟨gt, j * 13 + 6, none⟩ = some (.int .i64 (r.ti j).wake) := HKy.out.cTask HTA.out hlt (j := 6) (by decide)
       have t7 : wy.cell? ⟨gt, j * 13 + 7, none⟩ = some (.int .i64 (r.ti j).answer) := HKy.out.cTask HTA.out hlt (j := 7) (by decide)
       have t8 : wy.cell? ⟨gt, j * 13 + 8, none⟩ = some (.int .i64 (r.ti j).on) := HKy.out.cTask HTA.out hlt (j := 8) (by decide)
       have t9 : wy.cell? ⟨gt, j * 13 + 9, none⟩ = some (.int .i64 (r.ti j).id) := HKy.out.cTask HTA.out hlt (j := 9) (by decide)
       have t10 : wy.cell? ⟨gt, j * 13 + 10, none⟩ = some (.int .i64 (r.ti j).value) := HKy.out.cTask HTA.out hlt (j := 10) (by decide)
       have t11 : wy.cell? ⟨gt, j * 13 + 11, none⟩ = some (.int .i64 (r.ti j).since) := HKy.out.cTask HTA.out hlt (j := 11) (by decide)
       have t12 : wy.cell? ⟨gt, j * 13 + 12, none⟩ = some (L.V (.lp j)) := HKy.out.cTask HTA.out hlt (j := 12) (by decide)
       obtain ⟨A2, n2, eO, -⟩ := HKy.out.ops j hlt
       obtain ⟨A12, q12, eV, -, -⟩ := HKy.out.slice (.lp j)
       rw [eO] at t2
       rw [eV] at t12
       have HNext : Hid (∀ b3 l3, r.kn.pass (r.kn.tasks.drop j) j l2 b2 = r.kn.pass (r.kn.tasks.drop (j + 1)) (j + 1) l3 b3 → r.kn.pass r.kn.tasks 0 l false = r.kn.pass (r.kn.tasks.drop (j + 1)) (j + 1) l3 b3) := fun b3 l3 e => HPS.out.trans e
       have HD := zh (kn_pass (l := l2) (b := b2) hlt)
       have hll := HPL.out.1
       have hzy := HBY.out.size
       have BX : Hid (∀ (b1 b2 b3 : Int), Below gm w (wy.alloc (.cells #[.int .i64 (r.ti j).base, .int .i64 (r.ti j).prio, .slice A2 (r.ti j).ops.length n2, .int .i64 (r.ti j).place, .int .i64 (r.ti j).last, .int .i64 b1, .int .i64 (r.ti j).wake, .int .i64 (r.ti j).answer, .int .i64 b2, .int .i64 b3, .int .i64 (r.ti j).value, .int .i64 (r.ti j).since, .slice A12 (Part.len r (.lp j)) q12] 100))) := fun _ _ _ => HBY.out.alloc (by rw [HGM.out]; exact hzy) _
       have OX : Hid (∀ cs, (wy.alloc (.cells cs 100)).ownsRow gm 3 1 (.slice (some ⟨gm, 0, none⟩) r.tasks.length r.tasks.length) r.tasks.length (intV l2)) := fun _ => HLI.out.alloc _
       by_cases hst : (r.ti j).state = 1
       ·by_cases hon : (r.ti j).on = 2
        ·have hid := HP.out.on j hlt hst hon
         have hoo := kn_own2 HP.out HF.out hlt hst hon
         rw [hoo] at HD
         rw [hst] at t5
         rw [hon] at t8
         have HD2 : Hid (r.kn.pass (r.kn.tasks.drop j) j l2 b2 = if 0 ≤ r.owner.getD (r.ti j).id.toNat (-1) ∧ l2.getD j 0 < l2.getD (r.owner.getD (r.ti j).id.toNat (-1)).toNat 0 then r.kn.pass (r.kn.tasks.drop (j + 1)) (j + 1) (l2.set (r.owner.getD (r.ti j).id.toNat (-1)).toNat (l2.getD j 0)) true else r.kn.pass (r.kn.tasks.drop (j + 1)) (j + 1) l2 b2) := by
          show _ = _
          rw [HD.out]
          simp only [hst, true_and]
         clear HD hoo hst hon
         obtain ⟨d, hd⟩ := Int.eq_ofNat_of_zero_le hid.1
         rw [hd] at t9 HD2 hid
         rw [Int.toNat_natCast] at HD2
         have hdl : d < r.owner.length := by omega
         have idl : (d : Int) < r.owner.length := by omega
         have id0 : (0 : Int) ≤ d := by omega
         obtain ⟨go, co, hv⟩ := HKy.out.ow (by omega)
         have c34 := HKy.out.cOw
         rw [hv] at c34
         have cd := HKy.out.cRowInt (p := .ow) (l := r.owner) hv ⟨rfl, rfl, rfl, rfl⟩ hdl
         have eg : r.owner.getD d (-1) = r.owner[d] := by rw [zd, List.getElem?_eq_getElem hdl]; rfl
         have hov := HP.out.own _ (List.getElem_mem hdl)
         rw [eg] at HD2
         have hgo : go < wy.heap.size := (HKy.out.rowLt (p := .ow) (g := go) (by rw [hv]; rfl)).2
         have hgm : gm < wy.heap.size := (HLI.out.lt gm rfl).2
         have hLb := HKy.out.lt
         have hgj : Hid (l2.getD j 0 = l2[j]'(by omega)) := by show _ = _; simp [hlt, hll]
         have mj := intAt HLI.out (j := j) (by omega)
         generalize r.owner[d] = o at *
         clear eg hid hd
         go_wp2_with fail
         have x9 := (zm wy 100 #[.int .i64 (r.ti j).base, .int .i64 (r.ti j).prio, .slice A2 (r.ti j).ops.length n2, .int .i64 (r.ti j).place, .int .i64 (r.ti j).last, .int .i64 1, .int .i64 (r.ti j).wake, .int .i64 (r.ti j).answer, .int .i64 2, .int .i64 (d : Int), .int .i64 (r.ti j).value, .int .i64 (r.ti j).since, .slice A12 (Part.len r (.lp j)) q12]).cell 9
         simp only [za, zb, zc] at x9
         have y34 := (zw wy (.cells #[.int .i64 (r.ti j).base, .int .i64 (r.ti j).prio, .slice A2 (r.ti j).ops.length n2, .int .i64 (r.ti j).place, .int .i64 (r.ti j).last, .int .i64 1, .int .i64 (r.ti j).wake, .int .i64 (r.ti j).answer, .int .i64 2, .int .i64 (d : Int), .int .i64 (r.ti j).value, .int .i64 (r.ti j).since, .slice A12 (Part.len r (.lp j)) q12] 100) ⟨L.b, 34, none⟩ hLb).trans c34
         have yd := (zw wy (.cells #[.int .i64 (r.ti j).base, .int .i64 (r.ti j).prio, .slice A2 (r.ti j).ops.length n2, .int .i64 (r.ti j).place, .int .i64 (r.ti j).last, .int .i64 1, .int .i64 (r.ti j).wake, .int .i64 (r.ti j).answer, .int .i64 2, .int .i64 (d : Int), .int .i64 (r.ti j).value, .int .i64 (r.ti j).since, .slice A12 (Part.len r (.lp j)) q12] 100) ⟨go, d, none⟩ hgo).trans cd
         have yj := (zw wy (.cells #[.int .i64 (r.ti j).base, .int .i64 (r.ti j).prio, .slice A2 (r.ti j).ops.length n2, .int .i64 (r.ti j).place, .int .i64 (r.ti j).last, .int .i64 1, .int .i64 (r.ti j).wake, .int .i64 (r.ti j).answer, .int .i64 2, .int .i64 (d : Int), .int .i64 (r.ti j).value, .int .i64 (r.ti j).since, .slice A12 (Part.len r (.lp j)) q12] 100) ⟨gm, j, none⟩ hgm).trans mj
         have ym : ∀ q, (wy.alloc (.cells #[.int .i64 (r.ti j).base, .int .i64 (r.ti j).prio, .slice A2 (r.ti j).ops.length n2, .int .i64 (r.ti j).place, .int .i64 (r.ti j).last, .int .i64 1, .int .i64 (r.ti j).wake, .int .i64 (r.ti j).answer, .int .i64 2, .int .i64 (d : Int), .int .i64 (r.ti j).value, .int .i64 (r.ti j).since, .slice A12 (Part.len r (.lp j)) q12] 100)).cell? ⟨gm, q, none⟩ = wy.cell? ⟨gm, q, none⟩ := fun q => zw wy _ ⟨gm, q, none⟩ hgm
         have HYM := zh ym
         have OW2 := zh (OX.out #[.int .i64 (r.ti j).base, .int .i64 (r.ti j).prio, .slice A2 (r.ti j).ops.length n2, .int .i64 (r.ti j).place, .int .i64 (r.ti j).last, .int .i64 1, .int .i64 (r.ti j).wake, .int .i64 (r.ti j).answer, .int .i64 2, .int .i64 (d : Int), .int .i64 (r.ti j).value, .int .i64 (r.ti j).since, .slice A12 (Part.len r (.lp j)) q12])
         have BW2 := zh (BX.out 1 2 (d : Int))
         clear t0 t1 t2 t3 t4 t5 t6 t7 t8 t9 t10 t11 t12 c0 c34 cd mj BX OX ym
         generalize hWX : wy.alloc (.cells #[.int .i64 (r.ti j).base, .int .i64 (r.ti j).prio, .slice A2 (r.ti j).ops.length n2, .int .i64 (r.ti j).place, .int .i64 (r.ti j).last, .int .i64 1, .int .i64 (r.ti j).wake, .int .i64 (r.ti j).answer, .int .i64 2, .int .i64 (d : Int), .int .i64 (r.ti j).value, .int .i64 (r.ti j).since, .slice A12 (Part.len r (.lp j)) q12] 100) = WX at *
         clear hWX
         refine zy ?_
         repeat go_big_quiet_step (fail)
         refine wpQuiet_nil ?_
         intro _ hw'
         obtain ⟨nq, hw2⟩ := hw'
         subst hw2
         go_wp2_with fail
         by_cases hc : 0 ≤ o ∧ l2[j]'(by omega) < l2.getD o.toNat 0
         ·have HE := HD2.out
          rw [hgj.out, if_pos hc] at HE
          obtain ⟨ho0, hlo⟩ := hc
          obtain ⟨o, rfl⟩ := Int.eq_ofNat_of_zero_le ho0
          have hol : o < r.tasks.length := by omega
          have iol : (o : Int) < r.tasks.length := by omega
          have mo := (HYM.out o).trans (intAt HLI.out (j := o) (by omega))
          have hgo2 : Hid (l2.getD o 0 = l2[o]'(by omega)) := by show _ = _; simp [hol, hll]
          rw [Int.toNat_natCast, hgo2.out] at hlo
          rw [Int.toNat_natCast] at HE
          have hss : Hid (Kn.sum (l2.set o (l2[j]'(by omega))) < Kn.sum l2) := by show _ < _; rw [Kn.sum_set _ _ _ (by omega), hgo2.out]; omega
          have HPS3 : Hid (Kn.PL r.tasks.length (l2.set o (l2[j]'(by omega)))) := HPL.out.set (by rw [← hgj.out]; exact HPL.out.get j)
          have mfo := OW2.out.frozenAt o
          have ost := (OW2.out.stored o (.int .i64 (l2[j]'(by omega)))).1
          rw [← intV_set] at ost
          have OST : Hid (∀ n, ((WX.drewN n).setCell ⟨gm, o, none⟩ (.int .i64 (l2[j]'(by omega)))).ownsRow gm 3 1 (.slice (some ⟨gm, 0, none⟩) r.tasks.length r.tasks.length) r.tasks.length (intV (l2.set o (l2[j]'(by omega))))) := fun n => ost
          have BST : Hid (∀ n, Below gm w ((WX.drewN n).setCell ⟨gm, o, none⟩ (.int .i64 (l2[j]'(by omega))))) := fun n => (BW2.out.drewN' n).setCell (p := ⟨gm, o, none⟩) (zl _) _
          have HEE := zh HE
          clear HE HD2 hgj hgo2 HYM ost
          generalize l2[j]'(by omega) = lj at *
          generalize l2[o]'(by omega) = lo at *
          have hd0 : decide ((0 : Int) ≤ o) = true := zu (by omega)
          have hd1 : decide (lj < lo) = true := zu hlo
          refine zy ?_
          repeat go_big_quiet_step (fail)
          refine wpQuiet_nil ?_
          intro _ hw'
          obtain ⟨nq, hw2⟩ := hw'
          subst hw2
          go_wp2_with fail
          go_roundg (r.tasks.length - (j + 1))
          case measure => omega
          case rel => exact ⟨j + 1, l2.set o lj, true, by omega, by go_num, rfl, HPS3.out, OST.out _, HNext.out _ _ HEE.out, fun _ => by have := hss.out; have := HSL.out; omega, by have := hss.out; have := HSL.out; omega, BST.out _, zl _⟩
         ·have HE := HD2.out
          rw [hgj.out, if_neg hc] at HE
          have HEE := zh HE
          clear HE HD2
          by_cases ho0 : 0 ≤ o
          ·obtain ⟨o, rfl⟩ := Int.eq_ofNat_of_zero_le ho0
           have hol : o < r.tasks.length := by omega
           have iol : (o : Int) < r.tasks.length := by omega
           have mo := (HYM.out o).trans (intAt HLI.out (j := o) (by omega))
           have hgo2 : Hid (l2.getD o 0 = l2[o]'(by omega)) := by show _ = _; simp [hol, hll]
           have hlo : ¬ l2[j]'(by omega) < l2[o]'(by omega) := fun q => hc ⟨by omega, by rw [Int.toNat_natCast, hgo2.out]; exact q⟩
           clear hc hgo2 hgj HYM
           generalize l2[j]'(by omega) = lj at *
           generalize l2[o]'(by omega) = lo at *
           have hd0 : decide ((0 : Int) ≤ o) = true := zu (by omega)
           have hd1 : decide (lj < lo) = false := decide_eq_false hlo
           refine zy ?_
           repeat go_big_quiet_step (fail)
           refine wpQuiet_nil ?_
           intro _ hw'
           obtain ⟨nq, hw2⟩ := hw'
           subst hw2
           go_wp2_with fail
           go_roundg (r.tasks.length - (j + 1))
           case measure => omega
           case rel => exact ⟨j + 1, l2, b2, by omega, by go_num, rfl, HPL.out, OW2.out, HNext.out _ _ HEE.out, HBT.out, HSL.out, BW2.out.drewN' _, zl _⟩
          ·have hd0 : decide ((0 : Int) ≤ o) = false := decide_eq_false ho0
           clear hc hgj HYM
           generalize l2[j]'(by omega) = lj at *
           refine zy ?_
           repeat go_big_quiet_step (fail)
           refine wpQuiet_nil ?_
           intro _ hw'
           obtain ⟨nq, hw2⟩ := hw'
           subst hw2
           go_wp2_with fail
           go_roundg (r.tasks.length - (j + 1))
           case measure => omega
           case rel => exact ⟨j + 1, l2, b2, by omega, by go_num, rfl, HPL.out, OW2.out, HNext.out _ _ HEE.out, HBT.out, HSL.out, BW2.out.drewN' _, zl _⟩
        ·have HE := HD.out
         rw [kn_own0 hon, if_neg (by rintro ⟨_, q, _⟩; exact absurd q (by decide))] at HE
         have HEE := zh HE
         rw [hst] at t5
         have e2 : ((r.ti j).on == 2) = false := by simp [hon]
         replace hon : ¬ (r.ti j).on = 2 := hon
         clear HE HD hst
         go_wp2_with fail
         go_roundg (r.tasks.length - (j + 1))
         case measure => omega
         case rel => exact ⟨j + 1, l2, b2, by omega, by go_num, rfl, HPL.out, OX.out _, HNext.out _ _ HEE.out, HBT.out, HSL.out, BX.out _ _ _, zl _⟩
       ·have HE := HD.out
        rw [if_neg (fun q => hst q.1)] at HE
        have HEE := zh HE
        have e1 : ((r.ti j).state == 1) = false := by simp [hst]
        replace hst : ¬ (r.ti j).state = 1 := hst
        clear HE HD
        go_wp2_with fail
        go_roundg (r.tasks.length - (j + 1))
        case measure => omega
        case rel => exact ⟨j + 1, l2, b2, by omega, by go_num, rfl, HPL.out, OX.out _, HNext.out _ _ HEE.out, HBT.out, HSL.out, BX.out _ _ _, zl _⟩
      ·have hge : ¬ (j : Int) < r.tasks.length := by omega
       have hjn : j = r.tasks.length := by omega
       have HPS2 : Hid (r.kn.pass r.kn.tasks 0 l false = (l2, b2)) := by
        show _ = _
        rw [HPS.out, hjn, ← kn_len, List.drop_length]
        rfl
       clear hjn HPS
       obtain ⟨f, rfl⟩ : ∃ f', f = f' + 1 := ⟨f - 1, by omega⟩
       go_wp2_with fail
       rcases b2 with _ | _
       ·have E : Hid (r.kn.priorities = l2) := HPR.out.trans (Kn.prios_false HPS2.out)
        go_roundg 0
        case measure => omega
        case rel => exact ⟨l2, f, false, rfl, HPL.out, HLI.out, (fun e => by cases e), fun _ => E.out, HBY.out, by rw [if_neg (by decide)]; omega⟩
       ·have E : Hid (r.kn.priorities = r.kn.prios f l2) := HPR.out.trans (Kn.prios_true HPS2.out)
        go_roundg (f + 1)
        case measure => omega
        case rel => exact ⟨l2, f, true, rfl, HPL.out, HLI.out, fun _ => ⟨E.out, by have := HBT.out rfl; have := HS.out; omega⟩, (fun e => by cases e), HBY.out, by rw [if_pos rfl]; omega⟩
end Rk
end Go.Proofs.Ytncbgnpoffolcaa
