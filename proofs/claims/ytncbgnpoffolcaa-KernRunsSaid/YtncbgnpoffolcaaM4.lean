/-
  A list's head put anew, and a number more behind a list: what stays, and where the blocks lie then.
  All priorities told anew, ready tasks in their rows: the walk of anew.
  A tick goes by: the walk of tick.
-/
import Derived.Test.YtncbgnpoffolcaaNt
import Derived.Test.YtncbgnpoffolcaaM3
import Derived.Deep.RegionHeld3
import Derived.Laws.OwnMore
/-! A list's head put anew, and a number more behind a list: what stays, and where the blocks lie then. -/
namespace Go.Proofs.Ytncbgnpoffolcaa
open Go.RowKit
/-- A number more behind a list. -/
theorem KM.push {W W1 : World} {B : Nat} {k : Kn.K} {L : Lay} {x : Nat} (n : Int) (h : KM W B k L) (hx : x < 72) (hlive : (holder x).live k L) (hb1 : Below W.heap.size W W1) (hB : B ≤ W.heap.size) :
 ∃ gl, LHead W1 (L.hd (.l x) (k.l x).length) (k.l x) gl ∧ ∀ v' w5, Aplpost W1 gl (k.l x ++ [n]) v' w5 →
   (∃ A c, v' = .slice A ((k.l x).length + 1) c) ∧ (∀ c : Part, c ≠ .l x → c.live k L → w5.heap[L.b c]? = W.heap[L.b c]?) ∧ Below B W w5 ∧
   (∃ L', KM (w5.setCell ⟨L.b (holder x), holdAt x, none⟩ v') B (k.setL x (· ++ [n])) L' ∧ Sam L L' ∧ Near W.heap.size k L (k.setL x (· ++ [n])) L') ∧ (∀ g, Out W k L g → w5.heap[g]? = W.heap[g]?) := by
 refine ⟨if L.nil (.l x) then none else some (L.b (.l x)), (h.head hx).keep fun b hb => hb1.block b hb, fun v' w5 hap => ?_⟩
 obtain ⟨g5, hv5, hg5, hs5, hgr5⟩ := hap
 have hz1 := hb1.size
 have hkeep : ∀ g, g < W.heap.size → (L.nil (.l x) = false → g ≠ L.b (.l x)) → w5.heap[g]? = W.heap[g]? := fun g hg hne => by
  rw [hs5 g (by omega) ?_]
  ·exact hb1.block g hg
  ·intro e
   cases hn : L.nil (.l x) with
   | true => rw [hn, if_pos rfl] at e; cases e
   | false => rw [hn] at e; exact hne hn (by simpa using e.symm)
 refine ⟨?_, fun c hc hcl => hkeep _ (h.lt hcl) (fun hn e => hc (h.apart c (.l x) hcl ⟨hx, hn⟩ e)), ?_, ?_, fun g hg => hkeep g hg.1 (fun hn e => hg.2 (.l x) ⟨hx, hn⟩ e.symm)⟩
 ·obtain ⟨A, c, e⟩ := hv5.slice
  rw [List.length_append, List.length_singleton] at e
  exact ⟨A, c, e⟩
 ·refine ((zr B W).trans (hb1.mono hB)).grown hgr5 (by omega) (fun b hb => ?_)
  cases hn : L.nil (.l x) with
  | true => rw [hn, if_pos rfl] at hb; cases hb
  | false =>
    rw [hn] at hb
    have : L.b (.l x) = b := by simpa using hb
    rw [← this]
    exact h.low (.l x) ⟨hx, hn⟩
 ·refine h.putListN (f := (· ++ [n])) hx hlive hv5 (fun b hb hne => hkeep b hb hne) (fun b hb => ?_) hB
  rcases hg5 with e | ⟨y, e, hy⟩
  ·rw [hb] at e
   cases hn : L.nil (.l x) with
   | true => rw [hn, if_pos rfl] at e; cases e
   | false => rw [hn] at e; exact .inl ⟨rfl, by simpa using e⟩
  ·rw [hb] at e
   obtain rfl := Option.some.inj e
   exact .inr (by omega)
/-- One cell of a task is written anew. -/
theorem KM.putTask {w : World} {B : Nat} {k : Kn.K} {L : Lay} {i j : Nat} {v : Value} {f : Kn.T → Kn.T} (h : KM w B k L) (hi : i < k.tasks.length) (ho : (f (kT k i)).ops = (kT k i).ops) (hl : (f (kT k i)).loops = (kT k i).loops)
 (e : taskCells (k.setT i f) L i = (taskCells k L i).setIfInBounds j v) : KM (w.setCell ⟨L.b (.t i), j, none⟩ v) B (k.setT i f) L := by
 refine h.setTask hi ho hl (fun g hg _ => zk _ _ _ _ hg) ?_
 rw [e]
 exact (h.task hi).put j v
set_option maxRecDepth 100000 in
set_option maxHeartbeats 2000000 in
theorem leave_near {w : World} {B M : Nat} {k : Kn.K} {L : Lay} {m : Nat} (h : KM w B k L) (hf : Fine k M) (hM : M ≤ 1000000) (hm : m < k.tasks.length) (hB : B ≤ w.heap.size) :
 Calls Try.prog 56 #[L.ptr .ker 0, .int .i64 m] w fun e w' => e = .returned (.tuple #[]) ∧ ∃ L', KM w' B (k.leave m) L' ∧ Sam L L' ∧ Below B w w' ∧ Near w.heap.size k L (k.leave m) L' ∧ ∀ g, Out w k L g → w'.heap[g]? = w.heap[g]? := by
 obtain ⟨p0, p1⟩ := hf.prio m hm
 obtain ⟨p, hp⟩ := Int.eq_ofNat_of_zero_le p0
 have hp32 : p < 32 := by omega
 have h0 := h.tasksHead (by omega)
 have h1 := h.taskPtr hm
 have h2 : w.cell? ⟨L.b (.t m), 2, none⟩ = some (.int .i64 (kT k m).prio) := (h.task hm).cell 2
 rw [hp] at h2
 have h3 := h.row hp32
 have im : (m : Int) < k.tasks.length := by omega
 have im0 : (0 : Int) ≤ m := by omega
 have ip : (p : Int) < 32 := by omega
 have hW := without_any (w := w.drew) (m : Int) (h.head (show p < 72 by omega)) (by have := hf.len p; omega)
 have EK : Hid (k.leave m = k.setL p (·.erase (m : Int))) := by
  show _ = _
  unfold Kn.K.leave
  show k.setL ((kT k m).prio).toNat _ = _
  rw [hp]
  rfl
 have HK := zh h
 have HW := zh hW
 generalize hhd : L.hd (.l p) (k.l p).length = V at *
 clear h hW hf p0 p1 hp
 unfold Lay.ptr
 go_enter Try.func56, Try.ntmps56
 go_wp2_with fail
 go_region_with (go_at_call 80; refine HW.out.mono ?_; rintro e w1 ⟨v', g', rfl, hv', hg', hb'⟩; obtain ⟨A', c', e'⟩ := hv'.slice; subst e'; have y1 := (HK.out.ker.same (hb'.block _ HK.out.ker.lt)).cell (4 + p); rw [kerCells_row k L hp32] at y1; have y2 := (HK.out.ker.same (hb'.block _ HK.out.ker.lt)).frozen (4 + p))
 go_wp2_with fail
 go_end0
 obtain ⟨q1, q2⟩ := holder_row hp32
 have hlow := HK.out.low .ker trivial
 obtain ⟨L', k1, k2, k3⟩ := HK.out.putListN (f := (·.erase (m : Int))) (show p < 72 by omega) (by rw [q1]; trivial) hv' (fun b hb _ => hb'.block b hb)
  (fun b hb => by
   rcases hg' with h | ⟨x, h, hx⟩
   ·rw [hb] at h
    cases hn : L.nil (.l p) with
    | true => rw [hn, if_pos rfl] at h; cases h
    | false => rw [hn] at h; exact .inl ⟨rfl, by simpa using h⟩
   ·rw [hb] at h
    obtain rfl := Option.some.inj h
    exact .inr hx) hB
 rw [q1, q2] at k1
 rw [EK.out]
 exact ⟨rfl, L', k1, k2, (((zr B w).drew).trans (hb'.mono hB)).setCell hlow _, k3, fun g hg => (zk _ _ _ _ (fun e => hg.2 .ker trivial e.symm)).trans (hb'.block g hg.1)⟩
end Go.Proofs.Ytncbgnpoffolcaa
/-! All priorities told anew, ready tasks in their rows: the walk of anew. -/
namespace Go.Proofs.Ytncbgnpoffolcaa
open Go.RowKit
/-- What lies behind 'append(one, list...)'. -/
def Frontpost (W1 : World) (g0 : Nat) (ys : List Int) (v' : Value) (w' : World) : Prop := ∃ b, LHead w' v' ys (some b) ∧ g0 ≤ b ∧ W1.grownBy w' (some g0)
theorem run_front {W1 : World} {g0 : Nat} {V : Value} {xs : List Int} {gl : Option Nat} (n : Int) (hown : W1.ownsRow g0 3 1 (.slice (some ⟨g0, 0, none⟩) 1 1) 1 [.int .i64 n]) (h : LHead W1 V xs gl) (hl : xs.length ≤ 1000000) (ty : TypeId) :
 ∃ v' w', (Builtin.append_ #[24, 24] ty #[.slice (some ⟨g0, 0, none⟩) 1 1, V]).run Try.prog W1 = .ok v' w' ∧ Frontpost W1 g0 (n :: xs) v' w' := by
 obtain ⟨i3, hi3, hi30, hi31, hi32⟩ := info_parts info3
 rcases h with ⟨rfl, rfl, rfl⟩ | ⟨b, off, cap, rfl, rfl, hL⟩
 ·refine ⟨_, _, run_append_owned_none (P := Try.prog) (w := W1) g0 24 ty 3 i3 1 Try.underlying24 hi3 _ 1 _ hown, ?_⟩
  have hlt := (hown.lt g0 rfl).2
  obtain ⟨g', cap', e, hb, hLI⟩ := ListIs.of_own (xs := [n]) (by simpa [intV] using hown) (by decide)
  exact ⟨g', .inr ⟨g', 0, cap', rfl, by rw [e]; rfl, hLI⟩, hb, ⟨rfl, rfl, rfl, zl _, fun _ _ _ => rfl⟩⟩
 ·have hlt := (hown.lt g0 rfl).2
  have hnews : ∀ (j : Nat) (u : Value), (intV xs)[j]? = some u → W1.cell? ((⟨b, off, none⟩ : Addr).add j) = some u := by
   intro j u hj
   have hjl : j < xs.length := by
    have := (List.getElem?_eq_some_iff.1 hj).1
    simpa [intV] using this
   have hu : u = .int .i64 xs[j] := by
    simp [intV, hjl] at hj
    exact hj.symm
   rw [hu, Addr.add_lit]
   exact hL.cell hjl
  have h1 : ∀ u ∈ intV xs, u.oneCell' = true := by
   intro u hu
   obtain ⟨x, _, rfl⟩ := List.mem_map.1 hu
   rfl
  obtain ⟨v', w', hr, h2, h3, _, _⟩ := run_append_own_at (P := Try.prog) W1 g0 24 ty 3 i3 _ 1 8 Try.underlying24 hi3 hi30 hi31 hi32 rfl (by decide) (.slice (some ⟨g0, 0, none⟩) 1 1) 1 _ hown ⟨b, off, none⟩ xs.length cap (intV xs) (by simp [intV]) hnews h1 (by unfold maxLen; omega) (by omega) (by omega)
  obtain ⟨g', cap', rfl, hb, hLI⟩ := ListIs.of_own (xs := n :: xs) (by simpa [intV] using h2) (by omega)
  exact ⟨_, w', hr, g', .inr ⟨g', 0, cap', rfl, by rw [List.length_cons, Nat.add_comm], hLI⟩, hb, h3⟩
theorem step_front {W1 : World} {ops : Array Oper} {o : Oper} {a : Act} {K : Act → World → Prop} {Q : Exit → Act → World → Prop} {E : Prop} (hgd : o.guard = none) (s x : Operand) (ho : o.op = .call { callee := .builtin .append, args := #[s, x], argTypes := #[24, 24] })
 {g0 : Nat} {V : Value} {xs : List Int} {gl : Option Nat} (n : Int) (hs : a.eval s = .slice (some ⟨g0, 0, none⟩) 1 1) (hown : W1.ownsRow g0 3 1 (.slice (some ⟨g0, 0, none⟩) 1 1) 1 [.int .i64 n]) (hx : a.eval x = V) (h : LHead W1 V xs gl) (hl : xs.length ≤ 1000000)
 (hK : ∀ v' w', Frontpost W1 g0 (n :: xs) v' w' → K (a.put o.dst v') w') : if Region.wanted o (yielded ops a.tmps) = true then Oper.wp Try.prog o a W1 K Q else E := by
 have hw : Region.wanted o (yielded ops a.tmps) = true := by simp [Region.wanted, hgd]
 rw [if_pos hw]
 obtain ⟨v', w', hrun, hp⟩ := run_front n hown h hl o.type
 unfold Oper.wp execOp
 simp only [ho, resolve, invoke, builtin, Sem.run_bind, Sem.run_pure, Result.andThen_ok, List.map_toArray, List.map_cons, List.map_nil, hs, hx, hrun]
 exact hK v' w' hp
/-- A number more ahead of a list. -/
theorem KM.front {W W1 : World} {B : Nat} {k : Kn.K} {L : Lay} {x : Nat} (n : Int) (h : KM W B k L) (hx : x < 72) (hlive : (holder x).live k L) (hb1 : Below W.heap.size W W1) (hB : B ≤ W.heap.size) :
 ∃ gl, LHead W1 (L.hd (.l x) (k.l x).length) (k.l x) gl ∧ ∀ v' w5, Frontpost W1 W.heap.size (n :: k.l x) v' w5 →
   (∃ A c, v' = .slice A ((k.l x).length + 1) c) ∧ (∀ c : Part, c.live k L → w5.heap[L.b c]? = W.heap[L.b c]?) ∧ Below B W w5 ∧
   (∃ L', KM (w5.setCell ⟨L.b (holder x), holdAt x, none⟩ v') B (k.setL x (n :: ·)) L' ∧ Sam L L' ∧ Near W.heap.size k L (k.setL x (n :: ·)) L') ∧ (∀ g, Out W k L g → w5.heap[g]? = W.heap[g]?) := by
 refine ⟨if L.nil (.l x) then none else some (L.b (.l x)), (h.head hx).keep fun b hb => hb1.block b hb, fun v' w5 hap => ?_⟩
 obtain ⟨b5, hv5, hg5, hgr5⟩ := hap
 have hz1 := hb1.size
 have hkeep : ∀ g, g < W.heap.size → w5.heap[g]? = W.heap[g]? := fun g hg => (hgr5.block g (by omega) (fun e => by injection e with e; omega)).trans (hb1.block g hg)
 refine ⟨?_, fun c hcl => hkeep _ (h.lt hcl), ?_, ?_, fun g hg => hkeep g hg.1⟩
 ·obtain ⟨A, c, e⟩ := hv5.slice
  rw [List.length_cons] at e
  exact ⟨A, c, e⟩
 ·exact ((zr B W).trans (hb1.mono hB)).grown hgr5 (by omega) (fun b hb => by injection hb with hb; omega)
 ·exact h.putListN (f := (n :: ·)) hx hlive hv5 (fun b hb _ => hkeep b hb) (fun b hb => by injection hb with hb; exact .inr (by omega)) hB
theorem anewAt_cons (last p : Int) (r : List Int) (i : Nat) (k : Kn.K) : Kn.K.anewAt last (p :: r) i k = Kn.K.anewAt last r (i + 1) (if p = (kT k i).prio then k else if (kT k i).state ≠ 0 then k.setT i fun t => { t with prio := p } else if (i : Int) = last then ((k.leave i).setT i fun t => { t with prio := p }).setL p.toNat ((i : Int) :: ·) else ((k.leave i).setT i fun t => { t with prio := p }).setL p.toNat (· ++ [(i : Int)])) := rfl
theorem taskCells_prio {k : Kn.K} {L : Lay} {i : Nat} {p : Int} (hi : i < k.tasks.length) : taskCells (k.setT i fun t => { t with prio := p }) L i = (taskCells k L i).setIfInBounds 2 (.int .i64 p) := by
 unfold taskCells
 rw [kT_set hi]
 rfl
set_option maxRecDepth 100000 in
set_option maxHeartbeats 16000000 in
theorem anew_any {w : World} {B : Nat} {k : Kn.K} {L : Lay} (last : Int) (h : KM w B k L) (hk : Kn.Ok k) (hn : 0 < k.tasks.length) (hB : B ≤ w.heap.size) :
 Calls Try.prog 44 #[L.ptr .ker 0, .int .i64 last] w fun e w' => e = .returned (.tuple #[]) ∧ ∃ L', KM w' B (k.anew last) L' ∧ Sam L L' ∧ Below B w w' := by
 have HPR := zh (priorities_any h hk hn)
 have HK0 := zh h
 have HO0 := zh hk
 have hlen := hk.inv.tasks
 have HPL := zh hk.good.priorities
 have HAN : Hid (k.anew last = Kn.K.anewAt last k.priorities 0 k) := rfl
 clear h hk
 unfold Lay.ptr at HPR ⊢
 go_enter Try.func44, Try.ntmps44
 go_wp2_with (go_at_call 58; refine HPR.out.mono ?_; rintro e w1 ⟨g, cap, rfl, hgb, hLI, hb1⟩)
 have KM1 := zh (HK0.out.below hb1)
 have BB1 := zh ((zr B w).trans (hb1.mono hB))
 have OG1 : Hid (Out w1 k L g) := ⟨by obtain ⟨cur, q, _⟩ := hLI; exact (Array.getElem?_eq_some_iff.1 q).1, fun c hc e => by have := HK0.out.lt hc; omega⟩
 have LI1 := zh hLI
 have hz1 := hb1.size
 generalize k.priorities = P at *
 clear hLI hb1 HPR
 go_wp2_with fail
 go_loopg [10] k.tasks.length (fun kk iv wr => ∃ (j : Nat) (kj : Kn.K) (Lj : Lay), j ≤ k.tasks.length ∧ iv = .int .i64 j ∧ KM wr B kj Lj ∧ Sam L Lj ∧ Below B w wr ∧ Kn.Ok kj ∧ Kn.Mono k kj ∧ Out wr kj Lj g ∧ ListIs wr.heap[g]? 0 cap P ∧ Kn.K.anewAt last P 0 k = Kn.K.anewAt last (P.drop j) j kj ∧ k.tasks.length - j ≤ kk)
 case atStart => exact ⟨0, k, L, Nat.zero_le _, rfl, KM1.out, Sam.refl _, BB1.out, HO0.out, Kn.Mono.refl _, OG1.out, LI1.out, rfl, by omega⟩
 case round =>
  obtain ⟨j, kj, Lj, hj, rfl, hKj, hSj, hBj, hOj, hMj, hGj, hLj, hEj, hkk⟩ := hrel
  have KJ := zh hKj
  have SJ := zh hSj
  have BJ := zh hBj
  have OJ := zh hOj
  have MJ := zh hMj
  have GJ := zh hGj
  have LJ := zh hLj
  have EJ := zh hEj
  have hzj := hBj.size
  have hBr : B ≤ wr.heap.size := by omega
  have htj : kj.tasks.length = k.tasks.length := hMj.tasks
  clear hKj hSj hBj hOj hMj hGj hLj hEj
  by_cases hlt : j < k.tasks.length
  ·have hlt' : (j : Int) < k.tasks.length := by omega
   have hjt : j < kj.tasks.length := by omega
   have hjP : j < P.length := by rw [HPL.out.1]; exact hlt
   have hcp := LJ.out.cell hjP
   rw [Nat.zero_add] at hcp
   have hpr := HPL.out.2 _ (List.getElem_mem hjP)
   have HD : Hid (P.drop j = P[j] :: P.drop (j + 1)) := List.drop_eq_getElem_cons hjP
   generalize P[j] = p0 at *
   obtain ⟨p, rfl⟩ := Int.eq_ofNat_of_zero_le hpr.1
   have hp32 : p < 32 := by omega
   have ip : (p : Int) < 32 := by omega
   have eK : Lj.b .ker = L.b .ker := SJ.out .ker rfl
   have eA : Lj.b .ta = L.b .ta := SJ.out .ta rfl
   have eT : Lj.b (.t j) = L.b (.t j) := SJ.out (.t j) rfl
   have a0 := KJ.out.tasksHead (by omega)
   have a1 := KJ.out.taskPtr hjt
   have wt := KJ.out.task hjt
   rw [eK, eA, htj] at a0
   rw [eA, eT] at a1
   rw [eT] at wt
   have t2 : wr.cell? ⟨L.b (.t j), 2, none⟩ = some (.int .i64 (kT kj j).prio) := wt.cell 2
   have t3 : wr.cell? ⟨L.b (.t j), 3, none⟩ = some (.int .i64 (kT kj j).state) := wt.cell 3
   have f2 := wt.frozen 2
   have ij0 : (0 : Int) ≤ j := by omega
   have HST : Hid (Kn.K.anewAt last P 0 k = Kn.K.anewAt last (P.drop (j + 1)) (j + 1) (if (p : Int) = (kT kj j).prio then kj else if (kT kj j).state ≠ 0 then kj.setT j fun t => { t with prio := (p : Int) } else if (j : Int) = last then ((kj.leave j).setT j fun t => { t with prio := (p : Int) }).setL (p : Int).toNat ((j : Int) :: ·) else ((kj.leave j).setT j fun t => { t with prio := (p : Int) }).setL (p : Int).toNat (· ++ [(j : Int)]))) := by
    show _ = _
    rw [EJ.out, HD.out, anewAt_cons]
   have WT := zh wt
   clear wt HD
   by_cases hpp : (p : Int) = (kT kj j).prio
   ·have HE := HST.out
    rw [if_pos hpp] at HE
    have HEE := zh HE
    clear HE HST
    rw [← hpp] at t2
    clear hpp
    go_wp2_with fail
    go_roundg (k.tasks.length - (j + 1))
    case measure => omega
    case rel => exact ⟨j + 1, kj, Lj, by omega, by go_num, KJ.out, SJ.out, BJ.out, OJ.out, MJ.out, GJ.out, LJ.out, HEE.out, zl _⟩
   ·by_cases hst : (kT kj j).state ≠ 0
    ·have HE := HST.out
     rw [if_neg hpp, if_pos hst] at HE
     have HEE := zh HE
     have hpb : ((p : Int) == (kT kj j).prio) = false := by simpa using hpp
     have hsb : ((kT kj j).state == 0) = false := by simpa using hst
     have HO2 := zh (OJ.out.prio (p := (p : Int)) hjt hst (by omega))
     have hK2 := KJ.out.putTask (j := 2) (v := .int .i64 p) (f := fun t => { t with prio := (p : Int) }) hjt rfl rfl (taskCells_prio hjt)
     rw [eT] at hK2
     have K2 := zh hK2
     have hlowT := KJ.out.low (.t j) hjt
     rw [eT] at hlowT
     have hgT := GJ.out.2 (.t j) hjt
     rw [eT] at hgT
     clear HE HST hpp hst hK2
     generalize (kT kj j).prio = q0 at *
     generalize (kT kj j).state = q1 at *
     have hpb2 : ¬ (p : Int) = q0 := by simpa using hpb
     have hsb2 : ¬ q1 = 0 := by simpa using hsb
     go_wp2_with fail
     go_roundg (k.tasks.length - (j + 1))
     case measure => omega
     case rel => exact ⟨j + 1, _, Lj, by omega, by go_num, K2.out, SJ.out, BJ.out.setCell (p := ⟨L.b (.t j), 2, none⟩) hlowT _, HO2.out.1, MJ.out.trans HO2.out.2, ⟨by rw [World.size_setCell]; exact GJ.out.1, fun c hc => GJ.out.2 c ((setT_live hjt rfl c).1 hc)⟩, by rw [zk _ _ _ _ (fun e => hgT e.symm)]; exact LJ.out, HEE.out, zl _⟩
    ·have hs0 : (kT kj j).state = 0 := Decidable.byContradiction hst
     have HE := HST.out
     rw [if_neg hpp, if_neg hst] at HE
     have HEE := zh HE
     have hpb : ¬ (p : Int) = (kT kj j).prio := hpp
     rw [hs0] at t3
     have HLV := zh (leave_near KJ.out OJ.out.fine (by decide) hjt hBr)
     have HO2 := zh (fun b => OJ.out.row (p := (p : Int)) (b := b) hjt hs0 (by omega))
     clear HE HST hpp hst hs0
     generalize (kT kj j).prio = q0 at *
     unfold Lay.ptr at HLV
     rw [eK] at HLV
     go_wp2_with fail
     refine HLV.out.mono ?_
     rintro e w2 ⟨rfl, L1, k1, s1, b1, n1, o1⟩
     have eK1 : L1.b .ker = L.b .ker := (s1 .ker rfl).trans eK
     have eT1 : L1.b (.t j) = L.b (.t j) := (s1 (.t j) rfl).trans eT
     have wt1 := k1.task (i := j) hjt
     rw [eT1] at wt1
     have u2 : w2.cell? ⟨L.b (.t j), 2, none⟩ = some (.int .i64 (kT kj j).prio) := wt1.cell 2
     have uf2 := wt1.frozen 2
     have hK2 := k1.putTask (j := 2) (v := .int .i64 p) (f := fun t => { t with prio := (p : Int) }) hjt rfl rfl (taskCells_prio (k := kj.leave j) hjt)
     rw [eT1] at hK2
     have hlowT := k1.low (.t j) hjt
     rw [eT1] at hlowT
     have hg2 : Out w2 (kj.leave j) L1 g := GJ.out.near n1 b1.size
     have hgT := hg2.2 (.t j) hjt
     rw [eT1] at hgT
     have hl2 : ListIs w2.heap[g]? 0 cap P := by rw [o1 g GJ.out]; exact LJ.out
     have hB2 := (BJ.out.trans b1).setCell (p := ⟨L.b (.t j), 2, none⟩) hlowT (.int .i64 p)
     obtain ⟨W, hW⟩ : ∃ W, W = w2.setCell ⟨L.b (.t j), 2, none⟩ (.int .i64 p) := ⟨_, rfl⟩
     have hgW : Out W ((kj.leave j).setT j fun t => { t with prio := (p : Int) }) L1 g := ⟨by rw [hW, World.size_setCell]; exact hg2.1, fun c hc => hg2.2 c ((setT_live (k := kj.leave j) hjt rfl c).1 hc)⟩
     have hlW : ListIs W.heap[g]? 0 cap P := by rw [hW, zk _ _ _ _ (fun e => hgT e.symm)]; exact hl2
     rw [← hW] at hK2 hB2
     have S1 := zh (SJ.out.trans s1)
     have K2 := zh hK2
     have B2 := zh hB2
     have G2 := zh hgW
     have LW := zh hlW
     clear k1 s1 b1 n1 o1 wt1 hg2 hl2 hK2 hB2 hgW hlW
     go_upto_region 9 with fail
     rw [← hW]
     clear hW u2 uf2
     have hBW : B ≤ W.heap.size := by have := B2.out.size; omega
     have hlive : (holder p).live ((kj.leave j).setT j fun t => { t with prio := (p : Int) }) L1 := by rw [(holder_row hp32).1]; trivial
     have hlen5 : (((kj.leave j).setT j fun t => { t with prio := (p : Int) }).l p).length ≤ 1000000 := by
      have := (OJ.out.fine.leave (n := (j : Int))).len p
      show ((kj.leave j).l p).length ≤ 1000000
      omega
     have c43 := K2.out.row hp32
     rw [eK1] at c43
     have c44 : W.frozen? ⟨L.b .ker, 4 + p, none⟩ = false := by have := K2.out.ker.frozen (4 + p); rw [eK1] at this; exact this
     have hltK : L.b .ker < W.heap.size := by have := K2.out.lt (c := .ker) trivial; rw [eK1] at this; exact this
     have hlowK := K2.out.low .ker trivial
     rw [eK1] at hlowK
     have hbd : Below W.heap.size W ((W.alloc (.cells #[.int .i64 j] 3)).drew) := ((zr W.heap.size W).alloc (zl _) _).drew
     have hgK := G2.out.2 .ker trivial
     rw [eK1] at hgK
     by_cases hjl : (j : Int) = last
     ·have HE := HEE.out
      rw [if_pos hjl] at HE
      have HE2 := zh HE
      have HO3 := zh (HO2.out true)
      obtain ⟨gl, hLH, hap⟩ := K2.out.front (j : Int) (show p < 72 by omega) hlive hbd hBW
      have HAP := zh hap
      have HLA := zh hLH
      have hown : ((W.alloc (.cells #[.int .i64 j] 3)).drew).ownsRow W.heap.size 3 1 (.slice (some ⟨W.heap.size, 0, none⟩) 1 1) 1 [.int .i64 j] := (World.ownsRow_lit (e := 3) (size := 1) W #[.int .i64 j] 1 (zl _) (by decide) rfl).drew
      have HOWN := zh hown
      generalize L1.hd (.l p) (((kj.leave j).setT j fun t => { t with prio := (p : Int) }).l p).length = VV at *
      have c43a : ((W.alloc (.cells #[.int .i64 j] 3)).drew).cell? ⟨L.b .ker, 4 + p, none⟩ = some VV := (zw W _ ⟨L.b .ker, 4 + p, none⟩ hltK).trans c43
      subst hjl
      clear HE HEE HO2 hap hLH hown
      go_upto_region 10 with fail
      refine wp_region_held_drew (S := fun _ => True) (by kernel_rfl) ?_ (fun hHeld => ?_)
      ·trivial
      refine tkH 0 (v := ?_) ?_ ?_; rotate_left 2
      refine tkH 1 (v := ?_) ?_ ?_; rotate_left 2
      refine tkH 2 (v := ?_) ?_ ?_; rotate_left 2
      refine tkH 4 (v := ?_) ?_ ?_; rotate_left 2
      refine tkH 5 (v := ?_) ?_ ?_; rotate_left 2
      refine tkH 6 (v := ?_) ?_ ?_; rotate_left 2
      refine tkH 7 (v := ?_) ?_ ?_; rotate_left 2
      refine tkH 8 (v := ?_) ?_ ?_; rotate_left 2
      refine tkH 11 (v := ?_) ?_ ?_; rotate_left 2
      refine tkH 12 (v := ?_) ?_ ?_; rotate_left 2
      rotate_left
      iterate 10 (rotate_left; focus (intro w hSw; (try dsimp only at hSw); go_simp; with_reducible rfl))
      try simp only [Act.put, p1, p2, p3, p4, p5, p6]
      refine wpAnyH_ready (rs := [3, 9]) (by kernel_rfl) (by simp) ?_
      refine AllReadyH.cons rfl (fun K hK => ?_) ?_
      ·go_simp
       refine hK.out _ _ ?_ (fun hHeld => ?_)
       ·trivial
       clear hK K
       try simp only [Act.put, p4, p5, p6]
       refine wpAnyH_ready (rs := [9]) (by kernel_rfl) (by simp) ?_
       refine AllReadyH.cons rfl (fun K hK => ?_) ?_
       ·go_simp
        refine hK.out _ _ ?_ (fun hHeld => ?_)
        ·trivial
        clear hK K
        try simp only [Act.put, p4, p5, p6]
        refine wpAnyH_ready (rs := [10]) (by kernel_rfl) (by simp) ?_
        refine AllReadyH.cons rfl (fun K hK => ?_) ?_
        ·(refine step_front rfl _ _ rfl (j : Int) (by rfl) HOWN.out (by rfl) HLA.out hlen5 ?_; intro v' w5 hpost; obtain ⟨⟨A5, c5, e5⟩, hk5, hb5, hkm5, ho5⟩ := HAP.out v' w5 hpost; subst e5; have z2 : w5.cell? ⟨L.b .ker, 4 + p, none⟩ = some VV := (zq (a := ⟨L.b .ker, 4 + p, none⟩) (by rw [← eK1]; exact hk5 .ker trivial)).trans c43; have z3 : w5.frozen? ⟨L.b .ker, 4 + p, none⟩ = false := (zx (a := ⟨L.b .ker, 4 + p, none⟩) (by rw [← eK1]; exact hk5 .ker trivial)).trans c44)
         refine hK.out _ _ ?_ (fun hHeld => ?_)
         ·trivial
         clear hK K
         try simp only [Act.put, p4]
         refine tkH 13 (v := ?_) ?_ ?_; rotate_left 2
         rotate_left
         iterate 1 (rotate_left; focus (intro w hSw; (try dsimp only at hSw); go_simp; with_reducible rfl))
         try simp only [Act.put, p1, p2, p3, p4, p5, p6]
         refine wpAnyH_ready (rs := [14]) (by kernel_rfl) (by simp) ?_
         refine AllReadyH.cons rfl (fun K hK => ?_) ?_
         ·go_simp
          refine hK.out _ _ ?_ (fun hHeld => ?_)
          ·trivial
          clear hK K
          try simp only [Act.put, p4, p5, p6]
          refine wpAnyH_done (by kernel_rfl) ?_ _
          obtain ⟨L', k6, s6, n6⟩ := hkm5
          rw [(holder_row hp32).1, (holder_row hp32).2, eK1] at k6
          have K6 := zh k6
          have S6 := zh s6
          have N6 := zh n6
          have O5 := zh ho5
          have BB5 := zh hb5
          have hz5 := hb5.size
          clear k6 s6 n6 ho5 hb5 hk5
          go_wp2_with fail
          go_roundg (k.tasks.length - (j + 1))
          case measure => omega
          case rel => exact ⟨j + 1, _, L', by omega, by go_num, K6.out, S1.out.trans S6.out, (B2.out.trans BB5.out).setCell (p := ⟨L.b .ker, 4 + p, none⟩) hlowK _, HO3.out.1, MJ.out.trans HO3.out.2, (G2.out.near N6.out (by rw [World.size_setCell]; exact hz5)), by rw [zk _ _ _ _ (fun e => hgK e.symm), O5.out g G2.out]; exact LW.out, HE2.out, zl _⟩
         exact AllReadyH.nil
        exact AllReadyH.nil
       exact AllReadyH.nil
      refine AllReadyH.cons rfl (fun K hK => ?_) ?_
      ·go_simp
       refine hK.out _ _ ?_ (fun hHeld => ?_)
       ·trivial
       clear hK K
       try simp only [Act.put, p4, p5, p6]
       refine wpAnyH_ready (rs := [3]) (by kernel_rfl) (by simp) ?_
       refine AllReadyH.cons rfl (fun K hK => ?_) ?_
       ·go_simp
        refine hK.out _ _ ?_ (fun hHeld => ?_)
        ·trivial
        clear hK K
        try simp only [Act.put, p4, p5, p6]
        refine wpAnyH_ready (rs := [10]) (by kernel_rfl) (by simp) ?_
        refine AllReadyH.cons rfl (fun K hK => ?_) ?_
        ·(refine step_front rfl _ _ rfl (j : Int) (by rfl) HOWN.out (by rfl) HLA.out hlen5 ?_; intro v' w5 hpost; obtain ⟨⟨A5, c5, e5⟩, hk5, hb5, hkm5, ho5⟩ := HAP.out v' w5 hpost; subst e5; have z2 : w5.cell? ⟨L.b .ker, 4 + p, none⟩ = some VV := (zq (a := ⟨L.b .ker, 4 + p, none⟩) (by rw [← eK1]; exact hk5 .ker trivial)).trans c43; have z3 : w5.frozen? ⟨L.b .ker, 4 + p, none⟩ = false := (zx (a := ⟨L.b .ker, 4 + p, none⟩) (by rw [← eK1]; exact hk5 .ker trivial)).trans c44)
         refine hK.out _ _ ?_ (fun hHeld => ?_)
         ·trivial
         clear hK K
         try simp only [Act.put, p4]
         refine tkH 13 (v := ?_) ?_ ?_; rotate_left 2
         rotate_left
         iterate 1 (rotate_left; focus (intro w hSw; (try dsimp only at hSw); go_simp; with_reducible rfl))
         try simp only [Act.put, p1, p2, p3, p4, p5, p6]
         refine wpAnyH_ready (rs := [14]) (by kernel_rfl) (by simp) ?_
         refine AllReadyH.cons rfl (fun K hK => ?_) ?_
         ·go_simp
          refine hK.out _ _ ?_ (fun hHeld => ?_)
          ·trivial
          clear hK K
          try simp only [Act.put, p4, p5, p6]
          refine wpAnyH_done (by kernel_rfl) ?_ _
          obtain ⟨L', k6, s6, n6⟩ := hkm5
          rw [(holder_row hp32).1, (holder_row hp32).2, eK1] at k6
          have K6 := zh k6
          have S6 := zh s6
          have N6 := zh n6
          have O5 := zh ho5
          have BB5 := zh hb5
          have hz5 := hb5.size
          clear k6 s6 n6 ho5 hb5 hk5
          go_wp2_with fail
          go_roundg (k.tasks.length - (j + 1))
          case measure => omega
          case rel => exact ⟨j + 1, _, L', by omega, by go_num, K6.out, S1.out.trans S6.out, (B2.out.trans BB5.out).setCell (p := ⟨L.b .ker, 4 + p, none⟩) hlowK _, HO3.out.1, MJ.out.trans HO3.out.2, (G2.out.near N6.out (by rw [World.size_setCell]; exact hz5)), by rw [zk _ _ _ _ (fun e => hgK e.symm), O5.out g G2.out]; exact LW.out, HE2.out, zl _⟩
         exact AllReadyH.nil
        exact AllReadyH.nil
       exact AllReadyH.nil
      exact AllReadyH.nil
     ·have hjb : ((j : Int) == last) = false := by simpa using hjl
      have HE := HEE.out
      rw [if_neg hjl] at HE
      have HE2 := zh HE
      have HO3 := zh (HO2.out false)
      obtain ⟨gl, hLH, hap⟩ := K2.out.push (j : Int) (show p < 72 by omega) hlive hbd hBW
      have HAP := zh hap
      have HLA := zh hLH
      have hnew : ((W.alloc (.cells #[.int .i64 j] 3)).drew).cell? ⟨W.heap.size, 0, none⟩ = some (.int .i64 j) := (zm W 3 #[.int .i64 j]).cell 0
      generalize L1.hd (.l p) (((kj.leave j).setT j fun t => { t with prio := (p : Int) }).l p).length = VV at *
      have c43a : ((W.alloc (.cells #[.int .i64 j] 3)).drew).cell? ⟨L.b .ker, 4 + p, none⟩ = some VV := (zw W _ ⟨L.b .ker, 4 + p, none⟩ hltK).trans c43
      clear HE HEE HO2 hap hLH hjl
      go_upto_region 11 with fail
      refine wp_region_held_drew (S := fun _ => True) (by kernel_rfl) ?_ (fun hHeld => ?_)
      ·trivial
      refine tkH 0 (v := ?_) ?_ ?_; rotate_left 2
      refine tkH 1 (v := ?_) ?_ ?_; rotate_left 2
      refine tkH 2 (v := ?_) ?_ ?_; rotate_left 2
      refine tkH 3 (v := ?_) ?_ ?_; rotate_left 2
      refine tkH 4 (v := ?_) ?_ ?_; rotate_left 2
      refine tkH 5 (v := ?_) ?_ ?_; rotate_left 2
      refine tkH 6 (v := ?_) ?_ ?_; rotate_left 2
      refine tkH 8 (v := ?_) ?_ ?_; rotate_left 2
      refine tkH 11 (v := ?_) ?_ ?_; rotate_left 2
      refine tkH 12 (v := ?_) ?_ ?_; rotate_left 2
      rotate_left
      iterate 10 (rotate_left; focus (intro w hSw; (try dsimp only at hSw); go_simp; with_reducible rfl))
      try simp only [Act.put, p1, p2, p3, p4, p5, p6]
      refine wpAnyH_ready (rs := [7, 9]) (by kernel_rfl) (by simp) ?_
      refine AllReadyH.cons rfl (fun K hK => ?_) ?_
      ·go_simp
       refine hK.out _ _ ?_ (fun hHeld => ?_)
       ·trivial
       clear hK K
       try simp only [Act.put, p4, p5, p6]
       refine wpAnyH_ready (rs := [9]) (by kernel_rfl) (by simp) ?_
       refine AllReadyH.cons rfl (fun K hK => ?_) ?_
       ·go_simp
        refine hK.out _ _ ?_ (fun hHeld => ?_)
        ·trivial
        clear hK K
        try simp only [Act.put, p4, p5, p6]
        refine wpAnyH_ready (rs := [10]) (by kernel_rfl) (by simp) ?_
        refine AllReadyH.cons rfl (fun K hK => ?_) ?_
        ·(refine step_append_list rfl _ _ rfl (by rfl) HLA.out hlen5 (j : Int) ⟨W.heap.size, 0, none⟩ 1 (by rfl) (by exact hnew) ?_; intro v' w5 hpost; obtain ⟨⟨A5, c5, e5⟩, hk5, hb5, hkm5, ho5⟩ := HAP.out v' w5 hpost; subst e5; have z2 : w5.cell? ⟨L.b .ker, 4 + p, none⟩ = some VV := (zq (a := ⟨L.b .ker, 4 + p, none⟩) (by rw [← eK1]; exact hk5 .ker (by simp) trivial)).trans c43; have z3 : w5.frozen? ⟨L.b .ker, 4 + p, none⟩ = false := (zx (a := ⟨L.b .ker, 4 + p, none⟩) (by rw [← eK1]; exact hk5 .ker (by simp) trivial)).trans c44)
         refine hK.out _ _ ?_ (fun hHeld => ?_)
         ·trivial
         clear hK K
         try simp only [Act.put, p4]
         refine tkH 13 (v := ?_) ?_ ?_; rotate_left 2
         rotate_left
         iterate 1 (rotate_left; focus (intro w hSw; (try dsimp only at hSw); go_simp; with_reducible rfl))
         try simp only [Act.put, p1, p2, p3, p4, p5, p6]
         refine wpAnyH_ready (rs := [14]) (by kernel_rfl) (by simp) ?_
         refine AllReadyH.cons rfl (fun K hK => ?_) ?_
         ·go_simp
          refine hK.out _ _ ?_ (fun hHeld => ?_)
          ·trivial
          clear hK K
          try simp only [Act.put, p4, p5, p6]
          refine wpAnyH_done (by kernel_rfl) ?_ _
          obtain ⟨L', k6, s6, n6⟩ := hkm5
          rw [(holder_row hp32).1, (holder_row hp32).2, eK1] at k6
          have K6 := zh k6
          have S6 := zh s6
          have N6 := zh n6
          have O5 := zh ho5
          have BB5 := zh hb5
          have hz5 := hb5.size
          clear k6 s6 n6 ho5 hb5 hk5
          go_wp2_with fail
          go_roundg (k.tasks.length - (j + 1))
          case measure => omega
          case rel => exact ⟨j + 1, _, L', by omega, by go_num, K6.out, S1.out.trans S6.out, (B2.out.trans BB5.out).setCell (p := ⟨L.b .ker, 4 + p, none⟩) hlowK _, HO3.out.1, MJ.out.trans HO3.out.2, (G2.out.near N6.out (by rw [World.size_setCell]; exact hz5)), by rw [zk _ _ _ _ (fun e => hgK e.symm), O5.out g G2.out]; exact LW.out, HE2.out, zl _⟩
         exact AllReadyH.nil
        exact AllReadyH.nil
       exact AllReadyH.nil
      refine AllReadyH.cons rfl (fun K hK => ?_) ?_
      ·go_simp
       refine hK.out _ _ ?_ (fun hHeld => ?_)
       ·trivial
       clear hK K
       try simp only [Act.put, p4, p5, p6]
       refine wpAnyH_ready (rs := [7]) (by kernel_rfl) (by simp) ?_
       refine AllReadyH.cons rfl (fun K hK => ?_) ?_
       ·go_simp
        refine hK.out _ _ ?_ (fun hHeld => ?_)
        ·trivial
        clear hK K
        try simp only [Act.put, p4, p5, p6]
        refine wpAnyH_ready (rs := [10]) (by kernel_rfl) (by simp) ?_
        refine AllReadyH.cons rfl (fun K hK => ?_) ?_
        ·(refine step_append_list rfl _ _ rfl (by rfl) HLA.out hlen5 (j : Int) ⟨W.heap.size, 0, none⟩ 1 (by rfl) (by exact hnew) ?_; intro v' w5 hpost; obtain ⟨⟨A5, c5, e5⟩, hk5, hb5, hkm5, ho5⟩ := HAP.out v' w5 hpost; subst e5; have z2 : w5.cell? ⟨L.b .ker, 4 + p, none⟩ = some VV := (zq (a := ⟨L.b .ker, 4 + p, none⟩) (by rw [← eK1]; exact hk5 .ker (by simp) trivial)).trans c43; have z3 : w5.frozen? ⟨L.b .ker, 4 + p, none⟩ = false := (zx (a := ⟨L.b .ker, 4 + p, none⟩) (by rw [← eK1]; exact hk5 .ker (by simp) trivial)).trans c44)
         refine hK.out _ _ ?_ (fun hHeld => ?_)
         ·trivial
         clear hK K
         try simp only [Act.put, p4]
         refine tkH 13 (v := ?_) ?_ ?_; rotate_left 2
         rotate_left
         iterate 1 (rotate_left; focus (intro w hSw; (try dsimp only at hSw); go_simp; with_reducible rfl))
         try simp only [Act.put, p1, p2, p3, p4, p5, p6]
         refine wpAnyH_ready (rs := [14]) (by kernel_rfl) (by simp) ?_
         refine AllReadyH.cons rfl (fun K hK => ?_) ?_
         ·go_simp
          refine hK.out _ _ ?_ (fun hHeld => ?_)
          ·trivial
          clear hK K
          try simp only [Act.put, p4, p5, p6]
          refine wpAnyH_done (by kernel_rfl) ?_ _
          obtain ⟨L', k6, s6, n6⟩ := hkm5
          rw [(holder_row hp32).1, (holder_row hp32).2, eK1] at k6
          have K6 := zh k6
          have S6 := zh s6
          have N6 := zh n6
          have O5 := zh ho5
          have BB5 := zh hb5
          have hz5 := hb5.size
          clear k6 s6 n6 ho5 hb5 hk5
          go_wp2_with fail
          go_roundg (k.tasks.length - (j + 1))
          case measure => omega
          case rel => exact ⟨j + 1, _, L', by omega, by go_num, K6.out, S1.out.trans S6.out, (B2.out.trans BB5.out).setCell (p := ⟨L.b .ker, 4 + p, none⟩) hlowK _, HO3.out.1, MJ.out.trans HO3.out.2, (G2.out.near N6.out (by rw [World.size_setCell]; exact hz5)), by rw [zk _ _ _ _ (fun e => hgK e.symm), O5.out g G2.out]; exact LW.out, HE2.out, zl _⟩
         exact AllReadyH.nil
        exact AllReadyH.nil
       exact AllReadyH.nil
      exact AllReadyH.nil
  ·have hge : ¬ (j : Int) < k.tasks.length := by omega
   have EF : Hid (k.anew last = kj) := by
    show _ = _
    rw [HAN.out, EJ.out, List.drop_eq_nil_of_le (by rw [HPL.out.1]; omega)]
    rfl
   go_wp2_with fail
   go_end0
   rw [EF.out]
   exact ⟨rfl, Lj, KJ.out, SJ.out, BJ.out⟩
end Go.Proofs.Ytncbgnpoffolcaa
/-! A tick goes by: the walk of tick. -/
namespace Go.Proofs.Ytncbgnpoffolcaa
open Go.RowKit
section
variable {w : World} {B : Nat} {k : Kn.K} {L : Lay}
theorem kerCells_len : (kerCells k L).size = 39 := by unfold kerCells; simp
theorem kerCells_37 : (kerCells k L)[37]? = some (.int .i64 k.ticks) := by
 unfold kerCells
 simp only [za]
 rw [List.getElem?_append_right (by simp)]
 simp
theorem kerCells_38 : (kerCells k L)[38]? = some (.int .i64 k.ops) := by
 unfold kerCells
 simp only [za]
 rw [List.getElem?_append_right (by simp)]
 simp
theorem kerCells_36 : (kerCells k L)[36]? = some (L.hd .out k.out.length) := by
 unfold kerCells
 simp only [za]
 rw [List.getElem?_append_right (by simp)]
 simp
theorem kerCells_ticks (t : Nat) : kerCells { k with ticks := t } L = (kerCells k L).setIfInBounds 37 (.int .i64 t) := by
 unfold kerCells
 rw [List.setIfInBounds_toArray, List.set_append_right _ _ (by simp)]
 simp
 intro a _
 rfl
theorem kerCells_ops (t : Nat) : kerCells { k with ops := t } L = (kerCells k L).setIfInBounds 38 (.int .i64 t) := by
 unfold kerCells
 rw [List.setIfInBounds_toArray, List.set_append_right _ _ (by simp)]
 simp
 intro a _
 rfl
/-- A number of the kernel's own. -/
theorem KM.putNum {k' : Kn.K} {j : Nat} {v : Value} (h : KM w B k L) (hl : ∀ c : Part, c.live k' L ↔ c.live k L) (hn : L.nils k') (hlen : k'.lst.length = 72) (hfew : k'.sems.length ≤ 8 ∧ k'.owner.length ≤ 8 ∧ k'.size.length ≤ 8)
 (e : kerCells k' L = (kerCells k L).setIfInBounds j v) (hc : ∀ (c : Part) (o : Option Obj), c ≠ .ker → c.live k L → c.cont k L o → c.cont k' L o) : KM (w.setCell ⟨L.b .ker, j, none⟩ v) B k' L :=
 h.one .ker hl hn hlen hfew (fun g hg _ => zk _ _ _ _ hg) (fun _ => by
  show _ = _
  rw [e]
  exact h.ker.put j v) hc trivial
theorem KM.putTicks (h : KM w B k L) (t : Nat) : KM (w.setCell ⟨L.b .ker, 37, none⟩ (.int .i64 t)) B { k with ticks := t } L :=
 h.putNum (fun c => by cases c <;> exact Iff.rfl) h.nil h.lens h.few (kerCells_ticks t) (fun c o hne _ hc => by
  cases c with
  | ker => exact absurd rfl hne
  | _ => exact hc)
theorem KM.putOps (h : KM w B k L) (t : Nat) : KM (w.setCell ⟨L.b .ker, 38, none⟩ (.int .i64 t)) B { k with ops := t } L :=
 h.putNum (fun c => by cases c <;> exact Iff.rfl) h.nil h.lens h.few (kerCells_ops t) (fun c o hne _ hc => by
  cases c with
  | ker => exact absurd rfl hne
  | _ => exact hc)
theorem taskCells_left {i : Nat} (hi : i < k.tasks.length) : taskCells (k.setT i fun t => { t with left := t.left - 1 }) L i = (taskCells k L i).setIfInBounds 8 (.int .i64 ((kT k i).left - 1)) := by
 unfold taskCells
 rw [kT_set hi]
 rfl
end
theorem tickAt_succ (f i : Nat) (k : Kn.K) : Kn.K.tickAt (f + 1) i k = Kn.K.tickAt f (i + 1) (if (kT k i).state ≠ 1 ∨ (kT k i).left = 0 then k else if 0 < (kT k i).left - 1 then k.setT i fun t => { t with left := t.left - 1 } else (k.setT i fun t => { t with left := t.left - 1 }).wake i (if (kT k i).on = none then 0 else 1)) := rfl
theorem on_iface {k : Kn.K} {L : Lay} {x : Nat} (hf : k.sems.length ≤ 8 ∧ k.owner.length ≤ 8 ∧ k.size.length ≤ 8) (h : OnOk k x) : ∃ ty a, (ty = 80 ∨ ty = 83 ∨ ty = 126 ∨ ty = 127) ∧ L.on (some x) = .iface ty (.pointer (some a)) := by
 obtain ⟨f1, f2, f3⟩ := hf
 rcases h with ⟨i, rfl, hi⟩ | ⟨i, rfl, hi⟩ | ⟨i, rfl, hi⟩ | ⟨i, rfl, hi⟩
 ·exact ⟨80, _, .inl rfl, on_sem (by omega)⟩
 ·exact ⟨83, _, .inr (.inl rfl), on_mutex (by omega)⟩
 ·exact ⟨126, _, .inr (.inr (.inl rfl)), on_full (by omega)⟩
 ·exact ⟨127, _, .inr (.inr (.inr rfl)), on_empty (by omega)⟩
set_option maxRecDepth 100000 in
set_option maxHeartbeats 16000000 in
theorem tick_any {w : World} {B : Nat} {k : Kn.K} {L : Lay} (h : KM w B k L) (hk : Kn.Ok k) (hn : 0 < k.tasks.length) (hB : B ≤ w.heap.size) (ht : k.ticks ≤ 1000000) :
 Calls Try.prog 42 #[L.ptr .ker 0] w fun e w' => e = .returned (.tuple #[]) ∧ ∃ L', KM w' B k.tick L' ∧ Sam L L' ∧ Below B w w' := by
 have c37 : w.cell? ⟨L.b .ker, 37, none⟩ = some (.int .i64 k.ticks) := (h.ker.cell 37).trans kerCells_37
 have f37 := h.ker.frozen 37
 have hK0 : KM (w.setCell ⟨L.b .ker, 37, none⟩ (.int .i64 ((k.ticks : Int) + 1))) B { k with ticks := k.ticks + 1 } L := h.putTicks (k.ticks + 1)
 have hO0 := (hk.nums (k' := { k with ticks := k.ticks + 1 }) rfl (fun _ _ => rfl) hk.inv.lens rfl rfl rfl hk.good.sems hk.good.owner hk.good.que hk.good.out).1
 have hlow := h.low .ker trivial
 have hlen := hk.inv.tasks
 have HT : Hid (k.tick = (Kn.K.tickAt k.tasks.length 0 { k with ticks := k.ticks + 1 }).anew (-1)) := rfl
 have hB0 := (zr B w).setCell (p := ⟨L.b .ker, 37, none⟩) hlow (.int .i64 ((k.ticks : Int) + 1))
 have htl : ({ k with ticks := k.ticks + 1 } : Kn.K).tasks.length = k.tasks.length := rfl
 obtain ⟨W, hW⟩ : ∃ W, W = w.setCell ⟨L.b .ker, 37, none⟩ (.int .i64 ((k.ticks : Int) + 1)) := ⟨_, rfl⟩
 rw [← hW] at hK0 hB0
 have h0 := hK0.tasksHead hn
 rw [htl] at h0
 have K0 := zh hK0
 have O0 := zh hO0
 have B0 := zh hB0
 have HW := zh hW
 have hzW := hB0.size
 generalize ({ k with ticks := k.ticks + 1 } : Kn.K) = k0 at *
 have TL0 := zh htl
 clear h hk hK0 hO0 hB0 hW htl
 unfold Lay.ptr
 go_enter Try.func42, Try.ntmps42
 go_upto_region 1 with fail
 rw [← HW.out]
 clear c37 f37
 go_wp2_with fail
 go_loopg [17] k.tasks.length (fun kk iv wr => ∃ (j : Nat) (kj : Kn.K) (Lj : Lay), j ≤ k.tasks.length ∧ iv = .int .i64 j ∧ KM wr B kj Lj ∧ Sam L Lj ∧ Below B w wr ∧ Kn.Ok kj ∧ kj.tasks.length = k.tasks.length ∧ Kn.K.tickAt k.tasks.length 0 k0 = Kn.K.tickAt (k.tasks.length - j) j kj ∧ k.tasks.length - j ≤ kk)
 case atStart => exact ⟨0, k0, L, Nat.zero_le _, rfl, K0.out, Sam.refl _, B0.out, O0.out, TL0.out, rfl, by omega⟩
 case round =>
  obtain ⟨j, kj, Lj, hj, rfl, hKj, hSj, hBj, hOj, htj, hEj, hkk⟩ := hrel
  have KJ := zh hKj
  have SJ := zh hSj
  have BJ := zh hBj
  have OJ := zh hOj
  have EJ := zh hEj
  have hzj := hBj.size
  have hBr : B ≤ wr.heap.size := by omega
  have eK : Lj.b .ker = L.b .ker := hSj .ker rfl
  clear hKj hSj hBj hOj hEj
  by_cases hlt : j < k.tasks.length
  ·have hlt' : (j : Int) < k.tasks.length := by omega
   have hjt : j < kj.tasks.length := by omega
   have eA : Lj.b .ta = L.b .ta := SJ.out .ta rfl
   have eT : Lj.b (.t j) = L.b (.t j) := SJ.out (.t j) rfl
   have a1 := KJ.out.taskPtr hjt
   have wt := KJ.out.task hjt
   rw [eA, eT] at a1
   rw [eT] at wt
   have t3 : wr.cell? ⟨L.b (.t j), 3, none⟩ = some (.int .i64 (kT kj j).state) := wt.cell 3
   have t7 : wr.cell? ⟨L.b (.t j), 7, none⟩ = some (Lj.on (kT kj j).on) := wt.cell 7
   have t8 : wr.cell? ⟨L.b (.t j), 8, none⟩ = some (.int .i64 (kT kj j).left) := wt.cell 8
   have f8 := wt.frozen 8
   have hlf := (OJ.out.good.task j hjt).left
   rw [← kT_ti] at hlf
   have hst' := OJ.out.inv.state j hjt
   rw [← kT_ti] at hst'
   have HST : Hid (Kn.K.tickAt k.tasks.length 0 k0 = Kn.K.tickAt (k.tasks.length - (j + 1)) (j + 1) (if (kT kj j).state ≠ 1 ∨ (kT kj j).left = 0 then kj else if 0 < (kT kj j).left - 1 then kj.setT j fun t => { t with left := t.left - 1 } else (kj.setT j fun t => { t with left := t.left - 1 }).wake j (if (kT kj j).on = none then 0 else 1))) := by
    show _ = _
    rw [EJ.out, show k.tasks.length - j = (k.tasks.length - (j + 1)) + 1 by omega, tickAt_succ]
   clear EJ wt
   by_cases hs1 : (kT kj j).state = 1
   ·by_cases hl0 : (kT kj j).left = 0
    ·have HE := HST.out
     rw [if_pos (.inr hl0)] at HE
     have HEE := zh HE
     rw [hs1] at t3
     rw [hl0] at t8
     clear HE HST hs1 hl0 hst' hlf
     go_wp2_with fail
     go_roundg (k.tasks.length - (j + 1))
     case measure => omega
     case rel => exact ⟨j + 1, kj, Lj, by omega, by go_num, KJ.out, SJ.out, BJ.out, OJ.out, htj, HEE.out, zl _⟩
    ·have HE := HST.out
     rw [if_neg (by rintro (q | q); exact q hs1; exact hl0 q)] at HE
     rw [hs1] at t3
     have HEE := zh HE
     have hO1 := (OJ.out.task (k' := kj.setT j fun t => { t with left := t.left - 1 }) (f := fun t => { t with left := t.left - 1 }) hjt rfl rfl rfl rfl rfl rfl rfl ⟨rfl, rfl, rfl⟩ (by
      have g := OJ.out.good.task j hjt
      have hne : (kj.ti j).left ≠ 0 := hl0
      have := g.left
      exact ⟨g.base, by show (0 : Int) ≤ (kj.ti j).left - 1 ∧ (kj.ti j).left - 1 ≤ 1000; omega, g.few, g.fits, g.loops, g.loop, g.place⟩)).1
     have hK1 := KJ.out.putTask (j := 8) (v := .int .i64 ((kT kj j).left - 1)) (f := fun t => { t with left := t.left - 1 }) hjt rfl rfl (taskCells_left hjt)
     have hk1l : (kj.setT j fun t => { t with left := t.left - 1 }).tasks.length = kj.tasks.length := setT_len
     have hon1 : (kT (kj.setT j fun t => { t with left := t.left - 1 }) j).on = (kT kj j).on := by rw [kT_set hjt]
     have hs1' : ((kj.setT j fun t => { t with left := t.left - 1 }).ti j).state = 1 := by
      rw [← kT_ti, kT_set hjt]
      exact hs1
     have hlowT := KJ.out.low (.t j) hjt
     have hon := OJ.out.fine.on j
     have hfew := KJ.out.few
     rw [eT] at hK1 hlowT
     have hB1 := BJ.out.setCell (p := ⟨L.b (.t j), 8, none⟩) hlowT (.int .i64 ((kT kj j).left - 1))
     have c8 := World.cell?_setCell_same wr ⟨L.b (.t j), 8, none⟩ (.int .i64 ((kT kj j).left - 1)) (by rw [t8])
     have c7 : (wr.setCell ⟨L.b (.t j), 8, none⟩ (.int .i64 ((kT kj j).left - 1))).cell? ⟨L.b (.t j), 7, none⟩ = some (Lj.on (kT kj j).on) := (World.cell?_setCell_other wr ⟨L.b (.t j), 8, none⟩ ⟨L.b (.t j), 7, none⟩ _ (by intro e; injection e with _ e; cases e)).trans t7
     obtain ⟨W1, hW1⟩ : ∃ W1, W1 = wr.setCell ⟨L.b (.t j), 8, none⟩ (.int .i64 ((kT kj j).left - 1)) := ⟨_, rfl⟩
     rw [← hW1] at hK1 hB1 c7 c8
     have hzW1 : wr.heap.size = W1.heap.size := by rw [hW1, World.size_setCell]
     have K1 := zh hK1
     have O1 := zh hO1
     have B1 := zh hB1
     have HW1 := zh hW1
     have hl2 : 0 ≤ (kT kj j).left - 1 ∧ (kT kj j).left - 1 ≤ 1000 := by omega
     have hwl : IntKind.i64.wrap ((kT kj j).left - 1) = (kT kj j).left - 1 := by rw [IntKind.wrap_i64]; omega
     have hl0' : ¬ (kT kj j).left = 0 := hl0
     clear HE HST hs1 hst' hK1 hO1 hB1 hW1 hlowT t7
     by_cases hl1 : 0 < (kT kj j).left - 1
     ·have HE2 := HEE.out
      rw [if_pos hl1] at HE2
      have HEF := zh HE2
      have hd1 : decide (0 < (kT kj j).left - 1) = true := zu hl1
      clear HE2 HEE c7 hl0
      generalize (kT kj j).left = q8 at *
      go_upto_region 6 with fail
      rw [← HW1.out]
      clear t8 f8 t3
      go_wp2_with fail
      go_roundg (k.tasks.length - (j + 1))
      case measure => omega
      case rel => exact ⟨j + 1, _, Lj, by omega, by go_num, K1.out, SJ.out, B1.out, O1.out, hk1l.trans htj, HEF.out, zl _⟩
     ·have hd1 : decide (0 < (kT kj j).left - 1) = false := decide_eq_false hl1
      rcases hq : (kT kj j).on with _ | x
      ·rw [hq] at c7
       have c7' : W1.cell? ⟨L.b (.t j), 7, none⟩ = some .nilIface := c7
       have HE2 := HEE.out
       rw [if_neg hl1, if_pos hq] at HE2
       have HEF := zh HE2
       have HWK := zh (wake_any (m := j) 0 K1.out O1.out.fine (by decide) (by rw [hk1l]; exact hjt) (by omega) (fun x hx => by rw [hon1, hq] at hx; cases hx))
       have HO2 := zh (O1.out.wake (i := j) (a := 0) (by rw [hk1l]; exact hjt) hs1')
       unfold Lay.ptr at HWK
       rw [eK] at HWK
       clear HE2 HEE c7 hl0 hq hon1 hs1' hon hfew
       generalize (kT kj j).left = q8 at *
       go_upto_region 6 with fail
       rw [← HW1.out]
       clear t8 f8 t3
       go_wp2_with fail
       refine HWK.out.mono ?_
       rintro e w5 ⟨rfl, L5, k5, s5, b5⟩
       have K5 := zh k5
       have S5 := zh s5
       have B5 := zh b5
       clear k5 s5 b5
       go_wp2_with fail
       go_roundg (k.tasks.length - (j + 1))
       case measure => omega
       case rel => exact ⟨j + 1, _, L5, by omega, by go_num, K5.out, SJ.out.trans S5.out, B1.out.trans B5.out, HO2.out.1, HO2.out.2.tasks.trans (hk1l.trans htj), HEF.out, zl _⟩
      ·obtain ⟨ty, ad, hty, eon⟩ := on_iface (L := Lj) hfew (hon x hjt hq)
       rw [hq, eon] at c7
       have HE2 := HEE.out
       rw [if_neg hl1, if_neg (by rw [hq]; intro e; cases e)] at HE2
       have HEF := zh HE2
       have HWK := zh (wake_any (m := j) 1 K1.out O1.out.fine (by decide) (by rw [hk1l]; exact hjt) (by omega) (fun x hx => O1.out.fine.on j x (by rw [hk1l]; exact hjt) hx))
       have HO2 := zh (O1.out.wake (i := j) (a := 1) (by rw [hk1l]; exact hjt) hs1')
       unfold Lay.ptr at HWK
       rw [eK] at HWK
       clear HE2 HEE hl0 hq hon1 hs1' hon hfew eon hty
       generalize (kT kj j).left = q8 at *
       go_upto_region 6 with fail
       rw [← HW1.out]
       clear t8 f8 t3
       go_wp2_with fail
       refine HWK.out.mono ?_
       rintro e w5 ⟨rfl, L5, k5, s5, b5⟩
       have K5 := zh k5
       have S5 := zh s5
       have B5 := zh b5
       clear k5 s5 b5
       go_wp2_with fail
       go_roundg (k.tasks.length - (j + 1))
       case measure => omega
       case rel => exact ⟨j + 1, _, L5, by omega, by go_num, K5.out, SJ.out.trans S5.out, B1.out.trans B5.out, HO2.out.1, HO2.out.2.tasks.trans (hk1l.trans htj), HEF.out, zl _⟩
   ·have HE := HST.out
    rw [if_pos (.inl hs1)] at HE
    have HEE := zh HE
    have hsb : ((kT kj j).state == 1) = false := by simpa using hs1
    clear HE HST hs1 hst' hlf
    generalize (kT kj j).state = q1 at *
    have hsb2 : ¬ q1 = 1 := by simpa using hsb
    go_wp2_with fail
    go_roundg (k.tasks.length - (j + 1))
    case measure => omega
    case rel => exact ⟨j + 1, kj, Lj, by omega, by go_num, KJ.out, SJ.out, BJ.out, OJ.out, htj, HEE.out, zl _⟩
  ·have hge : ¬ (j : Int) < k.tasks.length := by omega
   have EF : Hid (k.tick = kj.anew (-1)) := by
    show _ = _
    rw [HT.out, EJ.out, show k.tasks.length - j = 0 by omega]
    rfl
   have HAN := zh (anew_any (-1) KJ.out OJ.out (by omega) hBr)
   unfold Lay.ptr at HAN
   rw [eK] at HAN
   go_wp2_with fail
   refine HAN.out.mono ?_
   rintro e w5 ⟨rfl, L5, k5, s5, b5⟩
   have K5 := zh k5
   have S5 := zh s5
   have B5 := zh b5
   clear k5 s5 b5
   go_wp2_with fail
   go_end0
   rw [EF.out]
   exact ⟨rfl, L5, K5.out, SJ.out.trans S5.out, BJ.out.trans B5.out⟩
end Go.Proofs.Ytncbgnpoffolcaa
