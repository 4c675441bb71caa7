/-
  A line's words behind the head: the walk of the document's line, second part.
-/
import Derived.Test.YtadcfedjmofjjaaDoorD3
namespace Go.Proofs.YtadcfedjmofjjaaDoor
open Go.RowKit
def NameNot (wd : List UInt8) (k : Nat) : Prop := ∀ j (h : j < 15), j < k → (shapes[j]'h).name ≠ wd
theorem NameNot.succ {wd : List UInt8} {k : Nat} (hk : k < 15) (h : NameNot wd k) (hn : (shapes[k]'hk).name ≠ wd) : NameNot wd (k + 1) := by
  intro j hj hjk
  by_cases e : j = k
  · subst e; exact hn
  · exact h j hj (by omega)
theorem nameNot_kind {wd : List UInt8} {n : Nat} (h : NameNot wd 15) : Tk.kindOf wd n = none := kind_none fun j hj h1 h2 => h j hj h1 h2.1
section
variable {w : World} {P0 p q B : Nat} {t : Tk.Table} {wd : List UInt8} {ws : List (List UInt8)} {A : Option Addr} {n c : Nat}
set_option maxRecDepth 100000 in
set_option maxHeartbeats 8000000 in
theorem dtask (h : DMem w p q B t 3) (hB : B ≤ w.heap.size) (hP : P0 ≤ p ∧ P0 ≤ q) (hr : Reads w w.heap.size 1 A n ((wd :: ws).map strV)) (bd : t.tasks.length ≤ 1000000) :
    Calls Tryd.prog 25 #[.pointer (some ⟨p, 0, none⟩), .slice A n c, .bool false, .pointer (some ⟨q, 0, none⟩)] w (DPost w P0 p q B t 3 false wd ws) := by
  obtain ⟨hpB, hqB, V1, V2, V3, hw, hq, ht⟩ := h
  have k0 := hq.cell 0
  have hqz := hq.lt
  have hpz := hw.lt
  have hpq : p ≠ q := Whole.kind hw hq (by decide)
  simp at k0
  have hr0 := hr
  obtain ⟨ad, rfl, had, hc⟩ := hr.head
  have hn0 : n = ws.length + 1 := by have := hr.1; simp at this; omega
  subst hn0
  have hn1 : (0 : Int) < ((ws.length + 1 : Nat) : Int) := by omega
  have hn2 : 0 < ws.length + 1 := by omega
  obtain ⟨S, hS⟩ : ∃ S : ByteArray, S = ⟨wd.toArray⟩ := ⟨_, rfl⟩
  have hc' : w.cell? ad = some (.string S) := by rw [hc, hS]; rfl
  have hSl : S.toList = wd := by rw [ByteArray.toList_eq, hS]
  clear hr hc hS
  by_cases hx : wd = [116, 97, 115, 107]
  · have e1 : (S.toList != [116, 97, 115, 107]) = false := by rw [hSl, hx]; rfl
    have e2 : S.toList = [116, 97, 115, 107] := by rw [hSl, hx]
    have e3 : (S.toList == [116, 97, 115, 107]) = true := by rw [hSl, hx]; rfl
    by_cases h1 : ws.length = 1
    · obtain ⟨x, rfl⟩ := List.length_eq_one_iff.1 h1
      obtain ⟨ad', u, ea, _, hu, hcu⟩ := hr0.at_ (k := 1) (by simp)
      injection ea with ea
      subst ea
      simp at hu
      subst hu
      have hcx : w.cell? ⟨ad.block, ad.off + 1, none⟩ = some (.string ⟨x.toArray⟩) := by rw [← add_pos _ 1 (by decide), hcu]; rfl
      obtain ⟨l, el, htk⟩ := ht.tasks
      have hll : l.length ≤ 1000000 := by rw [← el, List.length_map] at bd; exact bd
      have LM := Lib.hid el
      obtain ⟨i0, hi, hz0, hz1, hz2⟩ := info_parts info32
      have kp := hw.cell 0
      have zp := hw.frozen 0
      simp at kp
      have hop : V1.ownBlock ≠ some p := row_whole_ne htk.row hw (by decide)
      have hoq : V1.ownBlock ≠ some q := row_whole_ne htk.row hq (by decide)
      have HX : Hid (wd = [116, 97, 115, 107]) := hx
      have HW := Lib.hid hw
      have HQ := Lib.hid hq
      have HT := Lib.hid ht
      have HTK := Lib.hid htk
      clear hr0 hcu hSl hx h1 el hw hq ht
      go_enter Tryd.func25, Tryd.ntmps25
      go_wp2_with fail
      refine (rnumber_any _ _).mono ?_
      rintro e w1 ⟨rfl, ew⟩
      have ew' := ew.symm
      subst ew'
      rw [bytesOf_str]
      rcases hnx : Tk.num x with _ | m
      · have E : Hid (lineT t 3 false wd [x] = none) := by show _ = _; unfold lineT; simp only [Tk.nums, hnx]
        unfold numAns
        dsimp only
        clear hnx
        go_wp2_with fail
        go_ret
        unfold DPost
        rw [E.out]
        exact ⟨Fr.refl _ _ _ _ _, rfl⟩
      · have E : Hid (lineT t 3 false wd [x] = some ({ t with tasks := t.tasks ++ [⟨m, []⟩] }, 3)) := by
          show _ = _
          unfold lineT
          simp only [Tk.nums, hnx]
          unfold doT pushT
          rw [if_neg (by decide), if_pos rfl, if_pos ⟨HX.out, rfl⟩]
          rfl
        unfold numAns
        dsimp only
        clear hnx
        go_wp2_with (at_builtin; refine wpList_append_own _ rfl _ _ _ rfl B 32 i0 _ 2 32 Tryd.underlying23 hi hz0 hz1 hz2 rfl (by decide) V1 l.length (l.flatMap taskC) rfl (htk.row.alloc _) ⟨w.heap.size, 0, none⟩ 1 1 [.int .i64 m, .slice none 0 0] rfl rfl (World.news_of_block (cs := #[.int .i64 m, .slice none 0 0]) (t := 32) (fr := (0, 0)) (heap_alloc_new _ _)) (by simp [Value.oneCell']) (by unfold maxLen; omega) (by omega) (by simp; omega) ?_)
        intro v' w5 own5 hgrow _
        have yw := Whole.grown (HW.out.alloc (.cells #[.int .i64 m, .slice none 0 0] 32)) hgrow hop
        have yq := Whole.grown (HQ.out.alloc (.cells #[.int .i64 m, .slice none 0 0] 32)) hgrow hoq
        have y1 := yw.cell 0
        have y2 := yw.frozen 0
        simp at y1
        obtain ⟨a9, c9, ev', _, _⟩ := row_slice own5
        subst ev'
        have hs5 : ∀ k', k' < w.heap.size → (w.alloc (.cells #[.int .i64 m, .slice none 0 0] 32)).heap[k']? = w.heap[k']? := fun k' hk' => Below.heap_alloc w _ k' hk'
        have hz5 : w.heap.size ≤ (w.alloc (.cells #[.int .i64 m, .slice none 0 0] 32)).heap.size := by simp
        have hb5 := ((Fr.refl P0 p q B w).alloc (by omega) hB (.cells #[.int .i64 m, .slice none 0 0] 32)).grown hgrow (by simp; omega) (by simp; omega) (fun k' hk' => by have := (htk.row.lt k' hk').1; omega)
        have htab : Tab w5 B (.slice a9 (l.length + 1) c9) V2 V3 { t with tasks := t.tasks ++ [⟨m, []⟩] } := by
          refine ⟨⟨l ++ [(⟨m, []⟩, .slice none 0 0)], by simp [LM.out], ?_⟩, ?_, ?_⟩
          · exact htk.push own5 hgrow hs5 hz5
          · exact row_grown HT.out.sems hgrow hs5 hz5 (fun k' hk' e => row_kind HT.out.sems htk.row (by decide) k' hk' e)
          · exact row_grown HT.out.queues hgrow hs5 hz5 (fun k' hk' e => row_kind HT.out.queues htk.row (by decide) k' hk' e)
        clear hgrow own5
        go_wp2_with fail
        go_ret
        unfold DPost
        rw [E.out]
        exact ⟨hb5.setp hP.1 _, rfl, hpB, hqB, _, V2, V3, yw.put 0 _, yq.far (fun e => hpq e.symm) _, htab.far (p := ⟨p, 0, none⟩) hpB _⟩
    · have E : Hid (lineT t 3 false wd ws = none) := by
        show _ = _
        unfold lineT
        rcases hns : Tk.nums ws with _ | ns
        · rfl
        · dsimp only
          unfold doT pushT
          rw [if_neg (by decide), if_pos rfl, if_neg (fun h => h1 (by rw [← nums_len hns]; exact h.2))]
          rfl
      have f1 : (((ws.length : Int) + 1) != 2) = true := by simp; omega
      have f2 : (((ws.length : Int) + 1) == 2) = false := by simp; omega
      have f3 : ¬ ((ws.length : Int) + 1) = 2 := by omega
      have f4 : ¬ (ws.length : Int) = 1 := by omega
      clear hr0 hSl hx h1
      go_enter Tryd.func25, Tryd.ntmps25
      go_wp2_with fail
      go_ret
      unfold DPost
      rw [E.out]
      exact ⟨Fr.refl _ _ _ _ _, rfl⟩
  · have E : Hid (lineT t 3 false wd ws = none) := by
      show _ = _
      unfold lineT
      rcases hns : Tk.nums ws with _ | ns
      · rfl
      · dsimp only
        unfold doT pushT
        rw [if_neg (by decide), if_pos rfl, if_neg (fun h => hx h.1)]
        rfl
    have e1 : (S.toList != [116, 97, 115, 107]) = true := by rw [hSl]; exact bne_iff_ne.2 hx
    have e2 : ¬ S.toList = [116, 97, 115, 107] := by rw [hSl]; exact hx
    have e3 : (S.toList == [116, 97, 115, 107]) = false := by rw [hSl]; exact beq_eq_false_iff_ne.2 hx
    clear hr0 hSl hx
    go_enter Tryd.func25, Tryd.ntmps25
    go_wp2_with fail
    go_ret
    unfold DPost
    rw [E.out]
    exact ⟨Fr.refl _ _ _ _ _, rfl⟩
set_option maxRecDepth 100000 in
set_option maxHeartbeats 16000000 in
theorem dop (h : DMem w p q B t 3) (hB : B ≤ w.heap.size) (hP : P0 ≤ p ∧ P0 ≤ q) (hr : Reads w w.heap.size 1 A n ((wd :: ws).map strV)) (hnc : n ≤ c) (hl : ws.length ≤ 1000000) (bd : Bd t 1000000) :
    Calls Tryd.prog 25 #[.pointer (some ⟨p, 0, none⟩), .slice A n c, .bool true, .pointer (some ⟨q, 0, none⟩)] w (DPost w P0 p q B t 3 true wd ws) := by
  obtain ⟨hpB, hqB, V1, V2, V3, hw, hq, ht⟩ := h
  have k0 := hq.cell 0
  have hqz := hq.lt
  have hpz := hw.lt
  have hpq : p ≠ q := Whole.kind hw hq (by decide)
  simp at k0
  have hr0 := hr
  obtain ⟨ad, rfl, had, hc⟩ := hr.head
  have hn0 : n = ws.length + 1 := by have := hr.1; simp at this; omega
  subst hn0
  have hn1 : (0 : Int) < ((ws.length + 1 : Nat) : Int) := by omega
  have hn2 : 0 < ws.length + 1 := by omega
  obtain ⟨S, hS⟩ : ∃ S : ByteArray, S = ⟨wd.toArray⟩ := ⟨_, rfl⟩
  have hc' : w.cell? ad = some (.string S) := by rw [hc, hS]; rfl
  have hSl : S.toList = wd := by rw [ByteArray.toList_eq, hS]
  have HSL := Lib.hid hSl
  have HR := Lib.hid hr
  have HW := Lib.hid hw
  have HQ := Lib.hid hq
  have HT := Lib.hid ht
  have HBD := Lib.hid bd
  have hsl := run_tail49 ad (ws.length + 1) c (by omega)
  have htl : Hid (Reads w w.heap.size 1 (tailA ad c) ws.length (ws.map strV)) := Reads.tail (HR.out) hnc
  generalize tailA ad c = TA at *
  clear hr hr0 hc hS hw hq ht hSl bd
  go_enter Tryd.func25, Tryd.ntmps25
  go_wp2_with fail
  go_loop [13] (fun v => ∃ k : Nat, k ≤ 15 ∧ v = .int .i64 k ∧ NameNot wd k) (fun v => 15 - (intOf v).toNat)
  case atStart => exact ⟨0, by omega, rfl, fun j _ hj => by omega⟩
  case round =>
    obtain ⟨k, hk, rfl, hny⟩ := hrel
    by_cases hlt : k < 15
    · have hlt' : (k : Int) < 15 := by omega
      have hpl := parts_le k hlt
      have FND := Lib.hid (fun h1 => kind_found (wd := wd) (n := (shapes[k]'hlt).parts) hlt (fun j hj hjk h => hny j hj hjk h.1) h1 rfl)
      have NYS := Lib.hid (fun h1 => NameNot.succ hlt hny h1)
      have KP := Lib.hid (fun (m : Nat) h1 h2 => kind_parts (wd := wd) (n := m) hlt h1 h2)
      clear hny
      go_wp2_with fail
      refine (rname_any k hlt _).mono ?_
      rintro e w' ⟨rfl, rfl⟩
      generalize shapes[k]'hlt = SH at *
      obtain ⟨nm, parts, low, ma, mb⟩ := SH
      obtain ⟨N, hN⟩ : ∃ N : ByteArray, N = ⟨nm.toArray⟩ := ⟨_, rfl⟩
      have hNl : N.toList = nm := by rw [ByteArray.toList_eq, hN]
      have hV : strV nm = .string N := by rw [hN]; rfl
      dsimp only
      rw [hV]
      clear hV hN
      by_cases h1 : nm = wd
      · have e1 : (N.toList != S.toList) = false := by rw [hNl, HSL.out, h1]; simp
        have e2 : N.toList = S.toList := by rw [hNl, HSL.out, h1]
        have e3 : (N.toList == S.toList) = true := by rw [hNl, HSL.out, h1]; simp
        have H1 : Hid (nm = wd) := h1
        clear h1 hNl
        go_wp2_with fail
        refine (all_any ws w TA (c - 1) htl.out hl).mono ?_
        rintro e w2 ⟨b2, hnum⟩
        have hz2 := b2.size
        rcases hns : Tk.nums ws with _ | ns
        · rw [hns] at hnum
          have hnum' : e = .returned (.tuple #[.slice none 0 0, .bool false]) := hnum
          subst hnum'
          have E : Hid (lineT t 3 true wd ws = none) := by show _ = _; unfold lineT; rw [hns]
          clear hns hnum hsl
          go_wp2_with fail
          go_ret
          unfold DPost
          rw [E.out]
          exact ⟨Fr.of b2 (by omega) hB, rfl⟩
        · rw [hns] at hnum
          have hnum' : ∃ v, e = .returned (.tuple #[v, .bool true]) ∧ w2.ownsRow w.heap.size 3 1 v ns.length (intV ns) := hnum
          obtain ⟨lv, rfl, own2⟩ := hnum'
          obtain ⟨A3, c3, rfl, _, _⟩ := row_slice own2
          have EL : Hid (lineT t 3 true wd ws = (opT t wd ns).map (·, 3)) := by show _ = _; unfold lineT; rw [hns]; rfl
          clear hns hnum hsl
          by_cases h2 : parts = ns.length
          · by_cases h3 : t.tasks = []
            · obtain ⟨A1, n1, hV1, _, _⟩ := HT.out.len
              subst hV1
              have kp := ((HW.out.same (b2.block p hpz)).cell 0)
              simp at kp
              have E : Hid (lineT t 3 true wd ws = none) := by show _ = _; rw [EL.out]; unfold opT; rw [if_pos h3]; rfl
              rw [h3] at kp
              subst h2
              clear h3 EL
              go_wp2_with fail
              go_ret
              unfold DPost
              rw [E.out]
              exact ⟨Fr.of b2 (by omega) hB, rfl⟩
            · obtain ⟨l, x, hv, g, c1, htk0, htt, hV1⟩ := HT.out.last h3
              subst hV1
              have kps := ((HW.out.same (b2.block p hpz)).cell 0)
              simp at kps
              have htl2 : t.tasks.length = l.length + 1 := by rw [htt]; simp
              have hll : l.length ≤ 1000000 := by have := HBD.out.1; omega
              have hxo : x.ops.length ≤ 1000000 := HBD.out.2 x (by rw [htt]; simp)
              have hE : lineT t 3 true wd ws = some ({ t with tasks := l.map Prod.fst ++ [{ x with ops := x.ops ++ [⟨k, ns.getD 0 0, ns.getD 1 0⟩] }] }, 3) := by
                rw [EL.out]
                unfold opT
                rw [if_neg h3, ← h2, FND.out H1.out, htt]
                show some _ = some _
                rw [addOp_last]
              have hns3 : ns.length = 0 ∨ ns.length = 1 ∨ ns.length = 2 := by
                have : parts ≤ 2 := hpl
                omega
              subst h2
              have HTK := Lib.hid htk0
              clear h3 htk0 htt EL htl2
              rcases hns3 with h0 | h0 | h0
              · obtain rfl : ns = [] := List.eq_nil_of_length_eq_zero h0
                have E : Hid (lineT t 3 true wd ws = some ({ t with tasks := l.map Prod.fst ++ [{ x with ops := x.ops ++ [⟨k, 0, 0⟩] }] }, 3)) := hE
                clear hE h0
                have ib0 : (0 : Int) ≤ (l.length : Int) := by omega
                have ib1 : (l.length : Int) < (l.length : Int) + 1 := by omega
                have ib2 : (l.length : Int) < ((l.length + 1 : Nat) : Int) := by omega
                have ib3 : l.length < l.length + 1 := by omega
                have hgB := (HTK.out.row.lt g rfl).1
                have hgw := (HTK.out.row.lt g rfl).2
                have hpz2 : p < w2.heap.size := by omega
                go_wp2_with fail
                go_quiet (fail)
                obtain ⟨wy, hwy⟩ : ∃ wy, wy = (w2.alloc (.cells #[.int .i64 k, .int .i64 0, .int .i64 0] 34)).drewN nq := ⟨_, rfl⟩
                rw [← hwy]
                have hwo : Whole wy w2.heap.size 34 #[.int .i64 k, .int .i64 0, .int .i64 0] := by rw [hwy]; exact (Whole.made w2 34 _).drewN _
                have hby : Below w.heap.size w wy := by rw [hwy]; exact (b2.alloc hz2 _).drewN' _
                have hzy : w2.heap.size < wy.heap.size := hwo.lt
                clear hwy
                have o0 := hwo.cell 0
                have o1 := hwo.cell 1
                have o2 := hwo.cell 2
                simp at o0 o1 o2
                have hwp := HW.out.same (hby.block p hpz)
                have hwq := HQ.out.same (hby.block q hqz)
                have htk := HTK.out.same (fun j _ hj => hby.block j hj)
                have hto := htk.ops (x, hv) (by simp)
                have hrow := htk.row
                rw [List.length_append, List.length_singleton] at hrow
                obtain ⟨c5, z5⟩ := last_cell hrow
                obtain ⟨i0, hi, hz0, hz1', hz2'⟩ := info_parts info34
                have hop : hv.ownBlock ≠ some p := fun e => by have := (hto.lt p e).1; omega
                have hoq : hv.ownBlock ≠ some q := fun e => by have := (hto.lt q e).1; omega
                have hog : hv.ownBlock ≠ some g := fun e => row_kind hto hrow (by decide) g e rfl
                have hob : hv.ownBlock ≠ some w2.heap.size := fun e => by have := ((HTK.out.ops (x, hv) (by simp)).lt _ e).2; omega
                have HTO := Lib.hid hto
                have HROW := Lib.hid hrow
                have hpg : p ≠ g := by omega
                have hqg : q ≠ g := by omega
                have hbg : w2.heap.size ≠ g := by omega
                have hgy : g < wy.heap.size := by omega
                have hgy2 : ¬ g = wy.heap.size := by omega
                have hbg' : g ≠ w2.heap.size := by omega
                clear hrow hto
                go_wp2_with fail
                refine wp_region_held_drew (S := fun w' => w'.cell? ⟨w2.heap.size, 0, none⟩ = some (.int .i64 k) ∧ w'.cell? ⟨w2.heap.size, 1, none⟩ = some (.int .i64 0) ∧ w'.cell? ⟨w2.heap.size, 2, none⟩ = some (.int .i64 0)) (by kernel_rfl) ?_ (fun hHeld => ?_)
                · (try dsimp only)
                  go_keep
                refine wpAnyH_take (i := 0) (v := ?_) rfl (by kernel_rfl) (by kernel_rfl) (by kernel_rfl) (fun _ _ _ h => h) (Or.inl ⟨by rfl, ?_⟩) (by assumption) ?_
                rotate_left
                · intro w hSw
                  (try dsimp only at hSw)
                  go_simp
                  with_reducible rfl
                try simp only [Act.put, List.setIfInBounds_toArray]
                refine wpAnyH_take (i := 1) (v := ?_) rfl (by kernel_rfl) (by kernel_rfl) (by kernel_rfl) (fun _ _ _ h => h) (Or.inl ⟨by rfl, ?_⟩) (by assumption) ?_
                rotate_left
                · intro w hSw
                  (try dsimp only at hSw)
                  go_simp
                  with_reducible rfl
                try simp only [Act.put]
                refine wpAnyH_take (i := 2) (v := ?_) rfl (by kernel_rfl) (by kernel_rfl) (by kernel_rfl) (fun _ _ _ h => h) (Or.inl ⟨by rfl, ?_⟩) (by assumption) ?_
                rotate_left
                · intro w hSw
                  (try dsimp only at hSw)
                  go_simp
                  with_reducible rfl
                try simp only [Act.put]
                refine wpAnyH_take (i := 3) (v := ?_) rfl (by kernel_rfl) (by kernel_rfl) (by kernel_rfl) (fun _ _ _ h => h) (Or.inl ⟨by rfl, ?_⟩) (by assumption) ?_
                rotate_left
                · intro w hSw
                  (try dsimp only at hSw)
                  go_simp
                  with_reducible rfl
                try simp only [Act.put]
                refine wpAnyH_take (i := 5) (v := ?_) rfl (by kernel_rfl) (by kernel_rfl) (by kernel_rfl) (fun _ _ _ h => h) (Or.inl ⟨by rfl, ?_⟩) (by assumption) ?_
                rotate_left
                · intro w hSw
                  (try dsimp only at hSw)
                  go_simp
                  with_reducible rfl
                try simp only [Act.put]
                refine wpAnyH_ready (rs := [4, 6]) (by kernel_rfl) (by simp) ?_
                refine AllReadyH.cons rfl (fun K hK => ?_) ?_
                · go_simp
                  refine hK.out _ _ ?_ (fun hHeld => ?_)
                  · (try dsimp only)
                    go_keep
                  clear hK K
                  try simp only [Act.put, List.setIfInBounds_toArray, List.set_cons_zero, List.set_cons_succ]
                  refine wpAnyH_ready (rs := [6]) (by kernel_rfl) (by simp) ?_
                  refine AllReadyH.cons rfl (fun K hK => ?_) ?_
                  · go_simp
                    refine hK.out _ _ ?_ (fun hHeld => ?_)
                    · (try dsimp only)
                      go_keep
                    clear hK K
                    try simp only [Act.put, List.setIfInBounds_toArray, List.set_cons_zero, List.set_cons_succ]
                    refine wpAnyH_ready (rs := [7]) (by kernel_rfl) (by simp) ?_
                    refine AllReadyH.cons rfl (fun K hK => ?_) ?_
                    · (refine step_append_lies _ (by rfl) _ _ _ (by rfl) B 34 i0 _ 3 24 Tryd.underlying30 hi hz0 hz1' hz2' rfl (by omega) hv x.ops.length (opsC x.ops) (by rfl) ((HTO.out.alloc _).drew) ⟨wy.heap.size, 0, none⟩ 1 1 [.int .i64 k, .int .i64 0, .int .i64 0] (by rfl) (by rfl) (World.news_of_block (cs := #[.int .i64 k, .int .i64 0, .int .i64 0]) (t := 34) (fr := (0, 0)) (heap_alloc_new _ _)) (by simp [Value.oneCell']) (by omega) (by unfold maxLen; omega) (by omega) (by simp; omega) (wy.heap.size + 1) (by simp) ?_; intro gg cap w5 hown1 hgrow hat hlt1; obtain ⟨y2, y3⟩ := last_cell (row_grown HROW.out hgrow (fun k hk => Below.heap_alloc wy _ k hk) (by simp) (fun k hk e => hog (by rw [e, ← hk]; rfl))); have yo := Whole.grown (hwo.alloc _).drew hgrow hob; have y4 := yo.cell 0; have y5 := yo.cell 1; have y6 := yo.cell 2; simp at y4 y5 y6)
                      refine hK.out _ _ ?_ (fun hHeld => ?_)
                      · (try dsimp only)
                        go_keep
                      clear hK K
                      try simp only [Act.put, List.setIfInBounds_toArray]
                      refine wpAnyH_take (i := 8) (v := ?_) rfl (by kernel_rfl) (by kernel_rfl) (by kernel_rfl) (fun _ _ _ h => h) (Or.inl ⟨by rfl, ?_⟩) (by assumption) ?_
                      rotate_left
                      · intro w hSw
                        (try dsimp only at hSw)
                        go_simp
                        with_reducible rfl
                      try simp only [Act.put]
                      refine wpAnyH_take (i := 9) (v := ?_) rfl (by kernel_rfl) (by kernel_rfl) (by kernel_rfl) (fun _ _ _ h => h) (Or.inl ⟨by rfl, ?_⟩) (by assumption) ?_
                      rotate_left
                      · intro w hSw
                        (try dsimp only at hSw)
                        go_simp
                        with_reducible rfl
                      try simp only [Act.put]
                      refine wpAnyH_ready (rs := [10]) (by kernel_rfl) (by simp) ?_
                      refine AllReadyH.cons rfl (fun K hK => ?_) ?_
                      · go_simp
                        refine hK.out _ _ ?_ (fun hHeld => ?_)
                        · (try dsimp only)
                          go_keep
                        clear hK K
                        try simp only [Act.put, List.setIfInBounds_toArray, List.set_cons_zero, List.set_cons_succ]
                        refine wpAnyH_done (by kernel_rfl) ?_ _
                        go_wp2_with fail
                        go_ret
                        unfold DPost
                        rw [E.out]
                        have hs5 : ∀ k', k' < wy.heap.size → ((wy.alloc (.cells #[.int .i64 k, .int .i64 0, .int .i64 0] 34)).drew).heap[k']? = wy.heap[k']? := fun k' hk' => Below.heap_alloc wy _ k' hk'
                        have hz5 : wy.heap.size ≤ ((wy.alloc (.cells #[.int .i64 k, .int .i64 0, .int .i64 0] 34)).drew).heap.size := by simp
                        have hto5 := HTO.out
                        have hrow0 := HTK.out.row
                        have hto0 := HTK.out.ops (x, hv) (by simp)
                        refine ⟨((((Fr.of hby (by omega) hB).alloc (by omega) (by omega) _).drew).grown hgrow (by simp; omega) (by simp; omega) (fun k' hk' => by have := (hto5.lt k' hk').1; omega)).setB (by omega) (by omega) _, rfl, hpB, hqB, _, V2, V3, (Whole.grown (hwp.alloc _).drew hgrow hop).far hpg _, (Whole.grown (hwq.alloc _).drew hgrow hoq).far hqg _, ?_⟩
                        refine ⟨⟨l ++ [({ x with ops := x.ops ++ [⟨k, 0, 0⟩] }, .slice (some ⟨gg, 0, none⟩) (x.ops.length + 1) cap)], by simp, ?_⟩, ?_, ?_⟩
                        · refine Tasks.op (o := ⟨k, 0, 0⟩) htk hown1 hgrow hs5 hz5 ?_
                          intro k' hk'
                          have hk2 : gg = k' := by simpa [Value.ownBlock] using hk'
                          rcases hat with h9 | h9
                          · exact .inl (by rw [h9, hk2])
                          · right; omega
                        · exact keep_row HT.out.sems hby hs5 hz5 hgrow (fun k' hk' e => row_kind HT.out.sems hto0 (by decide) k' hk' e) (fun e => row_kind HT.out.sems hrow0 (by decide) g e rfl) _
                        · exact keep_row HT.out.queues hby hs5 hz5 hgrow (fun k' hk' e => row_kind HT.out.queues hto0 (by decide) k' hk' e) (fun e => row_kind HT.out.queues hrow0 (by decide) g e rfl) _
                      exact AllReadyH.nil
                    exact AllReadyH.nil
                  exact AllReadyH.nil
                refine AllReadyH.cons rfl (fun K hK => ?_) ?_
                · go_simp
                  refine hK.out _ _ ?_ (fun hHeld => ?_)
                  · (try dsimp only)
                    go_keep
                  clear hK K
                  try simp only [Act.put, List.setIfInBounds_toArray, List.set_cons_zero, List.set_cons_succ]
                  refine wpAnyH_ready (rs := [4]) (by kernel_rfl) (by simp) ?_
                  refine AllReadyH.cons rfl (fun K hK => ?_) ?_
                  · go_simp
                    refine hK.out _ _ ?_ (fun hHeld => ?_)
                    · (try dsimp only)
                      go_keep
                    clear hK K
                    try simp only [Act.put, List.setIfInBounds_toArray, List.set_cons_zero, List.set_cons_succ]
                    refine wpAnyH_ready (rs := [7]) (by kernel_rfl) (by simp) ?_
                    refine AllReadyH.cons rfl (fun K hK => ?_) ?_
                    · (refine step_append_lies _ (by rfl) _ _ _ (by rfl) B 34 i0 _ 3 24 Tryd.underlying30 hi hz0 hz1' hz2' rfl (by omega) hv x.ops.length (opsC x.ops) (by rfl) ((HTO.out.alloc _).drew) ⟨wy.heap.size, 0, none⟩ 1 1 [.int .i64 k, .int .i64 0, .int .i64 0] (by rfl) (by rfl) (World.news_of_block (cs := #[.int .i64 k, .int .i64 0, .int .i64 0]) (t := 34) (fr := (0, 0)) (heap_alloc_new _ _)) (by simp [Value.oneCell']) (by omega) (by unfold maxLen; omega) (by omega) (by simp; omega) (wy.heap.size + 1) (by simp) ?_; intro gg cap w5 hown1 hgrow hat hlt1; obtain ⟨y2, y3⟩ := last_cell (row_grown HROW.out hgrow (fun k hk => Below.heap_alloc wy _ k hk) (by simp) (fun k hk e => hog (by rw [e, ← hk]; rfl))); have yo := Whole.grown (hwo.alloc _).drew hgrow hob; have y4 := yo.cell 0; have y5 := yo.cell 1; have y6 := yo.cell 2; simp at y4 y5 y6)
                      refine hK.out _ _ ?_ (fun hHeld => ?_)
                      · (try dsimp only)
                        go_keep
                      clear hK K
                      try simp only [Act.put, List.setIfInBounds_toArray]
                      refine wpAnyH_take (i := 8) (v := ?_) rfl (by kernel_rfl) (by kernel_rfl) (by kernel_rfl) (fun _ _ _ h => h) (Or.inl ⟨by rfl, ?_⟩) (by assumption) ?_
                      rotate_left
                      · intro w hSw
                        (try dsimp only at hSw)
                        go_simp
                        with_reducible rfl
                      try simp only [Act.put]
                      refine wpAnyH_take (i := 9) (v := ?_) rfl (by kernel_rfl) (by kernel_rfl) (by kernel_rfl) (fun _ _ _ h => h) (Or.inl ⟨by rfl, ?_⟩) (by assumption) ?_
                      rotate_left
                      · intro w hSw
                        (try dsimp only at hSw)
                        go_simp
                        with_reducible rfl
                      try simp only [Act.put]
                      refine wpAnyH_ready (rs := [10]) (by kernel_rfl) (by simp) ?_
                      refine AllReadyH.cons rfl (fun K hK => ?_) ?_
                      · go_simp
                        refine hK.out _ _ ?_ (fun hHeld => ?_)
                        · (try dsimp only)
                          go_keep
                        clear hK K
                        try simp only [Act.put, List.setIfInBounds_toArray, List.set_cons_zero, List.set_cons_succ]
                        refine wpAnyH_done (by kernel_rfl) ?_ _
                        go_wp2_with fail
                        go_ret
                        unfold DPost
                        rw [E.out]
                        have hs5 : ∀ k', k' < wy.heap.size → ((wy.alloc (.cells #[.int .i64 k, .int .i64 0, .int .i64 0] 34)).drew).heap[k']? = wy.heap[k']? := fun k' hk' => Below.heap_alloc wy _ k' hk'
                        have hz5 : wy.heap.size ≤ ((wy.alloc (.cells #[.int .i64 k, .int .i64 0, .int .i64 0] 34)).drew).heap.size := by simp
                        have hto5 := HTO.out
                        have hrow0 := HTK.out.row
                        have hto0 := HTK.out.ops (x, hv) (by simp)
                        refine ⟨((((Fr.of hby (by omega) hB).alloc (by omega) (by omega) _).drew).grown hgrow (by simp; omega) (by simp; omega) (fun k' hk' => by have := (hto5.lt k' hk').1; omega)).setB (by omega) (by omega) _, rfl, hpB, hqB, _, V2, V3, (Whole.grown (hwp.alloc _).drew hgrow hop).far hpg _, (Whole.grown (hwq.alloc _).drew hgrow hoq).far hqg _, ?_⟩
                        refine ⟨⟨l ++ [({ x with ops := x.ops ++ [⟨k, 0, 0⟩] }, .slice (some ⟨gg, 0, none⟩) (x.ops.length + 1) cap)], by simp, ?_⟩, ?_, ?_⟩
                        · refine Tasks.op (o := ⟨k, 0, 0⟩) htk hown1 hgrow hs5 hz5 ?_
                          intro k' hk'
                          have hk2 : gg = k' := by simpa [Value.ownBlock] using hk'
                          rcases hat with h9 | h9
                          · exact .inl (by rw [h9, hk2])
                          · right; omega
                        · exact keep_row HT.out.sems hby hs5 hz5 hgrow (fun k' hk' e => row_kind HT.out.sems hto0 (by decide) k' hk' e) (fun e => row_kind HT.out.sems hrow0 (by decide) g e rfl) _
                        · exact keep_row HT.out.queues hby hs5 hz5 hgrow (fun k' hk' e => row_kind HT.out.queues hto0 (by decide) k' hk' e) (fun e => row_kind HT.out.queues hrow0 (by decide) g e rfl) _
                      exact AllReadyH.nil
                    exact AllReadyH.nil
                  exact AllReadyH.nil
                exact AllReadyH.nil
              · obtain ⟨a, rfl⟩ := List.length_eq_one_iff.1 h0
                have E : Hid (lineT t 3 true wd ws = some ({ t with tasks := l.map Prod.fst ++ [{ x with ops := x.ops ++ [⟨k, a, 0⟩] }] }, 3)) := hE
                clear hE h0
                obtain ⟨g3, cap3, eg3, hg3, hgl3⟩ := own2.form (by simp)
                injection eg3 with eg3
                subst eg3
                have kg0 := own2.cellAt 0 (by simp)
                simp [intV] at kg0
                have ib0 : (0 : Int) ≤ (l.length : Int) := by omega
                have ib1 : (l.length : Int) < (l.length : Int) + 1 := by omega
                have ib2 : (l.length : Int) < ((l.length + 1 : Nat) : Int) := by omega
                have ib3 : l.length < l.length + 1 := by omega
                have hgB := (HTK.out.row.lt g rfl).1
                have hgw := (HTK.out.row.lt g rfl).2
                have hpz2 : p < w2.heap.size := by omega
                go_wp2_with fail
                go_quiet (fail)
                obtain ⟨wy, hwy⟩ : ∃ wy, wy = (w2.alloc (.cells #[.int .i64 k, .int .i64 a, .int .i64 0] 34)).drewN nq := ⟨_, rfl⟩
                rw [← hwy]
                have hwo : Whole wy w2.heap.size 34 #[.int .i64 k, .int .i64 a, .int .i64 0] := by rw [hwy]; exact (Whole.made w2 34 _).drewN _
                have hby : Below w.heap.size w wy := by rw [hwy]; exact (b2.alloc hz2 _).drewN' _
                have hzy : w2.heap.size < wy.heap.size := hwo.lt
                clear hwy
                have o0 := hwo.cell 0
                have o1 := hwo.cell 1
                have o2 := hwo.cell 2
                simp at o0 o1 o2
                have hwp := HW.out.same (hby.block p hpz)
                have hwq := HQ.out.same (hby.block q hqz)
                have htk := HTK.out.same (fun j _ hj => hby.block j hj)
                have hto := htk.ops (x, hv) (by simp)
                have hrow := htk.row
                rw [List.length_append, List.length_singleton] at hrow
                obtain ⟨c5, z5⟩ := last_cell hrow
                obtain ⟨i0, hi, hz0, hz1', hz2'⟩ := info_parts info34
                have hop : hv.ownBlock ≠ some p := fun e => by have := (hto.lt p e).1; omega
                have hoq : hv.ownBlock ≠ some q := fun e => by have := (hto.lt q e).1; omega
                have hog : hv.ownBlock ≠ some g := fun e => row_kind hto hrow (by decide) g e rfl
                have hob : hv.ownBlock ≠ some w2.heap.size := fun e => by have := ((HTK.out.ops (x, hv) (by simp)).lt _ e).2; omega
                have HTO := Lib.hid hto
                have HROW := Lib.hid hrow
                have hpg : p ≠ g := by omega
                have hqg : q ≠ g := by omega
                have hbg : w2.heap.size ≠ g := by omega
                have hgy : g < wy.heap.size := by omega
                have hgy2 : ¬ g = wy.heap.size := by omega
                have hbg' : g ≠ w2.heap.size := by omega
                clear hrow hto
                go_wp2_with fail
                refine wp_region_held_drew (S := fun w' => w'.cell? ⟨w2.heap.size, 0, none⟩ = some (.int .i64 k) ∧ w'.cell? ⟨w2.heap.size, 1, none⟩ = some (.int .i64 a) ∧ w'.cell? ⟨w2.heap.size, 2, none⟩ = some (.int .i64 0)) (by kernel_rfl) ?_ (fun hHeld => ?_)
                · (try dsimp only)
                  go_keep
                refine wpAnyH_take (i := 0) (v := ?_) rfl (by kernel_rfl) (by kernel_rfl) (by kernel_rfl) (fun _ _ _ h => h) (Or.inl ⟨by rfl, ?_⟩) (by assumption) ?_
                rotate_left
                · intro w hSw
                  (try dsimp only at hSw)
                  go_simp
                  with_reducible rfl
                try simp only [Act.put, List.setIfInBounds_toArray]
                refine wpAnyH_take (i := 1) (v := ?_) rfl (by kernel_rfl) (by kernel_rfl) (by kernel_rfl) (fun _ _ _ h => h) (Or.inl ⟨by rfl, ?_⟩) (by assumption) ?_
                rotate_left
                · intro w hSw
                  (try dsimp only at hSw)
                  go_simp
                  with_reducible rfl
                try simp only [Act.put]
                refine wpAnyH_take (i := 2) (v := ?_) rfl (by kernel_rfl) (by kernel_rfl) (by kernel_rfl) (fun _ _ _ h => h) (Or.inl ⟨by rfl, ?_⟩) (by assumption) ?_
                rotate_left
                · intro w hSw
                  (try dsimp only at hSw)
                  go_simp
                  with_reducible rfl
                try simp only [Act.put]
                refine wpAnyH_take (i := 3) (v := ?_) rfl (by kernel_rfl) (by kernel_rfl) (by kernel_rfl) (fun _ _ _ h => h) (Or.inl ⟨by rfl, ?_⟩) (by assumption) ?_
                rotate_left
                · intro w hSw
                  (try dsimp only at hSw)
                  go_simp
                  with_reducible rfl
                try simp only [Act.put]
                refine wpAnyH_take (i := 5) (v := ?_) rfl (by kernel_rfl) (by kernel_rfl) (by kernel_rfl) (fun _ _ _ h => h) (Or.inl ⟨by rfl, ?_⟩) (by assumption) ?_
                rotate_left
                · intro w hSw
                  (try dsimp only at hSw)
                  go_simp
                  with_reducible rfl
                try simp only [Act.put]
                refine wpAnyH_ready (rs := [4, 6]) (by kernel_rfl) (by simp) ?_
                refine AllReadyH.cons rfl (fun K hK => ?_) ?_
                · go_simp
                  refine hK.out _ _ ?_ (fun hHeld => ?_)
                  · (try dsimp only)
                    go_keep
                  clear hK K
                  try simp only [Act.put, List.setIfInBounds_toArray, List.set_cons_zero, List.set_cons_succ]
                  refine wpAnyH_ready (rs := [6]) (by kernel_rfl) (by simp) ?_
                  refine AllReadyH.cons rfl (fun K hK => ?_) ?_
                  · go_simp
                    refine hK.out _ _ ?_ (fun hHeld => ?_)
                    · (try dsimp only)
                      go_keep
                    clear hK K
                    try simp only [Act.put, List.setIfInBounds_toArray, List.set_cons_zero, List.set_cons_succ]
                    refine wpAnyH_ready (rs := [7]) (by kernel_rfl) (by simp) ?_
                    refine AllReadyH.cons rfl (fun K hK => ?_) ?_
                    · (refine step_append_lies _ (by rfl) _ _ _ (by rfl) B 34 i0 _ 3 24 Tryd.underlying30 hi hz0 hz1' hz2' rfl (by omega) hv x.ops.length (opsC x.ops) (by rfl) ((HTO.out.alloc _).drew) ⟨wy.heap.size, 0, none⟩ 1 1 [.int .i64 k, .int .i64 a, .int .i64 0] (by rfl) (by rfl) (World.news_of_block (cs := #[.int .i64 k, .int .i64 a, .int .i64 0]) (t := 34) (fr := (0, 0)) (heap_alloc_new _ _)) (by simp [Value.oneCell']) (by omega) (by unfold maxLen; omega) (by omega) (by simp; omega) (wy.heap.size + 1) (by simp) ?_; intro gg cap w5 hown1 hgrow hat hlt1; obtain ⟨y2, y3⟩ := last_cell (row_grown HROW.out hgrow (fun k hk => Below.heap_alloc wy _ k hk) (by simp) (fun k hk e => hog (by rw [e, ← hk]; rfl))); have yo := Whole.grown (hwo.alloc _).drew hgrow hob; have y4 := yo.cell 0; have y5 := yo.cell 1; have y6 := yo.cell 2; simp at y4 y5 y6)
                      refine hK.out _ _ ?_ (fun hHeld => ?_)
                      · (try dsimp only)
                        go_keep
                      clear hK K
                      try simp only [Act.put, List.setIfInBounds_toArray]
                      refine wpAnyH_take (i := 8) (v := ?_) rfl (by kernel_rfl) (by kernel_rfl) (by kernel_rfl) (fun _ _ _ h => h) (Or.inl ⟨by rfl, ?_⟩) (by assumption) ?_
                      rotate_left
                      · intro w hSw
                        (try dsimp only at hSw)
                        go_simp
                        with_reducible rfl
                      try simp only [Act.put]
                      refine wpAnyH_take (i := 9) (v := ?_) rfl (by kernel_rfl) (by kernel_rfl) (by kernel_rfl) (fun _ _ _ h => h) (Or.inl ⟨by rfl, ?_⟩) (by assumption) ?_
                      rotate_left
                      · intro w hSw
                        (try dsimp only at hSw)
                        go_simp
                        with_reducible rfl
                      try simp only [Act.put]
                      refine wpAnyH_ready (rs := [10]) (by kernel_rfl) (by simp) ?_
                      refine AllReadyH.cons rfl (fun K hK => ?_) ?_
                      · go_simp
                        refine hK.out _ _ ?_ (fun hHeld => ?_)
                        · (try dsimp only)
                          go_keep
                        clear hK K
                        try simp only [Act.put, List.setIfInBounds_toArray, List.set_cons_zero, List.set_cons_succ]
                        refine wpAnyH_done (by kernel_rfl) ?_ _
                        go_wp2_with fail
                        go_ret
                        unfold DPost
                        rw [E.out]
                        have hs5 : ∀ k', k' < wy.heap.size → ((wy.alloc (.cells #[.int .i64 k, .int .i64 a, .int .i64 0] 34)).drew).heap[k']? = wy.heap[k']? := fun k' hk' => Below.heap_alloc wy _ k' hk'
                        have hz5 : wy.heap.size ≤ ((wy.alloc (.cells #[.int .i64 k, .int .i64 a, .int .i64 0] 34)).drew).heap.size := by simp
                        have hto5 := HTO.out
                        have hrow0 := HTK.out.row
                        have hto0 := HTK.out.ops (x, hv) (by simp)
                        refine ⟨((((Fr.of hby (by omega) hB).alloc (by omega) (by omega) _).drew).grown hgrow (by simp; omega) (by simp; omega) (fun k' hk' => by have := (hto5.lt k' hk').1; omega)).setB (by omega) (by omega) _, rfl, hpB, hqB, _, V2, V3, (Whole.grown (hwp.alloc _).drew hgrow hop).far hpg _, (Whole.grown (hwq.alloc _).drew hgrow hoq).far hqg _, ?_⟩
                        refine ⟨⟨l ++ [({ x with ops := x.ops ++ [⟨k, a, 0⟩] }, .slice (some ⟨gg, 0, none⟩) (x.ops.length + 1) cap)], by simp, ?_⟩, ?_, ?_⟩
                        · refine Tasks.op (o := ⟨k, a, 0⟩) htk hown1 hgrow hs5 hz5 ?_
                          intro k' hk'
                          have hk2 : gg = k' := by simpa [Value.ownBlock] using hk'
                          rcases hat with h9 | h9
                          · exact .inl (by rw [h9, hk2])
                          · right; omega
                        · exact keep_row HT.out.sems hby hs5 hz5 hgrow (fun k' hk' e => row_kind HT.out.sems hto0 (by decide) k' hk' e) (fun e => row_kind HT.out.sems hrow0 (by decide) g e rfl) _
                        · exact keep_row HT.out.queues hby hs5 hz5 hgrow (fun k' hk' e => row_kind HT.out.queues hto0 (by decide) k' hk' e) (fun e => row_kind HT.out.queues hrow0 (by decide) g e rfl) _
                      exact AllReadyH.nil
                    exact AllReadyH.nil
                  exact AllReadyH.nil
                refine AllReadyH.cons rfl (fun K hK => ?_) ?_
                · go_simp
                  refine hK.out _ _ ?_ (fun hHeld => ?_)
                  · (try dsimp only)
                    go_keep
                  clear hK K
                  try simp only [Act.put, List.setIfInBounds_toArray, List.set_cons_zero, List.set_cons_succ]
                  refine wpAnyH_ready (rs := [4]) (by kernel_rfl) (by simp) ?_
                  refine AllReadyH.cons rfl (fun K hK => ?_) ?_
                  · go_simp
                    refine hK.out _ _ ?_ (fun hHeld => ?_)
                    · (try dsimp only)
                      go_keep
                    clear hK K
                    try simp only [Act.put, List.setIfInBounds_toArray, List.set_cons_zero, List.set_cons_succ]
                    refine wpAnyH_ready (rs := [7]) (by kernel_rfl) (by simp) ?_
                    refine AllReadyH.cons rfl (fun K hK => ?_) ?_
                    · (refine step_append_lies _ (by rfl) _ _ _ (by rfl) B 34 i0 _ 3 24 Tryd.underlying30 hi hz0 hz1' hz2' rfl (by omega) hv x.ops.length (opsC x.ops) (by rfl) ((HTO.out.alloc _).drew) ⟨wy.heap.size, 0, none⟩ 1 1 [.int .i64 k, .int .i64 a, .int .i64 0] (by rfl) (by rfl) (World.news_of_block (cs := #[.int .i64 k, .int .i64 a, .int .i64 0]) (t := 34) (fr := (0, 0)) (heap_alloc_new _ _)) (by simp [Value.oneCell']) (by omega) (by unfold maxLen; omega) (by omega) (by simp; omega) (wy.heap.size + 1) (by simp) ?_; intro gg cap w5 hown1 hgrow hat hlt1; obtain ⟨y2, y3⟩ := last_cell (row_grown HROW.out hgrow (fun k hk => Below.heap_alloc wy _ k hk) (by simp) (fun k hk e => hog (by rw [e, ← hk]; rfl))); have yo := Whole.grown (hwo.alloc _).drew hgrow hob; have y4 := yo.cell 0; have y5 := yo.cell 1; have y6 := yo.cell 2; simp at y4 y5 y6)
                      refine hK.out _ _ ?_ (fun hHeld => ?_)
                      · (try dsimp only)
                        go_keep
                      clear hK K
                      try simp only [Act.put, List.setIfInBounds_toArray]
                      refine wpAnyH_take (i := 8) (v := ?_) rfl (by kernel_rfl) (by kernel_rfl) (by kernel_rfl) (fun _ _ _ h => h) (Or.inl ⟨by rfl, ?_⟩) (by assumption) ?_
                      rotate_left
                      · intro w hSw
                        (try dsimp only at hSw)
                        go_simp
                        with_reducible rfl
                      try simp only [Act.put]
                      refine wpAnyH_take (i := 9) (v := ?_) rfl (by kernel_rfl) (by kernel_rfl) (by kernel_rfl) (fun _ _ _ h => h) (Or.inl ⟨by rfl, ?_⟩) (by assumption) ?_
                      rotate_left
                      · intro w hSw
                        (try dsimp only at hSw)
                        go_simp
                        with_reducible rfl
                      try simp only [Act.put]
                      refine wpAnyH_ready (rs := [10]) (by kernel_rfl) (by simp) ?_
                      refine AllReadyH.cons rfl (fun K hK => ?_) ?_
                      · go_simp
                        refine hK.out _ _ ?_ (fun hHeld => ?_)
                        · (try dsimp only)
                          go_keep
                        clear hK K
                        try simp only [Act.put, List.setIfInBounds_toArray, List.set_cons_zero, List.set_cons_succ]
                        refine wpAnyH_done (by kernel_rfl) ?_ _
                        go_wp2_with fail
                        go_ret
                        unfold DPost
                        rw [E.out]
                        have hs5 : ∀ k', k' < wy.heap.size → ((wy.alloc (.cells #[.int .i64 k, .int .i64 a, .int .i64 0] 34)).drew).heap[k']? = wy.heap[k']? := fun k' hk' => Below.heap_alloc wy _ k' hk'
                        have hz5 : wy.heap.size ≤ ((wy.alloc (.cells #[.int .i64 k, .int .i64 a, .int .i64 0] 34)).drew).heap.size := by simp
                        have hto5 := HTO.out
                        have hrow0 := HTK.out.row
                        have hto0 := HTK.out.ops (x, hv) (by simp)
                        refine ⟨((((Fr.of hby (by omega) hB).alloc (by omega) (by omega) _).drew).grown hgrow (by simp; omega) (by simp; omega) (fun k' hk' => by have := (hto5.lt k' hk').1; omega)).setB (by omega) (by omega) _, rfl, hpB, hqB, _, V2, V3, (Whole.grown (hwp.alloc _).drew hgrow hop).far hpg _, (Whole.grown (hwq.alloc _).drew hgrow hoq).far hqg _, ?_⟩
                        refine ⟨⟨l ++ [({ x with ops := x.ops ++ [⟨k, a, 0⟩] }, .slice (some ⟨gg, 0, none⟩) (x.ops.length + 1) cap)], by simp, ?_⟩, ?_, ?_⟩
                        · refine Tasks.op (o := ⟨k, a, 0⟩) htk hown1 hgrow hs5 hz5 ?_
                          intro k' hk'
                          have hk2 : gg = k' := by simpa [Value.ownBlock] using hk'
                          rcases hat with h9 | h9
                          · exact .inl (by rw [h9, hk2])
                          · right; omega
                        · exact keep_row HT.out.sems hby hs5 hz5 hgrow (fun k' hk' e => row_kind HT.out.sems hto0 (by decide) k' hk' e) (fun e => row_kind HT.out.sems hrow0 (by decide) g e rfl) _
                        · exact keep_row HT.out.queues hby hs5 hz5 hgrow (fun k' hk' e => row_kind HT.out.queues hto0 (by decide) k' hk' e) (fun e => row_kind HT.out.queues hrow0 (by decide) g e rfl) _
                      exact AllReadyH.nil
                    exact AllReadyH.nil
                  exact AllReadyH.nil
                exact AllReadyH.nil
              · obtain ⟨a, b, rfl⟩ : ∃ a b, ns = [a, b] := by
                  match ns, h0 with
                  | [a, b], _ => exact ⟨a, b, rfl⟩
                have E : Hid (lineT t 3 true wd ws = some ({ t with tasks := l.map Prod.fst ++ [{ x with ops := x.ops ++ [⟨k, a, b⟩] }] }, 3)) := hE
                clear hE h0
                obtain ⟨g3, cap3, eg3, hg3, hgl3⟩ := own2.form (by simp)
                injection eg3 with eg3
                subst eg3
                have kg0 := own2.cellAt 0 (by simp)
                simp [intV] at kg0
                have kg1 := own2.cellAt 1 (by simp)
                simp [intV] at kg1
                have ib0 : (0 : Int) ≤ (l.length : Int) := by omega
                have ib1 : (l.length : Int) < (l.length : Int) + 1 := by omega
                have ib2 : (l.length : Int) < ((l.length + 1 : Nat) : Int) := by omega
                have ib3 : l.length < l.length + 1 := by omega
                have hgB := (HTK.out.row.lt g rfl).1
                have hgw := (HTK.out.row.lt g rfl).2
                have hpz2 : p < w2.heap.size := by omega
                go_wp2_with fail
                go_quiet (fail)
                obtain ⟨wy, hwy⟩ : ∃ wy, wy = (w2.alloc (.cells #[.int .i64 k, .int .i64 a, .int .i64 b] 34)).drewN nq := ⟨_, rfl⟩
                rw [← hwy]
                have hwo : Whole wy w2.heap.size 34 #[.int .i64 k, .int .i64 a, .int .i64 b] := by rw [hwy]; exact (Whole.made w2 34 _).drewN _
                have hby : Below w.heap.size w wy := by rw [hwy]; exact (b2.alloc hz2 _).drewN' _
                have hzy : w2.heap.size < wy.heap.size := hwo.lt
                clear hwy
                have o0 := hwo.cell 0
                have o1 := hwo.cell 1
                have o2 := hwo.cell 2
                simp at o0 o1 o2
                have hwp := HW.out.same (hby.block p hpz)
                have hwq := HQ.out.same (hby.block q hqz)
                have htk := HTK.out.same (fun j _ hj => hby.block j hj)
                have hto := htk.ops (x, hv) (by simp)
                have hrow := htk.row
                rw [List.length_append, List.length_singleton] at hrow
                obtain ⟨c5, z5⟩ := last_cell hrow
                obtain ⟨i0, hi, hz0, hz1', hz2'⟩ := info_parts info34
                have hop : hv.ownBlock ≠ some p := fun e => by have := (hto.lt p e).1; omega
                have hoq : hv.ownBlock ≠ some q := fun e => by have := (hto.lt q e).1; omega
                have hog : hv.ownBlock ≠ some g := fun e => row_kind hto hrow (by decide) g e rfl
                have hob : hv.ownBlock ≠ some w2.heap.size := fun e => by have := ((HTK.out.ops (x, hv) (by simp)).lt _ e).2; omega
                have HTO := Lib.hid hto
                have HROW := Lib.hid hrow
                have hpg : p ≠ g := by omega
                have hqg : q ≠ g := by omega
                have hbg : w2.heap.size ≠ g := by omega
                have hgy : g < wy.heap.size := by omega
                have hgy2 : ¬ g = wy.heap.size := by omega
                have hbg' : g ≠ w2.heap.size := by omega
                clear hrow hto
                go_wp2_with fail
                refine wp_region_held_drew (S := fun w' => w'.cell? ⟨w2.heap.size, 0, none⟩ = some (.int .i64 k) ∧ w'.cell? ⟨w2.heap.size, 1, none⟩ = some (.int .i64 a) ∧ w'.cell? ⟨w2.heap.size, 2, none⟩ = some (.int .i64 b)) (by kernel_rfl) ?_ (fun hHeld => ?_)
                · (try dsimp only)
                  go_keep
                refine wpAnyH_take (i := 0) (v := ?_) rfl (by kernel_rfl) (by kernel_rfl) (by kernel_rfl) (fun _ _ _ h => h) (Or.inl ⟨by rfl, ?_⟩) (by assumption) ?_
                rotate_left
                · intro w hSw
                  (try dsimp only at hSw)
                  go_simp
                  with_reducible rfl
                try simp only [Act.put, List.setIfInBounds_toArray]
                refine wpAnyH_take (i := 1) (v := ?_) rfl (by kernel_rfl) (by kernel_rfl) (by kernel_rfl) (fun _ _ _ h => h) (Or.inl ⟨by rfl, ?_⟩) (by assumption) ?_
                rotate_left
                · intro w hSw
                  (try dsimp only at hSw)
                  go_simp
                  with_reducible rfl
                try simp only [Act.put]
                refine wpAnyH_take (i := 2) (v := ?_) rfl (by kernel_rfl) (by kernel_rfl) (by kernel_rfl) (fun _ _ _ h => h) (Or.inl ⟨by rfl, ?_⟩) (by assumption) ?_
                rotate_left
                · intro w hSw
                  (try dsimp only at hSw)
                  go_simp
                  with_reducible rfl
                try simp only [Act.put]
                refine wpAnyH_take (i := 3) (v := ?_) rfl (by kernel_rfl) (by kernel_rfl) (by kernel_rfl) (fun _ _ _ h => h) (Or.inl ⟨by rfl, ?_⟩) (by assumption) ?_
                rotate_left
                · intro w hSw
                  (try dsimp only at hSw)
                  go_simp
                  with_reducible rfl
                try simp only [Act.put]
                refine wpAnyH_take (i := 5) (v := ?_) rfl (by kernel_rfl) (by kernel_rfl) (by kernel_rfl) (fun _ _ _ h => h) (Or.inl ⟨by rfl, ?_⟩) (by assumption) ?_
                rotate_left
                · intro w hSw
                  (try dsimp only at hSw)
                  go_simp
                  with_reducible rfl
                try simp only [Act.put]
                refine wpAnyH_ready (rs := [4, 6]) (by kernel_rfl) (by simp) ?_
                refine AllReadyH.cons rfl (fun K hK => ?_) ?_
                · go_simp
                  refine hK.out _ _ ?_ (fun hHeld => ?_)
                  · (try dsimp only)
                    go_keep
                  clear hK K
                  try simp only [Act.put, List.setIfInBounds_toArray, List.set_cons_zero, List.set_cons_succ]
                  refine wpAnyH_ready (rs := [6]) (by kernel_rfl) (by simp) ?_
                  refine AllReadyH.cons rfl (fun K hK => ?_) ?_
                  · go_simp
                    refine hK.out _ _ ?_ (fun hHeld => ?_)
                    · (try dsimp only)
                      go_keep
                    clear hK K
                    try simp only [Act.put, List.setIfInBounds_toArray, List.set_cons_zero, List.set_cons_succ]
                    refine wpAnyH_ready (rs := [7]) (by kernel_rfl) (by simp) ?_
                    refine AllReadyH.cons rfl (fun K hK => ?_) ?_
                    · (refine step_append_lies _ (by rfl) _ _ _ (by rfl) B 34 i0 _ 3 24 Tryd.underlying30 hi hz0 hz1' hz2' rfl (by omega) hv x.ops.length (opsC x.ops) (by rfl) ((HTO.out.alloc _).drew) ⟨wy.heap.size, 0, none⟩ 1 1 [.int .i64 k, .int .i64 a, .int .i64 b] (by rfl) (by rfl) (World.news_of_block (cs := #[.int .i64 k, .int .i64 a, .int .i64 b]) (t := 34) (fr := (0, 0)) (heap_alloc_new _ _)) (by simp [Value.oneCell']) (by omega) (by unfold maxLen; omega) (by omega) (by simp; omega) (wy.heap.size + 1) (by simp) ?_; intro gg cap w5 hown1 hgrow hat hlt1; obtain ⟨y2, y3⟩ := last_cell (row_grown HROW.out hgrow (fun k hk => Below.heap_alloc wy _ k hk) (by simp) (fun k hk e => hog (by rw [e, ← hk]; rfl))); have yo := Whole.grown (hwo.alloc _).drew hgrow hob; have y4 := yo.cell 0; have y5 := yo.cell 1; have y6 := yo.cell 2; simp at y4 y5 y6)
                      refine hK.out _ _ ?_ (fun hHeld => ?_)
                      · (try dsimp only)
                        go_keep
                      clear hK K
                      try simp only [Act.put, List.setIfInBounds_toArray]
                      refine wpAnyH_take (i := 8) (v := ?_) rfl (by kernel_rfl) (by kernel_rfl) (by kernel_rfl) (fun _ _ _ h => h) (Or.inl ⟨by rfl, ?_⟩) (by assumption) ?_
                      rotate_left
                      · intro w hSw
                        (try dsimp only at hSw)
                        go_simp
                        with_reducible rfl
                      try simp only [Act.put]
                      refine wpAnyH_take (i := 9) (v := ?_) rfl (by kernel_rfl) (by kernel_rfl) (by kernel_rfl) (fun _ _ _ h => h) (Or.inl ⟨by rfl, ?_⟩) (by assumption) ?_
                      rotate_left
                      · intro w hSw
                        (try dsimp only at hSw)
                        go_simp
                        with_reducible rfl
                      try simp only [Act.put]
                      refine wpAnyH_ready (rs := [10]) (by kernel_rfl) (by simp) ?_
                      refine AllReadyH.cons rfl (fun K hK => ?_) ?_
                      · go_simp
                        refine hK.out _ _ ?_ (fun hHeld => ?_)
                        · (try dsimp only)
                          go_keep
                        clear hK K
                        try simp only [Act.put, List.setIfInBounds_toArray, List.set_cons_zero, List.set_cons_succ]
                        refine wpAnyH_done (by kernel_rfl) ?_ _
                        go_wp2_with fail
                        go_ret
                        unfold DPost
                        rw [E.out]
                        have hs5 : ∀ k', k' < wy.heap.size → ((wy.alloc (.cells #[.int .i64 k, .int .i64 a, .int .i64 b] 34)).drew).heap[k']? = wy.heap[k']? := fun k' hk' => Below.heap_alloc wy _ k' hk'
                        have hz5 : wy.heap.size ≤ ((wy.alloc (.cells #[.int .i64 k, .int .i64 a, .int .i64 b] 34)).drew).heap.size := by simp
                        have hto5 := HTO.out
                        have hrow0 := HTK.out.row
                        have hto0 := HTK.out.ops (x, hv) (by simp)
                        refine ⟨((((Fr.of hby (by omega) hB).alloc (by omega) (by omega) _).drew).grown hgrow (by simp; omega) (by simp; omega) (fun k' hk' => by have := (hto5.lt k' hk').1; omega)).setB (by omega) (by omega) _, rfl, hpB, hqB, _, V2, V3, (Whole.grown (hwp.alloc _).drew hgrow hop).far hpg _, (Whole.grown (hwq.alloc _).drew hgrow hoq).far hqg _, ?_⟩
                        refine ⟨⟨l ++ [({ x with ops := x.ops ++ [⟨k, a, b⟩] }, .slice (some ⟨gg, 0, none⟩) (x.ops.length + 1) cap)], by simp, ?_⟩, ?_, ?_⟩
                        · refine Tasks.op (o := ⟨k, a, b⟩) htk hown1 hgrow hs5 hz5 ?_
                          intro k' hk'
                          have hk2 : gg = k' := by simpa [Value.ownBlock] using hk'
                          rcases hat with h9 | h9
                          · exact .inl (by rw [h9, hk2])
                          · right; omega
                        · exact keep_row HT.out.sems hby hs5 hz5 hgrow (fun k' hk' e => row_kind HT.out.sems hto0 (by decide) k' hk' e) (fun e => row_kind HT.out.sems hrow0 (by decide) g e rfl) _
                        · exact keep_row HT.out.queues hby hs5 hz5 hgrow (fun k' hk' e => row_kind HT.out.queues hto0 (by decide) k' hk' e) (fun e => row_kind HT.out.queues hrow0 (by decide) g e rfl) _
                      exact AllReadyH.nil
                    exact AllReadyH.nil
                  exact AllReadyH.nil
                refine AllReadyH.cons rfl (fun K hK => ?_) ?_
                · go_simp
                  refine hK.out _ _ ?_ (fun hHeld => ?_)
                  · (try dsimp only)
                    go_keep
                  clear hK K
                  try simp only [Act.put, List.setIfInBounds_toArray, List.set_cons_zero, List.set_cons_succ]
                  refine wpAnyH_ready (rs := [4]) (by kernel_rfl) (by simp) ?_
                  refine AllReadyH.cons rfl (fun K hK => ?_) ?_
                  · go_simp
                    refine hK.out _ _ ?_ (fun hHeld => ?_)
                    · (try dsimp only)
                      go_keep
                    clear hK K
                    try simp only [Act.put, List.setIfInBounds_toArray, List.set_cons_zero, List.set_cons_succ]
                    refine wpAnyH_ready (rs := [7]) (by kernel_rfl) (by simp) ?_
                    refine AllReadyH.cons rfl (fun K hK => ?_) ?_
                    · (refine step_append_lies _ (by rfl) _ _ _ (by rfl) B 34 i0 _ 3 24 Tryd.underlying30 hi hz0 hz1' hz2' rfl (by omega) hv x.ops.length (opsC x.ops) (by rfl) ((HTO.out.alloc _).drew) ⟨wy.heap.size, 0, none⟩ 1 1 [.int .i64 k, .int .i64 a, .int .i64 b] (by rfl) (by rfl) (World.news_of_block (cs := #[.int .i64 k, .int .i64 a, .int .i64 b]) (t := 34) (fr := (0, 0)) (heap_alloc_new _ _)) (by simp [Value.oneCell']) (by omega) (by unfold maxLen; omega) (by omega) (by simp; omega) (wy.heap.size + 1) (by simp) ?_; intro gg cap w5 hown1 hgrow hat hlt1; obtain ⟨y2, y3⟩ := last_cell (row_grown HROW.out hgrow (fun k hk => Below.heap_alloc wy _ k hk) (by simp) (fun k hk e => hog (by rw [e, ← hk]; rfl))); have yo := Whole.grown (hwo.alloc _).drew hgrow hob; have y4 := yo.cell 0; have y5 := yo.cell 1; have y6 := yo.cell 2; simp at y4 y5 y6)
                      refine hK.out _ _ ?_ (fun hHeld => ?_)
                      · (try dsimp only)
                        go_keep
                      clear hK K
                      try simp only [Act.put, List.setIfInBounds_toArray]
                      refine wpAnyH_take (i := 8) (v := ?_) rfl (by kernel_rfl) (by kernel_rfl) (by kernel_rfl) (fun _ _ _ h => h) (Or.inl ⟨by rfl, ?_⟩) (by assumption) ?_
                      rotate_left
                      · intro w hSw
                        (try dsimp only at hSw)
                        go_simp
                        with_reducible rfl
                      try simp only [Act.put]
                      refine wpAnyH_take (i := 9) (v := ?_) rfl (by kernel_rfl) (by kernel_rfl) (by kernel_rfl) (fun _ _ _ h => h) (Or.inl ⟨by rfl, ?_⟩) (by assumption) ?_
                      rotate_left
                      · intro w hSw
                        (try dsimp only at hSw)
                        go_simp
                        with_reducible rfl
                      try simp only [Act.put]
                      refine wpAnyH_ready (rs := [10]) (by kernel_rfl) (by simp) ?_
                      refine AllReadyH.cons rfl (fun K hK => ?_) ?_
                      · go_simp
                        refine hK.out _ _ ?_ (fun hHeld => ?_)
                        · (try dsimp only)
                          go_keep
                        clear hK K
                        try simp only [Act.put, List.setIfInBounds_toArray, List.set_cons_zero, List.set_cons_succ]
                        refine wpAnyH_done (by kernel_rfl) ?_ _
                        go_wp2_with fail
                        go_ret
                        unfold DPost
                        rw [E.out]
                        have hs5 : ∀ k', k' < wy.heap.size → ((wy.alloc (.cells #[.int .i64 k, .int .i64 a, .int .i64 b] 34)).drew).heap[k']? = wy.heap[k']? := fun k' hk' => Below.heap_alloc wy _ k' hk'
                        have hz5 : wy.heap.size ≤ ((wy.alloc (.cells #[.int .i64 k, .int .i64 a, .int .i64 b] 34)).drew).heap.size := by simp
                        have hto5 := HTO.out
                        have hrow0 := HTK.out.row
                        have hto0 := HTK.out.ops (x, hv) (by simp)
                        refine ⟨((((Fr.of hby (by omega) hB).alloc (by omega) (by omega) _).drew).grown hgrow (by simp; omega) (by simp; omega) (fun k' hk' => by have := (hto5.lt k' hk').1; omega)).setB (by omega) (by omega) _, rfl, hpB, hqB, _, V2, V3, (Whole.grown (hwp.alloc _).drew hgrow hop).far hpg _, (Whole.grown (hwq.alloc _).drew hgrow hoq).far hqg _, ?_⟩
                        refine ⟨⟨l ++ [({ x with ops := x.ops ++ [⟨k, a, b⟩] }, .slice (some ⟨gg, 0, none⟩) (x.ops.length + 1) cap)], by simp, ?_⟩, ?_, ?_⟩
                        · refine Tasks.op (o := ⟨k, a, b⟩) htk hown1 hgrow hs5 hz5 ?_
                          intro k' hk'
                          have hk2 : gg = k' := by simpa [Value.ownBlock] using hk'
                          rcases hat with h9 | h9
                          · exact .inl (by rw [h9, hk2])
                          · right; omega
                        · exact keep_row HT.out.sems hby hs5 hz5 hgrow (fun k' hk' e => row_kind HT.out.sems hto0 (by decide) k' hk' e) (fun e => row_kind HT.out.sems hrow0 (by decide) g e rfl) _
                        · exact keep_row HT.out.queues hby hs5 hz5 hgrow (fun k' hk' e => row_kind HT.out.queues hto0 (by decide) k' hk' e) (fun e => row_kind HT.out.queues hrow0 (by decide) g e rfl) _
                      exact AllReadyH.nil
                    exact AllReadyH.nil
                  exact AllReadyH.nil
                exact AllReadyH.nil
          · have E : Hid (lineT t 3 true wd ws = none) := by
              show _ = _
              rw [EL.out]
              unfold opT
              rw [KP.out ns.length H1.out h2]
              split <;> rfl
            have f1 : ((ns.length : Int) != (parts : Int)) = true := by simp; omega
            have f2 : ((ns.length : Int) == (parts : Int)) = false := by simp; omega
            have f3 : ¬ (ns.length : Int) = (parts : Int) := by omega
            clear h2 EL
            go_wp2_with fail
            go_ret
            unfold DPost
            rw [E.out]
            exact ⟨Fr.of b2 (by omega) hB, rfl⟩
      · have e1 : (N.toList != S.toList) = true := by rw [hNl, HSL.out]; exact bne_iff_ne.2 h1
        have e2 : ¬ N.toList = S.toList := by rw [hNl, HSL.out]; exact h1
        have e3 : (N.toList == S.toList) = false := by rw [hNl, HSL.out]; exact beq_eq_false_iff_ne.2 h1
        have NY := Lib.hid (NYS.out h1)
        clear h1 hNl hsl
        go_wp2_with fail
        go_round
        case rel => exact ⟨k + 1, by omega, by go_num, NY.out⟩
        case measure => simp [intOf]; omega
    · have hge : ¬ (k : Int) < 15 := by omega
      obtain rfl : k = 15 := by omega
      have E : Hid (lineT t 3 true wd ws = none) := by
        show _ = _
        unfold lineT
        rcases Tk.nums ws with _ | ns
        · rfl
        · dsimp only
          unfold doT opT
          rw [if_neg (by decide), if_neg (by decide), nameNot_kind hny]
          split <;> rfl
      clear hny hsl
      go_wp2_with fail
      go_ret
      unfold DPost
      rw [E.out]
      exact ⟨Fr.refl _ _ _ _ _, rfl⟩
end
end Go.Proofs.YtadcfedjmofjjaaDoor
