/-
  The calls that write: the walks of put, show and poke.
  The calls: the walks of delay, take, lock and unlock.
-/
import Derived.Test.YtncbgnpoffolcaaNt
import Derived.Test.YtncbgnpoffolcaaM5
import Derived.Laws.Small
/-! The calls that write: the walks of put, show and poke. -/
namespace Go.Proofs.Ytncbgnpoffolcaa
open Go.RowKit
theorem info5' : ∃ i, Try.prog.info? 5 = some i ∧ i.zero = some (.int .u8 0) ∧ i.size = 1 ∧ i.bytes = 1 := info_parts info5
set_option maxRecDepth 100000 in
set_option maxHeartbeats 16000000 in
theorem put_any {w : World} {B : Nat} {k : Kn.K} {L : Lay} {m : Nat} {o : Kn.Op} (h : KM w B k L) (_hk : Kn.Ok k) (_hm : m < k.tasks.length) (hB : B ≤ w.heap.size) (ho : k.out.length ≤ 1000000) (ha : 0 ≤ o.a ∧ o.a ≤ 255) :
 Calls Try.prog 59 #[callV L m o] w (CallPost w B (k.put o.a) L) := by
 obtain ⟨W, hW⟩ : ∃ W, W = w.alloc (.cells #[.pointer (some ⟨L.b .ker, 0, none⟩), .int .i64 m, .pointer (some ⟨L.b (.t m), 0, none⟩), .int .i64 o.kind, .int .i64 o.a, .int .i64 o.b] 112) := ⟨_, rfl⟩
 have hbb : Below w.heap.size w W := by rw [hW]; exact (zr _ _).alloc (zl _) _
 have hK := h.below hbb
 have wc : Whole W w.heap.size 112 #[.pointer (some ⟨L.b .ker, 0, none⟩), .int .i64 m, .pointer (some ⟨L.b (.t m), 0, none⟩), .int .i64 o.kind, .int .i64 o.a, .int .i64 o.b] := by rw [hW]; exact zm w 112 _
 have hoW : Out W k L w.heap.size := ⟨wc.lt, fun c hc e => by have := h.lt hc; omega⟩
 have hBW : Below B w W := hbb.mono hB
 have hzW := hBW.size
 have c0 : W.cell? ⟨w.heap.size, 0, none⟩ = some (.pointer (some ⟨L.b .ker, 0, none⟩)) := wc.cell 0
 have c4 : W.cell? ⟨w.heap.size, 4, none⟩ = some (.int .i64 o.a) := wc.cell 4
 obtain ⟨i5, hi5, hi50, hi51, hi52⟩ := info5'
 have hrow := hK.outRow
 have c43 : W.cell? ⟨L.b .ker, 36, none⟩ = some (L.hd .out k.out.length) := (hK.ker.cell 36).trans kerCells_36
 have c44 : W.frozen? ⟨L.b .ker, 36, none⟩ = false := hK.ker.frozen 36
 have hltK : L.b .ker < W.heap.size := hK.lt (c := .ker) trivial
 have hlowK := hK.low .ker trivial
 have hgK := hoW.2 .ker trivial
 have hgK2 : w.heap.size ≠ L.b .ker := fun e => hgK e.symm
 have hBW' : B ≤ W.heap.size := by omega
 obtain ⟨b, hb⟩ : ∃ b, b = UInt8.ofNat o.a.toNat := ⟨_, rfl⟩
 have hw8 : IntKind.u8.wrap o.a = (b.toNat : Int) := by rw [hb, UInt8.toNat_ofNat', IntKind.wrap_u8]; omega
 have EY : Hid (k.put o.a = { k with out := k.out ++ [b] }) := by show _ = _; rw [hb]; rfl
 clear hb
 have hbd : Below W.heap.size W ((W.alloc (.cells #[.int .u8 (b.toNat : Int)] 5)).drew) := ((zr W.heap.size W).alloc (zl _) _).drew
 have hown0 : ((W.alloc (.cells #[.int .u8 (b.toNat : Int)] 5)).drew).ownsRow B 5 1 (L.hd .out k.out.length) k.out.length (outV k.out) := (hrow.alloc _).drew
 have hnew : ∀ (j : Nat) (u : Value), ([.int .u8 (b.toNat : Int)] : List Value)[j]? = some u → ((W.alloc (.cells #[.int .u8 (b.toNat : Int)] 5)).drew).cell? ((⟨W.heap.size, 0, none⟩ : Addr).add j) = some u := by
  intro j u hj
  match j, hj with
  | 0, hj =>
    simp at hj
    subst hj
    exact (zm W 5 #[.int .u8 (b.toNat : Int)]).cell 0
 have HP := zh (fun (w5 : World) (g cap : Nat) => hK.pushOut (W1 := (W.alloc (.cells #[.int .u8 (b.toNat : Int)] 5)).drew) (w5 := w5) (g := g) (cap := cap) b hbd hBW')
 have c43a : ((W.alloc (.cells #[.int .u8 (b.toNat : Int)] 5)).drew).cell? ⟨L.b .ker, 36, none⟩ = some (L.hd .out k.out.length) := (zw W _ ⟨L.b .ker, 36, none⟩ hltK).trans c43
 have HOWN := zh hown0
 have hsz : ((W.alloc (.cells #[.int .u8 (b.toNat : Int)] 5)).drew).heap.size = W.heap.size + 1 := by simp
 generalize hVV : L.hd .out k.out.length = VV at *
 have HW := zh hW
 have WC := zh wc
 have OW := zh hoW
 have BW := zh hBW
 have KW := zh hK
 have HN := zh hnew
 have HSZ := zh hsz
 clear h hW wc hoW hBW hbb hK hrow hVV hown0 hnew hbd hsz
 unfold callV
 go_enter Try.func59, Try.ntmps59
 go_upto_region 1 with fail
 rw [← HW.out]
 refine wp_region_held_drew (S := fun w' => w'.cell? ⟨w.heap.size, 0, none⟩ = some (.pointer (some ⟨L.b .ker, 0, none⟩)) ∧ w'.cell? ⟨w.heap.size, 4, none⟩ = some (.int .i64 o.a)) (by kernel_rfl) ?_ (fun hHeld => ?_)
 ·(try dsimp only)
  refine ⟨?_, ?_⟩ <;> go_keep
 refine tkH 0 (v := ?_) ?_ ?_; rotate_left 2
 refine tkH 1 (v := ?_) ?_ ?_; rotate_left 2
 refine tkH 2 (v := ?_) ?_ ?_; rotate_left 2
 refine tkH 3 (v := ?_) ?_ ?_; rotate_left 2
 refine tkH 4 (v := ?_) ?_ ?_; rotate_left 2
 refine tkH 5 (v := ?_) ?_ ?_; rotate_left 2
 refine tkH 7 (v := ?_) ?_ ?_; rotate_left 2
 refine tkH 8 (v := ?_) ?_ ?_; rotate_left 2
 refine tkH 9 (v := ?_) ?_ ?_; rotate_left 2
 refine tkH 10 (v := ?_) ?_ ?_; rotate_left 2
 rotate_left
 iterate 10 (rotate_left; focus (intro w hSw; (try dsimp only at hSw); obtain ⟨hS0, hS1⟩ := hSw; go_simp; with_reducible rfl))
 try simp only [Act.put, p1, p2, p3, p4, p5, p6]
 refine wpAnyH_ready (rs := [6, 11]) (by kernel_rfl) (by simp) ?_
 refine AllReadyH.cons rfl (fun K hK => ?_) ?_
 ·go_simp
  refine hK.out _ _ ?_ (fun hHeld => ?_)
  ·(try dsimp only)
   refine ⟨?_, ?_⟩ <;> go_keep
  clear hK K
  try simp only [Act.put, p4, p5, p6]
  refine wpAnyH_ready (rs := [11]) (by kernel_rfl) (by simp) ?_
  refine AllReadyH.cons rfl (fun K hK => ?_) ?_
  ·go_simp
   refine hK.out _ _ ?_ (fun hHeld => ?_)
   ·(try dsimp only)
    refine ⟨?_, ?_⟩ <;> go_keep
   clear hK K
   try simp only [Act.put, p4, p5, p6]
   refine wpAnyH_ready (rs := [12]) (by kernel_rfl) (by simp) ?_
   refine AllReadyH.cons rfl (fun K hK => ?_) ?_
   ·(refine step_append_lies _ rfl _ _ 34 rfl B 5 i5 _ 1 1 Try.underlying34 hi5 hi50 hi51 hi52 rfl (by decide) VV k.out.length (outV k.out) (by rfl) HOWN.out ⟨W.heap.size, 0, none⟩ 1 1 [.int .u8 (b.toNat : Int)] (by rfl) rfl HN.out (by simp [Value.oneCell']) (by decide) (by unfold maxLen; omega) (by omega) (by rw [HSZ.out]; omega) _ HSZ.out ?_; intro g cap w5 hown5 hgr5 hat5 hlt5; obtain ⟨hk5, hb5, ho5, hkm5⟩ := HP.out w5 g cap hown5 hgr5 (by rcases hat5 with q | q; exact .inl q; exact .inr (by omega)); have z2 : w5.cell? ⟨L.b .ker, 36, none⟩ = some VV := (zq (a := ⟨L.b .ker, 36, none⟩) (hk5 .ker (by simp) trivial)).trans c43; have z3 : w5.frozen? ⟨L.b .ker, 36, none⟩ = false := (zx (a := ⟨L.b .ker, 36, none⟩) (hk5 .ker (by simp) trivial)).trans c44; have wc5 := WC.out.same (ho5 _ OW.out); have y0 : w5.cell? ⟨w.heap.size, 0, none⟩ = some (.pointer (some ⟨L.b .ker, 0, none⟩)) := wc5.cell 0; have y1 : w5.cell? ⟨w.heap.size, 4, none⟩ = some (.int .i64 o.a) := wc5.cell 4)
    refine hK.out _ _ ?_ (fun hHeld => ?_)
    ·(try dsimp only)
     refine ⟨?_, ?_⟩ <;> go_keep
    clear hK K
    try simp only [Act.put, p4]
    refine tkH 13 (v := ?_) ?_ ?_; rotate_left 2
    refine tkH 14 (v := ?_) ?_ ?_; rotate_left 2
    rotate_left
    iterate 2 (rotate_left; focus (intro w hSw; (try dsimp only at hSw); obtain ⟨hS0, hS1⟩ := hSw; go_simp; with_reducible rfl))
    try simp only [Act.put, p1, p2, p3, p4, p5, p6]
    refine wpAnyH_ready (rs := [15]) (by kernel_rfl) (by simp) ?_
    refine AllReadyH.cons rfl (fun K hK => ?_) ?_
    ·go_simp
     refine hK.out _ _ ?_ (fun hHeld => ?_)
     ·(try dsimp only)
      refine ⟨?_, ?_⟩ <;> go_keep
     clear hK K
     try simp only [Act.put, p4, p5, p6]
     refine wpAnyH_done (by kernel_rfl) ?_ _
     obtain ⟨L', k6, s6, n6⟩ := hkm5
     have K6 := zh k6
     have S6 := zh s6
     have B5 := zh hb5
     clear k6 s6 n6 ho5 hb5 hk5 wc5
     go_wp2_with fail
     go_end0
     rw [EY.out]
     exact ⟨rfl, L', K6.out, S6.out, (BW.out.trans B5.out).setCell (p := ⟨L.b .ker, 36, none⟩) hlowK _⟩
    exact AllReadyH.nil
   exact AllReadyH.nil
  exact AllReadyH.nil
 refine AllReadyH.cons rfl (fun K hK => ?_) ?_
 ·go_simp
  refine hK.out _ _ ?_ (fun hHeld => ?_)
  ·(try dsimp only)
   refine ⟨?_, ?_⟩ <;> go_keep
  clear hK K
  try simp only [Act.put, p4, p5, p6]
  refine wpAnyH_ready (rs := [6]) (by kernel_rfl) (by simp) ?_
  refine AllReadyH.cons rfl (fun K hK => ?_) ?_
  ·go_simp
   refine hK.out _ _ ?_ (fun hHeld => ?_)
   ·(try dsimp only)
    refine ⟨?_, ?_⟩ <;> go_keep
   clear hK K
   try simp only [Act.put, p4, p5, p6]
   refine wpAnyH_ready (rs := [12]) (by kernel_rfl) (by simp) ?_
   refine AllReadyH.cons rfl (fun K hK => ?_) ?_
   ·(refine step_append_lies _ rfl _ _ 34 rfl B 5 i5 _ 1 1 Try.underlying34 hi5 hi50 hi51 hi52 rfl (by decide) VV k.out.length (outV k.out) (by rfl) HOWN.out ⟨W.heap.size, 0, none⟩ 1 1 [.int .u8 (b.toNat : Int)] (by rfl) rfl HN.out (by simp [Value.oneCell']) (by decide) (by unfold maxLen; omega) (by omega) (by rw [HSZ.out]; omega) _ HSZ.out ?_; intro g cap w5 hown5 hgr5 hat5 hlt5; obtain ⟨hk5, hb5, ho5, hkm5⟩ := HP.out w5 g cap hown5 hgr5 (by rcases hat5 with q | q; exact .inl q; exact .inr (by omega)); have z2 : w5.cell? ⟨L.b .ker, 36, none⟩ = some VV := (zq (a := ⟨L.b .ker, 36, none⟩) (hk5 .ker (by simp) trivial)).trans c43; have z3 : w5.frozen? ⟨L.b .ker, 36, none⟩ = false := (zx (a := ⟨L.b .ker, 36, none⟩) (hk5 .ker (by simp) trivial)).trans c44; have wc5 := WC.out.same (ho5 _ OW.out); have y0 : w5.cell? ⟨w.heap.size, 0, none⟩ = some (.pointer (some ⟨L.b .ker, 0, none⟩)) := wc5.cell 0; have y1 : w5.cell? ⟨w.heap.size, 4, none⟩ = some (.int .i64 o.a) := wc5.cell 4)
    refine hK.out _ _ ?_ (fun hHeld => ?_)
    ·(try dsimp only)
     refine ⟨?_, ?_⟩ <;> go_keep
    clear hK K
    try simp only [Act.put, p4]
    refine tkH 13 (v := ?_) ?_ ?_; rotate_left 2
    refine tkH 14 (v := ?_) ?_ ?_; rotate_left 2
    rotate_left
    iterate 2 (rotate_left; focus (intro w hSw; (try dsimp only at hSw); obtain ⟨hS0, hS1⟩ := hSw; go_simp; with_reducible rfl))
    try simp only [Act.put, p1, p2, p3, p4, p5, p6]
    refine wpAnyH_ready (rs := [15]) (by kernel_rfl) (by simp) ?_
    refine AllReadyH.cons rfl (fun K hK => ?_) ?_
    ·go_simp
     refine hK.out _ _ ?_ (fun hHeld => ?_)
     ·(try dsimp only)
      refine ⟨?_, ?_⟩ <;> go_keep
     clear hK K
     try simp only [Act.put, p4, p5, p6]
     refine wpAnyH_done (by kernel_rfl) ?_ _
     obtain ⟨L', k6, s6, n6⟩ := hkm5
     have K6 := zh k6
     have S6 := zh s6
     have B5 := zh hb5
     clear k6 s6 n6 ho5 hb5 hk5 wc5
     go_wp2_with fail
     go_end0
     rw [EY.out]
     exact ⟨rfl, L', K6.out, S6.out, (BW.out.trans B5.out).setCell (p := ⟨L.b .ker, 36, none⟩) hlowK _⟩
    exact AllReadyH.nil
   exact AllReadyH.nil
  exact AllReadyH.nil
 exact AllReadyH.nil
set_option maxRecDepth 100000 in
set_option maxHeartbeats 16000000 in
theorem show_any {w : World} {B : Nat} {k : Kn.K} {L : Lay} {m : Nat} {o : Kn.Op} (h : KM w B k L) (_hk : Kn.Ok k) (hm : m < k.tasks.length) (hB : B ≤ w.heap.size) (ho : k.out.length ≤ 1000000) :
 Calls Try.prog 68 #[callV L m o] w (CallPost w B (k.show_ m) L) := by
 obtain ⟨W, hW⟩ : ∃ W, W = w.alloc (.cells #[.pointer (some ⟨L.b .ker, 0, none⟩), .int .i64 m, .pointer (some ⟨L.b (.t m), 0, none⟩), .int .i64 o.kind, .int .i64 o.a, .int .i64 o.b] 112) := ⟨_, rfl⟩
 have hbb : Below w.heap.size w W := by rw [hW]; exact (zr _ _).alloc (zl _) _
 have hK := h.below hbb
 have wc : Whole W w.heap.size 112 #[.pointer (some ⟨L.b .ker, 0, none⟩), .int .i64 m, .pointer (some ⟨L.b (.t m), 0, none⟩), .int .i64 o.kind, .int .i64 o.a, .int .i64 o.b] := by rw [hW]; exact zm w 112 _
 have hoW : Out W k L w.heap.size := ⟨wc.lt, fun c hc e => by have := h.lt hc; omega⟩
 have hBW : Below B w W := hbb.mono hB
 have hzW := hBW.size
 have c0 : W.cell? ⟨w.heap.size, 0, none⟩ = some (.pointer (some ⟨L.b .ker, 0, none⟩)) := wc.cell 0
 have c2 : W.cell? ⟨w.heap.size, 2, none⟩ = some (.pointer (some ⟨L.b (.t m), 0, none⟩)) := wc.cell 2
 obtain ⟨i5, hi5, hi50, hi51, hi52⟩ := info5'
 have hrow := hK.outRow
 have c43 : W.cell? ⟨L.b .ker, 36, none⟩ = some (L.hd .out k.out.length) := (hK.ker.cell 36).trans kerCells_36
 have c44 : W.frozen? ⟨L.b .ker, 36, none⟩ = false := hK.ker.frozen 36
 have hltK : L.b .ker < W.heap.size := hK.lt (c := .ker) trivial
 have hlowK := hK.low .ker trivial
 have hgK := hoW.2 .ker trivial
 have hgK2 : w.heap.size ≠ L.b .ker := fun e => hgK e.symm
 have hBW' : B ≤ W.heap.size := by omega
 have wt := hK.task hm
 have t5 : W.cell? ⟨L.b (.t m), 5, none⟩ = some (.int .i64 (kT k m).answer) := wt.cell 5
 have hltT : L.b (.t m) < W.heap.size := wt.lt
 have hKT : L.b .ker ≠ L.b (.t m) := fun e => by cases hK.apart .ker (.t m) trivial hm e
 have hKT2 : L.b (.t m) ≠ L.b .ker := fun e => hKT e.symm
 have ES : k.show_ m = k.put (97 + (kT k m).answer.tmod 26) := rfl
 generalize (kT k m).answer = an at *
 obtain ⟨b, hb⟩ : ∃ b, b = UInt8.ofNat (97 + an.tmod 26).toNat := ⟨_, rfl⟩
 have htm : -26 < an.tmod 26 ∧ an.tmod 26 < 26 := ⟨Int.lt_tmod_of_pos an (by decide), Int.tmod_lt_of_pos an (by decide)⟩
 have hw26 : IntKind.i64.wrap (an.tmod 26) = an.tmod 26 := by rw [IntKind.wrap_i64]; omega
 have hw64 : IntKind.i64.wrap (97 + an.tmod 26) = 97 + an.tmod 26 := by rw [IntKind.wrap_i64]; omega
 have hw8 : IntKind.u8.wrap (97 + an.tmod 26) = (b.toNat : Int) := by rw [hb, UInt8.toNat_ofNat', IntKind.wrap_u8]; omega
 have EY : Hid (k.show_ m = { k with out := k.out ++ [b] }) := by show _ = _; rw [ES, hb]; rfl
 clear hb wt ES
 have hbd : Below W.heap.size W ((W.alloc (.cells #[.int .u8 (b.toNat : Int)] 5)).drew) := ((zr W.heap.size W).alloc (zl _) _).drew
 have hown0 : ((W.alloc (.cells #[.int .u8 (b.toNat : Int)] 5)).drew).ownsRow B 5 1 (L.hd .out k.out.length) k.out.length (outV k.out) := (hrow.alloc _).drew
 have hnew : ∀ (j : Nat) (u : Value), ([.int .u8 (b.toNat : Int)] : List Value)[j]? = some u → ((W.alloc (.cells #[.int .u8 (b.toNat : Int)] 5)).drew).cell? ((⟨W.heap.size, 0, none⟩ : Addr).add j) = some u := by
  intro j u hj
  match j, hj with
  | 0, hj =>
    simp at hj
    subst hj
    exact (zm W 5 #[.int .u8 (b.toNat : Int)]).cell 0
 have HP := zh (fun (w5 : World) (g cap : Nat) => hK.pushOut (W1 := (W.alloc (.cells #[.int .u8 (b.toNat : Int)] 5)).drew) (w5 := w5) (g := g) (cap := cap) b hbd hBW')
 have c43a : ((W.alloc (.cells #[.int .u8 (b.toNat : Int)] 5)).drew).cell? ⟨L.b .ker, 36, none⟩ = some (L.hd .out k.out.length) := (zw W _ ⟨L.b .ker, 36, none⟩ hltK).trans c43
 have HOWN := zh hown0
 have hsz : ((W.alloc (.cells #[.int .u8 (b.toNat : Int)] 5)).drew).heap.size = W.heap.size + 1 := by simp
 generalize hVV : L.hd .out k.out.length = VV at *
 have HW := zh hW
 have WC := zh wc
 have OW := zh hoW
 have BW := zh hBW
 have KW := zh hK
 have HN := zh hnew
 have HSZ := zh hsz
 clear h hW wc hoW hBW hbb hK hrow hVV hown0 hnew hbd hsz
 unfold callV
 go_enter Try.func68, Try.ntmps68
 go_upto_region 1 with fail
 rw [← HW.out]
 refine wp_region_held_drew (S := fun w' => w'.cell? ⟨w.heap.size, 0, none⟩ = some (.pointer (some ⟨L.b .ker, 0, none⟩)) ∧ w'.cell? ⟨w.heap.size, 2, none⟩ = some (.pointer (some ⟨L.b (.t m), 0, none⟩)) ∧ w'.cell? ⟨L.b (.t m), 5, none⟩ = some (.int .i64 an)) (by kernel_rfl) ?_ (fun hHeld => ?_)
 ·(try dsimp only)
  refine ⟨?_, ?_, ?_⟩ <;> go_keep
 refine tkH 0 (v := ?_) ?_ ?_; rotate_left 2
 refine tkH 1 (v := ?_) ?_ ?_; rotate_left 2
 refine tkH 2 (v := ?_) ?_ ?_; rotate_left 2
 refine tkH 3 (v := ?_) ?_ ?_; rotate_left 2
 refine tkH 4 (v := ?_) ?_ ?_; rotate_left 2
 refine tkH 5 (v := ?_) ?_ ?_; rotate_left 2
 refine tkH 7 (v := ?_) ?_ ?_; rotate_left 2
 refine tkH 8 (v := ?_) ?_ ?_; rotate_left 2
 refine tkH 9 (v := ?_) ?_ ?_; rotate_left 2
 refine tkH 10 (v := ?_) ?_ ?_; rotate_left 2
 refine tkH 11 (v := ?_) ?_ ?_; rotate_left 2
 refine tkH 12 (v := ?_) ?_ ?_; rotate_left 2
 refine tkH 13 (v := ?_) ?_ ?_; rotate_left 2
 refine tkH 14 (v := ?_) ?_ ?_; rotate_left 2
 rotate_left
 iterate 14 (rotate_left; focus (intro w hSw; (try dsimp only at hSw); obtain ⟨hS0, hS1, hS2⟩ := hSw; go_simp; with_reducible rfl))
 try simp only [Act.put, p1, p2, p3, p4, p5, p6]
 refine wpAnyH_ready (rs := [6, 15]) (by kernel_rfl) (by simp) ?_
 refine AllReadyH.cons rfl (fun K hK => ?_) ?_
 ·go_simp
  refine hK.out _ _ ?_ (fun hHeld => ?_)
  ·(try dsimp only)
   refine ⟨?_, ?_, ?_⟩ <;> go_keep
  clear hK K
  try simp only [Act.put, p4, p5, p6]
  refine wpAnyH_ready (rs := [15]) (by kernel_rfl) (by simp) ?_
  refine AllReadyH.cons rfl (fun K hK => ?_) ?_
  ·go_simp
   refine hK.out _ _ ?_ (fun hHeld => ?_)
   ·(try dsimp only)
    refine ⟨?_, ?_, ?_⟩ <;> go_keep
   clear hK K
   try simp only [Act.put, p4, p5, p6]
   refine wpAnyH_ready (rs := [16]) (by kernel_rfl) (by simp) ?_
   refine AllReadyH.cons rfl (fun K hK => ?_) ?_
   ·(refine step_append_lies _ rfl _ _ 34 rfl B 5 i5 _ 1 1 Try.underlying34 hi5 hi50 hi51 hi52 rfl (by decide) VV k.out.length (outV k.out) (by rfl) HOWN.out ⟨W.heap.size, 0, none⟩ 1 1 [.int .u8 (b.toNat : Int)] (by rfl) rfl HN.out (by simp [Value.oneCell']) (by decide) (by unfold maxLen; omega) (by omega) (by rw [HSZ.out]; omega) _ HSZ.out ?_; intro g cap w5 hown5 hgr5 hat5 hlt5; obtain ⟨hk5, hb5, ho5, hkm5⟩ := HP.out w5 g cap hown5 hgr5 (by rcases hat5 with q | q; exact .inl q; exact .inr (by omega)); have z2 : w5.cell? ⟨L.b .ker, 36, none⟩ = some VV := (zq (a := ⟨L.b .ker, 36, none⟩) (hk5 .ker (by simp) trivial)).trans c43; have z3 : w5.frozen? ⟨L.b .ker, 36, none⟩ = false := (zx (a := ⟨L.b .ker, 36, none⟩) (hk5 .ker (by simp) trivial)).trans c44; have wc5 := WC.out.same (ho5 _ OW.out); have y0 : w5.cell? ⟨w.heap.size, 0, none⟩ = some (.pointer (some ⟨L.b .ker, 0, none⟩)) := wc5.cell 0; have y1 : w5.cell? ⟨w.heap.size, 2, none⟩ = some (.pointer (some ⟨L.b (.t m), 0, none⟩)) := wc5.cell 2; have y2 : w5.cell? ⟨L.b (.t m), 5, none⟩ = some (.int .i64 an) := (zq (a := ⟨L.b (.t m), 5, none⟩) (hk5 (.t m) (by simp) hm)).trans t5)
    refine hK.out _ _ ?_ (fun hHeld => ?_)
    ·(try dsimp only)
     refine ⟨?_, ?_, ?_⟩ <;> go_keep
    clear hK K
    try simp only [Act.put, p4]
    refine tkH 17 (v := ?_) ?_ ?_; rotate_left 2
    refine tkH 18 (v := ?_) ?_ ?_; rotate_left 2
    rotate_left
    iterate 2 (rotate_left; focus (intro w hSw; (try dsimp only at hSw); obtain ⟨hS0, hS1, hS2⟩ := hSw; go_simp; with_reducible rfl))
    try simp only [Act.put, p1, p2, p3, p4, p5, p6]
    refine wpAnyH_ready (rs := [19]) (by kernel_rfl) (by simp) ?_
    refine AllReadyH.cons rfl (fun K hK => ?_) ?_
    ·go_simp
     refine hK.out _ _ ?_ (fun hHeld => ?_)
     ·(try dsimp only)
      refine ⟨?_, ?_, ?_⟩ <;> go_keep
     clear hK K
     try simp only [Act.put, p4, p5, p6]
     refine wpAnyH_done (by kernel_rfl) ?_ _
     obtain ⟨L', k6, s6, n6⟩ := hkm5
     have K6 := zh k6
     have S6 := zh s6
     have B5 := zh hb5
     clear k6 s6 n6 ho5 hb5 hk5 wc5
     go_wp2_with fail
     go_end0
     rw [EY.out]
     exact ⟨rfl, L', K6.out, S6.out, (BW.out.trans B5.out).setCell (p := ⟨L.b .ker, 36, none⟩) hlowK _⟩
    exact AllReadyH.nil
   exact AllReadyH.nil
  exact AllReadyH.nil
 refine AllReadyH.cons rfl (fun K hK => ?_) ?_
 ·go_simp
  refine hK.out _ _ ?_ (fun hHeld => ?_)
  ·(try dsimp only)
   refine ⟨?_, ?_, ?_⟩ <;> go_keep
  clear hK K
  try simp only [Act.put, p4, p5, p6]
  refine wpAnyH_ready (rs := [6]) (by kernel_rfl) (by simp) ?_
  refine AllReadyH.cons rfl (fun K hK => ?_) ?_
  ·go_simp
   refine hK.out _ _ ?_ (fun hHeld => ?_)
   ·(try dsimp only)
    refine ⟨?_, ?_, ?_⟩ <;> go_keep
   clear hK K
   try simp only [Act.put, p4, p5, p6]
   refine wpAnyH_ready (rs := [16]) (by kernel_rfl) (by simp) ?_
   refine AllReadyH.cons rfl (fun K hK => ?_) ?_
   ·(refine step_append_lies _ rfl _ _ 34 rfl B 5 i5 _ 1 1 Try.underlying34 hi5 hi50 hi51 hi52 rfl (by decide) VV k.out.length (outV k.out) (by rfl) HOWN.out ⟨W.heap.size, 0, none⟩ 1 1 [.int .u8 (b.toNat : Int)] (by rfl) rfl HN.out (by simp [Value.oneCell']) (by decide) (by unfold maxLen; omega) (by omega) (by rw [HSZ.out]; omega) _ HSZ.out ?_; intro g cap w5 hown5 hgr5 hat5 hlt5; obtain ⟨hk5, hb5, ho5, hkm5⟩ := HP.out w5 g cap hown5 hgr5 (by rcases hat5 with q | q; exact .inl q; exact .inr (by omega)); have z2 : w5.cell? ⟨L.b .ker, 36, none⟩ = some VV := (zq (a := ⟨L.b .ker, 36, none⟩) (hk5 .ker (by simp) trivial)).trans c43; have z3 : w5.frozen? ⟨L.b .ker, 36, none⟩ = false := (zx (a := ⟨L.b .ker, 36, none⟩) (hk5 .ker (by simp) trivial)).trans c44; have wc5 := WC.out.same (ho5 _ OW.out); have y0 : w5.cell? ⟨w.heap.size, 0, none⟩ = some (.pointer (some ⟨L.b .ker, 0, none⟩)) := wc5.cell 0; have y1 : w5.cell? ⟨w.heap.size, 2, none⟩ = some (.pointer (some ⟨L.b (.t m), 0, none⟩)) := wc5.cell 2; have y2 : w5.cell? ⟨L.b (.t m), 5, none⟩ = some (.int .i64 an) := (zq (a := ⟨L.b (.t m), 5, none⟩) (hk5 (.t m) (by simp) hm)).trans t5)
    refine hK.out _ _ ?_ (fun hHeld => ?_)
    ·(try dsimp only)
     refine ⟨?_, ?_, ?_⟩ <;> go_keep
    clear hK K
    try simp only [Act.put, p4]
    refine tkH 17 (v := ?_) ?_ ?_; rotate_left 2
    refine tkH 18 (v := ?_) ?_ ?_; rotate_left 2
    rotate_left
    iterate 2 (rotate_left; focus (intro w hSw; (try dsimp only at hSw); obtain ⟨hS0, hS1, hS2⟩ := hSw; go_simp; with_reducible rfl))
    try simp only [Act.put, p1, p2, p3, p4, p5, p6]
    refine wpAnyH_ready (rs := [19]) (by kernel_rfl) (by simp) ?_
    refine AllReadyH.cons rfl (fun K hK => ?_) ?_
    ·go_simp
     refine hK.out _ _ ?_ (fun hHeld => ?_)
     ·(try dsimp only)
      refine ⟨?_, ?_, ?_⟩ <;> go_keep
     clear hK K
     try simp only [Act.put, p4, p5, p6]
     refine wpAnyH_done (by kernel_rfl) ?_ _
     obtain ⟨L', k6, s6, n6⟩ := hkm5
     have K6 := zh k6
     have S6 := zh s6
     have B5 := zh hb5
     clear k6 s6 n6 ho5 hb5 hk5 wc5
     go_wp2_with fail
     go_end0
     rw [EY.out]
     exact ⟨rfl, L', K6.out, S6.out, (BW.out.trans B5.out).setCell (p := ⟨L.b .ker, 36, none⟩) hlowK _⟩
    exact AllReadyH.nil
   exact AllReadyH.nil
  exact AllReadyH.nil
 exact AllReadyH.nil
set_option maxRecDepth 100000 in
set_option maxHeartbeats 16000000 in
theorem poke_any {w : World} {B : Nat} {k : Kn.K} {L : Lay} {m : Nat} {o : Kn.Op} (h : KM w B k L) (hk : Kn.Ok k) (hm : m < k.tasks.length) (hB : B ≤ w.heap.size) (ho : k.out.length ≤ 1000000) :
 Calls Try.prog 71 #[callV L m o] w (CallPost w B ((k.put 33).fin m) L) := by
 obtain ⟨W, hW⟩ : ∃ W, W = w.alloc (.cells #[.pointer (some ⟨L.b .ker, 0, none⟩), .int .i64 m, .pointer (some ⟨L.b (.t m), 0, none⟩), .int .i64 o.kind, .int .i64 o.a, .int .i64 o.b] 112) := ⟨_, rfl⟩
 have hbb : Below w.heap.size w W := by rw [hW]; exact (zr _ _).alloc (zl _) _
 have hK := h.below hbb
 have wc : Whole W w.heap.size 112 #[.pointer (some ⟨L.b .ker, 0, none⟩), .int .i64 m, .pointer (some ⟨L.b (.t m), 0, none⟩), .int .i64 o.kind, .int .i64 o.a, .int .i64 o.b] := by rw [hW]; exact zm w 112 _
 have hoW : Out W k L w.heap.size := ⟨wc.lt, fun c hc e => by have := h.lt hc; omega⟩
 have hBW : Below B w W := hbb.mono hB
 have hzW := hBW.size
 have c0 : W.cell? ⟨w.heap.size, 0, none⟩ = some (.pointer (some ⟨L.b .ker, 0, none⟩)) := wc.cell 0
 have c1 : W.cell? ⟨w.heap.size, 1, none⟩ = some (.int .i64 m) := wc.cell 1
 obtain ⟨i5, hi5, hi50, hi51, hi52⟩ := info5'
 have hrow := hK.outRow
 have c43 : W.cell? ⟨L.b .ker, 36, none⟩ = some (L.hd .out k.out.length) := (hK.ker.cell 36).trans kerCells_36
 have c44 : W.frozen? ⟨L.b .ker, 36, none⟩ = false := hK.ker.frozen 36
 have hltK : L.b .ker < W.heap.size := hK.lt (c := .ker) trivial
 have hlowK := hK.low .ker trivial
 have hgK := hoW.2 .ker trivial
 have hgK2 : w.heap.size ≠ L.b .ker := fun e => hgK e.symm
 have hBW' : B ≤ W.heap.size := by omega
 have EY : Hid (k.put 33 = { k with out := k.out ++ [33] }) := rfl
 have hfine : Fine { k with out := k.out ++ [(33 : UInt8)] } 32 := by
  have q := hk.fine
  exact ⟨q.tasks, q.prio, q.len, q.on, q.val⟩
 have HF := zh hfine
 clear hfine
 have hbd : Below W.heap.size W ((W.alloc (.cells #[.int .u8 33] 5)).drew) := ((zr W.heap.size W).alloc (zl _) _).drew
 have hown0 : ((W.alloc (.cells #[.int .u8 33] 5)).drew).ownsRow B 5 1 (L.hd .out k.out.length) k.out.length (outV k.out) := (hrow.alloc _).drew
 have hnew : ∀ (j : Nat) (u : Value), ([.int .u8 33] : List Value)[j]? = some u → ((W.alloc (.cells #[.int .u8 33] 5)).drew).cell? ((⟨W.heap.size, 0, none⟩ : Addr).add j) = some u := by
  intro j u hj
  match j, hj with
  | 0, hj =>
    simp at hj
    subst hj
    exact (zm W 5 #[.int .u8 33]).cell 0
 have HP := zh (fun (w5 : World) (g cap : Nat) => hK.pushOut (W1 := (W.alloc (.cells #[.int .u8 33] 5)).drew) (w5 := w5) (g := g) (cap := cap) 33 hbd hBW')
 have c43a : ((W.alloc (.cells #[.int .u8 33] 5)).drew).cell? ⟨L.b .ker, 36, none⟩ = some (L.hd .out k.out.length) := (zw W _ ⟨L.b .ker, 36, none⟩ hltK).trans c43
 have HOWN := zh hown0
 have hsz : ((W.alloc (.cells #[.int .u8 33] 5)).drew).heap.size = W.heap.size + 1 := by simp
 generalize hVV : L.hd .out k.out.length = VV at *
 have HW := zh hW
 have WC := zh wc
 have OW := zh hoW
 have BW := zh hBW
 have KW := zh hK
 have HN := zh hnew
 have HSZ := zh hsz
 clear h hW wc hoW hBW hbb hK hrow hVV hown0 hnew hbd hk hsz
 unfold callV
 go_enter Try.func71, Try.ntmps71
 go_upto_region 1 with fail
 rw [← HW.out]
 refine wp_region_held_drew (S := fun w' => w'.cell? ⟨w.heap.size, 0, none⟩ = some (.pointer (some ⟨L.b .ker, 0, none⟩)) ∧ w'.cell? ⟨w.heap.size, 1, none⟩ = some (.int .i64 m)) (by kernel_rfl) ?_ (fun hHeld => ?_)
 ·(try dsimp only)
  refine ⟨?_, ?_⟩ <;> go_keep
 refine tkH 0 (v := ?_) ?_ ?_; rotate_left 2
 refine tkH 1 (v := ?_) ?_ ?_; rotate_left 2
 refine tkH 2 (v := ?_) ?_ ?_; rotate_left 2
 refine tkH 3 (v := ?_) ?_ ?_; rotate_left 2
 refine tkH 4 (v := ?_) ?_ ?_; rotate_left 2
 refine tkH 5 (v := ?_) ?_ ?_; rotate_left 2
 rotate_left
 iterate 6 (rotate_left; focus (intro w hSw; (try dsimp only at hSw); obtain ⟨hS0, hS1⟩ := hSw; go_simp; with_reducible rfl))
 try simp only [Act.put, p1, p2, p3, p4, p5, p6]
 refine wpAnyH_ready (rs := [6, 7]) (by kernel_rfl) (by simp) ?_
 refine AllReadyH.cons rfl (fun K hK => ?_) ?_
 ·go_simp
  refine hK.out _ _ ?_ (fun hHeld => ?_)
  ·(try dsimp only)
   refine ⟨?_, ?_⟩ <;> go_keep
  clear hK K
  try simp only [Act.put, p4, p5, p6]
  refine wpAnyH_ready (rs := [7]) (by kernel_rfl) (by simp) ?_
  refine AllReadyH.cons rfl (fun K hK => ?_) ?_
  ·go_simp
   refine hK.out _ _ ?_ (fun hHeld => ?_)
   ·(try dsimp only)
    refine ⟨?_, ?_⟩ <;> go_keep
   clear hK K
   try simp only [Act.put, p4, p5, p6]
   refine wpAnyH_ready (rs := [8]) (by kernel_rfl) (by simp) ?_
   refine AllReadyH.cons rfl (fun K hK => ?_) ?_
   ·(refine step_append_lies _ rfl _ _ 34 rfl B 5 i5 _ 1 1 Try.underlying34 hi5 hi50 hi51 hi52 rfl (by decide) VV k.out.length (outV k.out) (by rfl) HOWN.out ⟨W.heap.size, 0, none⟩ 1 1 [.int .u8 33] (by rfl) rfl HN.out (by simp [Value.oneCell']) (by decide) (by unfold maxLen; omega) (by omega) (by rw [HSZ.out]; omega) _ HSZ.out ?_; intro g cap w5 hown5 hgr5 hat5 hlt5; obtain ⟨hk5, hb5, ho5, hkm5⟩ := HP.out w5 g cap hown5 hgr5 (by rcases hat5 with q | q; exact .inl q; exact .inr (by omega)); have z2 : w5.cell? ⟨L.b .ker, 36, none⟩ = some VV := (zq (a := ⟨L.b .ker, 36, none⟩) (hk5 .ker (by simp) trivial)).trans c43; have z3 : w5.frozen? ⟨L.b .ker, 36, none⟩ = false := (zx (a := ⟨L.b .ker, 36, none⟩) (hk5 .ker (by simp) trivial)).trans c44; have wc5 := WC.out.same (ho5 _ OW.out); have y0 : w5.cell? ⟨w.heap.size, 0, none⟩ = some (.pointer (some ⟨L.b .ker, 0, none⟩)) := wc5.cell 0; have y1 : w5.cell? ⟨w.heap.size, 1, none⟩ = some (.int .i64 m) := wc5.cell 1)
    refine hK.out _ _ ?_ (fun hHeld => ?_)
    ·(try dsimp only)
     refine ⟨?_, ?_⟩ <;> go_keep
    clear hK K
    try simp only [Act.put, p4]
    refine tkH 9 (v := ?_) ?_ ?_; rotate_left 2
    refine tkH 10 (v := ?_) ?_ ?_; rotate_left 2
    rotate_left
    iterate 2 (rotate_left; focus (intro w hSw; (try dsimp only at hSw); obtain ⟨hS0, hS1⟩ := hSw; go_simp; with_reducible rfl))
    try simp only [Act.put, p1, p2, p3, p4, p5, p6]
    refine wpAnyH_ready (rs := [11]) (by kernel_rfl) (by simp) ?_
    refine AllReadyH.cons rfl (fun K hK => ?_) ?_
    ·go_simp
     refine hK.out _ _ ?_ (fun hHeld => ?_)
     ·(try dsimp only)
      refine ⟨?_, ?_⟩ <;> go_keep
     clear hK K
     try simp only [Act.put, p4, p5, p6]
     refine wpAnyH_done (by kernel_rfl) ?_ _
     obtain ⟨L', k6, s6, n6⟩ := hkm5
     have hz5 := hb5.size
     obtain ⟨W6, hW6⟩ : ∃ W6, W6 = w5.setCell ⟨L.b .ker, 36, none⟩ (.slice (some ⟨g, 0, none⟩) (k.out.length + 1) cap) := ⟨_, rfl⟩
     have wc6 : Whole W6 w.heap.size 112 #[.pointer (some ⟨L.b .ker, 0, none⟩), .int .i64 m, .pointer (some ⟨L.b (.t m), 0, none⟩), .int .i64 o.kind, .int .i64 o.a, .int .i64 o.b] := by rw [hW6]; exact wc5.far hgK2 _
     rw [← hW6] at k6 ⊢
     have hz6 : W6.heap.size = w5.heap.size := by rw [hW6, World.size_setCell]
     have HE := zh (end_any k6 HF.out (by decide) hm (by omega))
     have eK6 : L'.b .ker = L.b .ker := s6 .ker rfl
     unfold Lay.ptr at HE
     rw [eK6] at HE
     clear y0 y1 z2 z3 c0 c1
     have d0 : W6.cell? ⟨w.heap.size, 0, none⟩ = some (.pointer (some ⟨L.b .ker, 0, none⟩)) := wc6.cell 0
     have d1 : W6.cell? ⟨w.heap.size, 1, none⟩ = some (.int .i64 m) := wc6.cell 1
     have B6 : Hid (Below B w W6) := by show Below _ _ _; rw [hW6]; exact (BW.out.trans hb5).setCell (p := ⟨L.b .ker, 36, none⟩) hlowK _
     have S6 := zh s6
     clear k6 s6 n6 ho5 hb5 hk5 wc5 wc6 hW6
     go_wp2_with (go_at_call 43; refine HE.out.mono ?_; rintro e w7 ⟨rfl, L7, k7, s7, b7, _⟩)
     go_wp2_with fail
     go_end0
     rw [EY.out]
     exact ⟨rfl, L7, k7, S6.out.trans s7, B6.out.trans b7⟩
    exact AllReadyH.nil
   exact AllReadyH.nil
  exact AllReadyH.nil
 refine AllReadyH.cons rfl (fun K hK => ?_) ?_
 ·go_simp
  refine hK.out _ _ ?_ (fun hHeld => ?_)
  ·(try dsimp only)
   refine ⟨?_, ?_⟩ <;> go_keep
  clear hK K
  try simp only [Act.put, p4, p5, p6]
  refine wpAnyH_ready (rs := [6]) (by kernel_rfl) (by simp) ?_
  refine AllReadyH.cons rfl (fun K hK => ?_) ?_
  ·go_simp
   refine hK.out _ _ ?_ (fun hHeld => ?_)
   ·(try dsimp only)
    refine ⟨?_, ?_⟩ <;> go_keep
   clear hK K
   try simp only [Act.put, p4, p5, p6]
   refine wpAnyH_ready (rs := [8]) (by kernel_rfl) (by simp) ?_
   refine AllReadyH.cons rfl (fun K hK => ?_) ?_
   ·(refine step_append_lies _ rfl _ _ 34 rfl B 5 i5 _ 1 1 Try.underlying34 hi5 hi50 hi51 hi52 rfl (by decide) VV k.out.length (outV k.out) (by rfl) HOWN.out ⟨W.heap.size, 0, none⟩ 1 1 [.int .u8 33] (by rfl) rfl HN.out (by simp [Value.oneCell']) (by decide) (by unfold maxLen; omega) (by omega) (by rw [HSZ.out]; omega) _ HSZ.out ?_; intro g cap w5 hown5 hgr5 hat5 hlt5; obtain ⟨hk5, hb5, ho5, hkm5⟩ := HP.out w5 g cap hown5 hgr5 (by rcases hat5 with q | q; exact .inl q; exact .inr (by omega)); have z2 : w5.cell? ⟨L.b .ker, 36, none⟩ = some VV := (zq (a := ⟨L.b .ker, 36, none⟩) (hk5 .ker (by simp) trivial)).trans c43; have z3 : w5.frozen? ⟨L.b .ker, 36, none⟩ = false := (zx (a := ⟨L.b .ker, 36, none⟩) (hk5 .ker (by simp) trivial)).trans c44; have wc5 := WC.out.same (ho5 _ OW.out); have y0 : w5.cell? ⟨w.heap.size, 0, none⟩ = some (.pointer (some ⟨L.b .ker, 0, none⟩)) := wc5.cell 0; have y1 : w5.cell? ⟨w.heap.size, 1, none⟩ = some (.int .i64 m) := wc5.cell 1)
    refine hK.out _ _ ?_ (fun hHeld => ?_)
    ·(try dsimp only)
     refine ⟨?_, ?_⟩ <;> go_keep
    clear hK K
    try simp only [Act.put, p4]
    refine tkH 9 (v := ?_) ?_ ?_; rotate_left 2
    refine tkH 10 (v := ?_) ?_ ?_; rotate_left 2
    rotate_left
    iterate 2 (rotate_left; focus (intro w hSw; (try dsimp only at hSw); obtain ⟨hS0, hS1⟩ := hSw; go_simp; with_reducible rfl))
    try simp only [Act.put, p1, p2, p3, p4, p5, p6]
    refine wpAnyH_ready (rs := [11]) (by kernel_rfl) (by simp) ?_
    refine AllReadyH.cons rfl (fun K hK => ?_) ?_
    ·go_simp
     refine hK.out _ _ ?_ (fun hHeld => ?_)
     ·(try dsimp only)
      refine ⟨?_, ?_⟩ <;> go_keep
     clear hK K
     try simp only [Act.put, p4, p5, p6]
     refine wpAnyH_done (by kernel_rfl) ?_ _
     obtain ⟨L', k6, s6, n6⟩ := hkm5
     have hz5 := hb5.size
     obtain ⟨W6, hW6⟩ : ∃ W6, W6 = w5.setCell ⟨L.b .ker, 36, none⟩ (.slice (some ⟨g, 0, none⟩) (k.out.length + 1) cap) := ⟨_, rfl⟩
     have wc6 : Whole W6 w.heap.size 112 #[.pointer (some ⟨L.b .ker, 0, none⟩), .int .i64 m, .pointer (some ⟨L.b (.t m), 0, none⟩), .int .i64 o.kind, .int .i64 o.a, .int .i64 o.b] := by rw [hW6]; exact wc5.far hgK2 _
     rw [← hW6] at k6 ⊢
     have hz6 : W6.heap.size = w5.heap.size := by rw [hW6, World.size_setCell]
     have HE := zh (end_any k6 HF.out (by decide) hm (by omega))
     have eK6 : L'.b .ker = L.b .ker := s6 .ker rfl
     unfold Lay.ptr at HE
     rw [eK6] at HE
     clear y0 y1 z2 z3 c0 c1
     have d0 : W6.cell? ⟨w.heap.size, 0, none⟩ = some (.pointer (some ⟨L.b .ker, 0, none⟩)) := wc6.cell 0
     have d1 : W6.cell? ⟨w.heap.size, 1, none⟩ = some (.int .i64 m) := wc6.cell 1
     have B6 : Hid (Below B w W6) := by show Below _ _ _; rw [hW6]; exact (BW.out.trans hb5).setCell (p := ⟨L.b .ker, 36, none⟩) hlowK _
     have S6 := zh s6
     clear k6 s6 n6 ho5 hb5 hk5 wc5 wc6 hW6
     go_wp2_with (go_at_call 43; refine HE.out.mono ?_; rintro e w7 ⟨rfl, L7, k7, s7, b7, _⟩)
     go_wp2_with fail
     go_end0
     rw [EY.out]
     exact ⟨rfl, L7, k7, S6.out.trans s7, B6.out.trans b7⟩
    exact AllReadyH.nil
   exact AllReadyH.nil
  exact AllReadyH.nil
 exact AllReadyH.nil
end Go.Proofs.Ytncbgnpoffolcaa
/-! The calls: the walks of delay, take, lock and unlock. -/
namespace Go.Proofs.Ytncbgnpoffolcaa
open Go.RowKit
section
variable {w : World} {B : Nat} {k : Kn.K} {L : Lay}
theorem KM.semHead (h : KM w B k L) : w.cell? ⟨L.b .ker, 1, none⟩ = some (L.hd .sa k.sems.length) := by
 rw [h.ker.cell]
 rfl
theorem KM.saOk (h : KM w B k L) (hn : 0 < k.sems.length) : L.nil .sa = false := by
 cases hh : L.nil .sa with
 | false => rfl
 | true => have := h.nil.2.1 hh; omega
theorem KM.semPtr (h : KM w B k L) {i : Nat} (hi : i < k.sems.length) : L.hd .sa k.sems.length = .slice (some ⟨L.b .sa, 0, none⟩) k.sems.length (L.cap .sa) ∧ w.cell? ⟨L.b .sa, i, none⟩ = some (.pointer (some ⟨L.b (.s i), 0, none⟩)) := by
 obtain ⟨h0, cur, hb, _, _, _, hc⟩ := h.cont .sa (h.saOk (by omega))
 refine ⟨?_, ?_⟩
 ·unfold Lay.hd
  rw [h.saOk (by omega)]
  simp [h0]
 ·rw [cell_of_row w _ i cur 80 (0, 0) hb]
  exact hc i hi
theorem KM.queHead (h : KM w B k L) : w.cell? ⟨L.b .ker, 3, none⟩ = some (L.hd .qa k.size.length) := by
 rw [h.ker.cell]
 rfl
theorem KM.qaOk (h : KM w B k L) (hn : 0 < k.size.length) : L.nil .qa = false := by
 cases hh : L.nil .qa with
 | false => rfl
 | true => have := h.nil.2.2.2.1 hh; omega
theorem KM.quePtr (h : KM w B k L) {i : Nat} (hi : i < k.size.length) : L.hd .qa k.size.length = .slice (some ⟨L.b .qa, 0, none⟩) k.size.length (L.cap .qa) ∧ w.cell? ⟨L.b .qa, i, none⟩ = some (.pointer (some ⟨L.b (.q i), 0, none⟩)) := by
 obtain ⟨h0, cur, hb, _, _, _, hc⟩ := h.cont .qa (h.qaOk (by omega))
 refine ⟨?_, ?_⟩
 ·unfold Lay.hd
  rw [h.qaOk (by omega)]
  simp [h0]
 ·rw [cell_of_row w _ i cur 86 (0, 0) hb]
  exact hc i hi
theorem hd_slice (L : Lay) (c : Part) (n : Nat) (hn : L.nil c = true → n = 0) : ∃ A cp, L.hd c n = .slice A n cp := by
 unfold Lay.hd
 split
 ·rename_i h
  rw [hn h]
  exact ⟨_, _, rfl⟩
 ·exact ⟨_, _, rfl⟩
theorem CallPost.say {W : World} {m : Nat} {o : Kn.Op} {a : Int} (h : KM W B k L) (hm : m < k.tasks.length) (hB : B ≤ W.heap.size) (hw : Below B w W) :
 Calls Try.prog 83 #[callV L m o, .int .i64 a] W (CallPost w B (k.say m a) L) :=
 (say_any a h hm hB).mono fun _ _ ⟨x, y, z⟩ => ⟨x, L, y, Sam.refl L, hw.trans z⟩
theorem CallPost.of {W : World} {k' : Kn.K} {e : Ending} {w' : World} (hw : Below B w W) (h : CallPost W B k' L e w') : CallPost w B k' L e w' := by
 obtain ⟨a, L', b, c, d⟩ := h
 exact ⟨a, L', b, c, hw.trans d⟩
end
theorem sems_live {k : Kn.K} {L : Lay} {i : Nat} {f : Int → Int} (c : Part) : c.live { k with sems := k.sems.modify i f } L ↔ c.live k L := by
 cases c <;> first | exact Iff.rfl | simp [Part.live]
theorem sems_cont {k : Kn.K} {L : Lay} {i : Nat} {f : Int → Int} {c : Part} {ob : Option Obj} (hne : c ≠ .s i) (hc : c.cont k L ob) : c.cont { k with sems := k.sems.modify i f } L ob := by
 cases c with
 | s j =>
   have e : j ≠ i := fun e => hne (by rw [e])
   show ob = _
   have e1 : (k.sems.modify i f).getD j 0 = k.sems.getD j 0 := by simp [Ne.symm e]
   simp only [e1]
   exact hc
 | ker =>
   show ob = _
   have e1 : kerCells { k with sems := k.sems.modify i f } L = kerCells k L := by unfold kerCells; simp only [List.length_modify]; rfl
   rw [e1]
   exact hc
 | sa =>
   obtain ⟨q1, q2⟩ := hc
   refine ⟨q1, ?_⟩
   simp only [List.length_modify]
   exact q2
 | t j => exact hc
 | m j => exact hc
 | q j => exact hc
 | l x => exact hc
 | o j => exact hc
 | lp j => exact hc
 | ta => exact hc
 | ma => exact hc
 | qa => exact hc
 | out => exact hc
/-- A semaphore's number is another one. -/
theorem KM.putSem {w : World} {B : Nat} {k : Kn.K} {L : Lay} {i : Nat} {v : Int} {f : Int → Int} (h : KM w B k L) (hi : i < k.sems.length) (hv : f k.sems[i] = v) : KM (w.setCell ⟨L.b (.s i), 0, none⟩ (.int .i64 v)) B { k with sems := k.sems.modify i f } L :=
 h.one (.s i) sems_live (by
  obtain ⟨n1, n2, n3, n4, n5, n6⟩ := h.nil
  exact ⟨n1, fun hh => by rw [List.length_modify]; exact n2 hh, n3, n4, n5, n6⟩) h.lens (by obtain ⟨f1, f2, f3⟩ := h.few; exact ⟨by rw [List.length_modify]; exact f1, f2, f3⟩)
  (fun g hg _ => zk _ _ _ _ hg) (fun _ => by
   have hw : Whole w (L.b (.s i)) 82 #[.int .i64 (k.sems.getD i 0), L.hd (.l (32 + i)) (k.l (32 + i)).length] := h.cont (.s i) hi
   have e1 : (k.sems.modify i f).getD i 0 = v := by rw [← hv]; simp [hi]
   show _ = _
   simp only [e1]
   exact hw.put 0 _) (fun c o hne _ hc => sems_cont hne hc) hi
set_option maxRecDepth 100000 in
set_option maxHeartbeats 16000000 in
theorem delay_any {w : World} {B : Nat} {k : Kn.K} {L : Lay} {m : Nat} {o : Kn.Op} (h : KM w B k L) (hk : Kn.Ok k) (hm : m < k.tasks.length) (hB : B ≤ w.heap.size) (hs : (kT k m).state = 0) :
 Calls Try.prog 61 #[callV L m o] w (CallPost w B (k.delay m o) L) := by
 obtain ⟨W, hW⟩ : ∃ W, W = w.alloc (.cells #[.pointer (some ⟨L.b .ker, 0, none⟩), .int .i64 m, .pointer (some ⟨L.b (.t m), 0, none⟩), .int .i64 o.kind, .int .i64 o.a, .int .i64 o.b] 112) := ⟨_, rfl⟩
 have hbb : Below w.heap.size w W := by rw [hW]; exact (zr _ _).alloc (zl _) _
 have hK := h.below hbb
 have wc : Whole W w.heap.size 112 #[.pointer (some ⟨L.b .ker, 0, none⟩), .int .i64 m, .pointer (some ⟨L.b (.t m), 0, none⟩), .int .i64 o.kind, .int .i64 o.a, .int .i64 o.b] := by rw [hW]; exact zm w 112 _
 have hoW : Out W k L w.heap.size := ⟨wc.lt, fun c hc e => by have := h.lt hc; omega⟩
 have hBW : Below B w W := hbb.mono hB
 have hzW := hBW.size
 have c0 : W.cell? ⟨w.heap.size, 0, none⟩ = some (.pointer (some ⟨L.b .ker, 0, none⟩)) := wc.cell 0
 have c1 : W.cell? ⟨w.heap.size, 1, none⟩ = some (.int .i64 m) := wc.cell 1
 have c2 : W.cell? ⟨w.heap.size, 2, none⟩ = some (.pointer (some ⟨L.b (.t m), 0, none⟩)) := wc.cell 2
 have c3 : W.cell? ⟨w.heap.size, 3, none⟩ = some (.int .i64 o.kind) := wc.cell 3
 have c4 : W.cell? ⟨w.heap.size, 4, none⟩ = some (.int .i64 o.a) := wc.cell 4
 have c5 : W.cell? ⟨w.heap.size, 5, none⟩ = some (.int .i64 o.b) := wc.cell 5
 have HY := zh (yield_any (o := o) hK hk hm (by omega) hs)
 have HT := zh (wait_time (m := m) o.a hK hk.fine (by decide) hm (by omega))
 unfold callV at HY
 unfold Lay.ptr at HT
 have HW := zh hW
 have WC := zh wc
 have OW := zh hoW
 have BW := zh hBW
 have KW := zh hK
 have OK := zh hk
 clear h hW wc hoW hBW hbb hK hk
 by_cases ha : o.a = 0
 ·have ED : Hid (k.delay m o = k.yield m) := by show _ = _; unfold Kn.K.delay; rw [if_pos ha]
  have ha2 : (o.a == 0) = true := by simp [ha]
  clear ha
  unfold callV
  go_enter Try.func61, Try.ntmps61
  go_upto_region 1 with fail
  rw [← HW.out]
  go_wp2_with (go_at_call 60; refine HY.out.mono ?_; rintro e w1 ⟨rfl, L1, k1, s1, b1⟩)
  go_wp2_with fail
  go_end0
  rw [ED.out]
  exact ⟨rfl, L1, k1, s1, BW.out.trans b1⟩
 ·have ED : Hid (k.delay m o = k.wait m none o.a) := by show _ = _; unfold Kn.K.delay; rw [if_neg ha]
  have ha2 : (o.a == 0) = false := by simp [ha]
  unfold callV
  go_enter Try.func61, Try.ntmps61
  go_upto_region 1 with fail
  rw [← HW.out]
  go_wp2_with (go_at_call 84; refine HT.out.mono ?_; rintro e w1 ⟨rfl, L1, k1, s1, b1⟩)
  go_wp2_with fail
  go_end0
  rw [ED.out]
  exact ⟨rfl, L1, k1, s1, BW.out.trans b1⟩
set_option maxRecDepth 100000 in
set_option maxHeartbeats 16000000 in
theorem take_any {w : World} {B : Nat} {k : Kn.K} {L : Lay} {m a : Nat} {kd ob : Int} (h : KM w B k L) (hk : Kn.Ok k) (hm : m < k.tasks.length) (hB : B ≤ w.heap.size) (_hs : (kT k m).state = 0) (hb : -1 ≤ ob ∧ ob ≤ 1000) (ha : a ≤ 15) :
 Calls Try.prog 62 #[callV L m ⟨kd, a, ob⟩] w (CallPost w B (k.take m ⟨kd, a, ob⟩) L) := by
 obtain ⟨W, hW⟩ : ∃ W, W = w.alloc (.cells #[.pointer (some ⟨L.b .ker, 0, none⟩), .int .i64 m, .pointer (some ⟨L.b (.t m), 0, none⟩), .int .i64 kd, .int .i64 (a : Int), .int .i64 ob] 112) := ⟨_, rfl⟩
 have hbb : Below w.heap.size w W := by rw [hW]; exact (zr _ _).alloc (zl _) _
 have hK := h.below hbb
 have wc : Whole W w.heap.size 112 #[.pointer (some ⟨L.b .ker, 0, none⟩), .int .i64 m, .pointer (some ⟨L.b (.t m), 0, none⟩), .int .i64 kd, .int .i64 (a : Int), .int .i64 ob] := by rw [hW]; exact zm w 112 _
 have hoW : Out W k L w.heap.size := ⟨wc.lt, fun c hc e => by have := h.lt hc; omega⟩
 have hBW : Below B w W := hbb.mono hB
 have hzW := hBW.size
 have c0 : W.cell? ⟨w.heap.size, 0, none⟩ = some (.pointer (some ⟨L.b .ker, 0, none⟩)) := wc.cell 0
 have c1 : W.cell? ⟨w.heap.size, 1, none⟩ = some (.int .i64 m) := wc.cell 1
 have c2 : W.cell? ⟨w.heap.size, 2, none⟩ = some (.pointer (some ⟨L.b (.t m), 0, none⟩)) := wc.cell 2
 have c3 : W.cell? ⟨w.heap.size, 3, none⟩ = some (.int .i64 kd) := wc.cell 3
 have c4 : W.cell? ⟨w.heap.size, 4, none⟩ = some (.int .i64 (a : Int)) := wc.cell 4
 have c5 : W.cell? ⟨w.heap.size, 5, none⟩ = some (.int .i64 ob) := wc.cell 5
 have s0 := hK.semHead
 obtain ⟨A, cp, hA⟩ := hd_slice L .sa k.sems.length hK.nil.2.1
 rw [hA] at s0
 have hfew := hK.few
 have HA := zh hA
 have HW := zh hW
 have WC := zh wc
 have OW := zh hoW
 have BW := zh hBW
 have KW := zh hK
 have OK := zh hk
 clear h hW wc hoW hBW hbb hK hk
 clear hA
 by_cases hlt : a < k.sems.length
 ·have ia : (a : Int) < k.sems.length := by omega
  have hd : decide (k.sems.length ≤ a) = false := decide_eq_false (by omega)
  obtain ⟨e1, s1⟩ := KW.out.semPtr hlt
  rw [HA.out] at e1
  injection e1 with e1 _ e3
  subst e1
  subst e3
  have ws : Whole W (L.b (.s a)) 82 #[.int .i64 (k.sems.getD a 0), L.hd (.l (32 + a)) (k.l (32 + a)).length] := KW.out.cont (.s a) hlt
  have v0 : W.cell? ⟨L.b (.s a), 0, none⟩ = some (.int .i64 (k.sems.getD a 0)) := ws.cell 0
  have vf0 := ws.frozen 0
  have hsv := OK.out.good.sems _ (List.getElem_mem hlt)
  have hsv2 : k.sems.getD a 0 = k.sems[a] := Kn.getD_at hlt 0
  rw [← hsv2] at hsv
  have hlowS := KW.out.low (.s a) hlt
  have hoS := OW.out.2 (.s a) hlt
  have hoS2 : w.heap.size ≠ L.b (.s a) := fun e => hoS e.symm
  have WS := zh ws
  have EK : Hid (k.take m ⟨kd, a, ob⟩ = if 0 < k.sems.getD a 0 then ({ k with sems := k.sems.modify a (· - 1) } : Kn.K).say m 0 else if ob = 0 then k.say m 1 else k.wait m (some (32 + a)) (if 0 ≤ ob then ob else 0)) := by
   show _ = _
   unfold Kn.K.take
   rw [if_neg (by show ¬ k.sems.length ≤ ((a : Int)).toNat; omega)]
   rfl
  clear ws hsv2
  by_cases hpos : 0 < k.sems.getD a 0
  ·have ED : Hid (k.take m ⟨kd, a, ob⟩ = ({ k with sems := k.sems.modify a (· - 1) } : Kn.K).say m 0) := by show _ = _; rw [EK.out, if_pos hpos]
   have hK2 := KW.out.putSem (v := k.sems.getD a 0 - 1) (f := (· - 1)) hlt (by rw [Kn.getD_at hlt])
   have hwS : IntKind.i64.wrap (k.sems.getD a 0 - 1) = k.sems.getD a 0 - 1 := by rw [IntKind.wrap_i64]; omega
   obtain ⟨S, hS⟩ : ∃ S, S = k.sems.getD a 0 := ⟨_, rfl⟩
   rw [← hS] at v0 hpos hK2 hwS
   obtain ⟨W3, hW3⟩ : ∃ W3, W3 = W.setCell ⟨L.b (.s a), 0, none⟩ (.int .i64 (S - 1)) := ⟨_, rfl⟩
   have wc3 : Whole W3 w.heap.size 112 #[.pointer (some ⟨L.b .ker, 0, none⟩), .int .i64 m, .pointer (some ⟨L.b (.t m), 0, none⟩), .int .i64 kd, .int .i64 (a : Int), .int .i64 ob] := by rw [hW3]; exact WC.out.far hoS2 _
   have hB3 : Below B w W3 := by rw [hW3]; exact BW.out.setCell (p := ⟨L.b (.s a), 0, none⟩) hlowS _
   rw [← hW3] at hK2
   have K3 := zh hK2
   have B3 := zh hB3
   have hz3 : W3.heap.size = W.heap.size := by rw [hW3, World.size_setCell]
   have d0 : W3.cell? ⟨w.heap.size, 0, none⟩ = some (.pointer (some ⟨L.b .ker, 0, none⟩)) := wc3.cell 0
   have d1 : W3.cell? ⟨w.heap.size, 1, none⟩ = some (.int .i64 m) := wc3.cell 1
   have d2 : W3.cell? ⟨w.heap.size, 2, none⟩ = some (.pointer (some ⟨L.b (.t m), 0, none⟩)) := wc3.cell 2
   have d3 : W3.cell? ⟨w.heap.size, 3, none⟩ = some (.int .i64 kd) := wc3.cell 3
   have d4 : W3.cell? ⟨w.heap.size, 4, none⟩ = some (.int .i64 (a : Int)) := wc3.cell 4
   have d5 : W3.cell? ⟨w.heap.size, 5, none⟩ = some (.int .i64 ob) := wc3.cell 5
   clear hS hK2 hB3 hsv wc3
   unfold callV
   go_enter Try.func62, Try.ntmps62
   go_upto_region 1 with fail
   rw [← HW.out]
   refine zy ?_
   repeat go_big_quiet_step (fail)
   refine wpQuiet_nil ?_
   intro _ hw'
   obtain ⟨n1, hw''⟩ := hw'
   subst hw''
   go_upto_region 3 with fail
   refine zy ?_
   repeat go_big_quiet_step (fail)
   refine wpQuiet_nil ?_
   intro _ hw'
   obtain ⟨n2, hw''⟩ := hw'
   subst hw''
   go_upto_region 7 with fail
   have hW3n : Hid ((W.drewN (n1 + n2)).setCell ⟨L.b (.s a), 0, none⟩ (.int .i64 (S - 1)) = W3.drewN (n1 + n2)) := by show _ = _; rw [hW3]; rfl
   rw [hW3n.out]
   have HS := zh (CallPost.say (W := W3.drewN (n1 + n2)) (w := w) (k := { k with sems := k.sems.modify a (· - 1) }) (a := 0) (o := ⟨kd, a, ob⟩) (K3.out.below ((zr _ _).drewN' (n1 + n2))) hm (by show B ≤ W3.heap.size; omega) (B3.out.drewN' (n1 + n2)))
   unfold callV at HS
   clear v0 vf0 c0 c1 c2 c3 c4 c5 hW3 hW3n
   go_wp2_with (go_at_call 83; refine HS.out.mono ?_; intro e w1 hp; obtain ⟨rfl, hp⟩ := hp)
   go_wp2_with fail
   go_end0
   rw [ED.out]
   exact ⟨rfl, hp⟩
  ·by_cases hb0 : ob = 0
   ·have ED : Hid (k.take m ⟨kd, a, ob⟩ = k.say m 1) := by show _ = _; rw [EK.out, if_neg hpos, if_pos hb0]
    subst hb0
    have hd2 : decide (0 < k.sems.getD a 0) = false := decide_eq_false hpos
    generalize k.sems.getD a 0 = S at *
    unfold callV
    go_enter Try.func62, Try.ntmps62
    go_upto_region 1 with fail
    rw [← HW.out]
    refine zy ?_
    repeat go_big_quiet_step (fail)
    refine wpQuiet_nil ?_
    intro _ hw'
    obtain ⟨n1, hw''⟩ := hw'
    subst hw''
    go_upto_region 3 with fail
    refine zy ?_
    repeat go_big_quiet_step (fail)
    refine wpQuiet_nil ?_
    intro _ hw'
    obtain ⟨n2, hw''⟩ := hw'
    subst hw''
    have KW2 : Hid (KM (W.drewN (n1 + n2)) B k L) := KW.out.below ((zr _ _).drewN' (n1 + n2))
    have BW2 : Hid (Below B w (W.drewN (n1 + n2))) := BW.out.drewN' (n1 + n2)
    have hBW2 : B ≤ (W.drewN (n1 + n2)).heap.size := by show B ≤ W.heap.size; omega
    have HS := zh (CallPost.say (a := 1) (o := ⟨kd, a, 0⟩) KW2.out hm hBW2 BW2.out)
    unfold callV at HS
    go_wp2_with (go_at_call 83; refine HS.out.mono ?_; intro e w1 hp; obtain ⟨rfl, hp⟩ := hp)
    go_wp2_with fail
    go_end0
    rw [ED.out]
    exact ⟨rfl, hp⟩
   ·obtain ⟨mx, hmx⟩ : ∃ mx, mx = if 0 ≤ ob then ob else 0 := ⟨_, rfl⟩
    have ED : Hid (k.take m ⟨kd, a, ob⟩ = k.wait m (some (32 + a)) mx) := by
     show _ = _
     rw [EK.out, if_neg hpos, if_neg hb0, hmx]
    have hmr : ∀ (w : World) (ts : Array TypeId) (t : TypeId), (Builtin.max_ ts t #[.int .i64 0, .int .i64 ob]).run Try.prog w = .ok (.int .i64 mx) w := fun w ts t => by
     rw [run_max_int2, hmx]
     by_cases q : 0 ≤ ob
     ·by_cases q2 : ob > 0
      ·rw [if_pos q, if_pos q2]
      ·omega
     ·rw [if_neg q, if_neg (by omega)]
    clear hmx
    have hb2 : (ob == 0) = false := by simp [hb0]
    have hd2 : decide (0 < k.sems.getD a 0) = false := decide_eq_false hpos
    generalize k.sems.getD a 0 = S at *
    unfold callV
    go_enter Try.func62, Try.ntmps62
    go_upto_region 1 with fail
    rw [← HW.out]
    refine zy ?_
    repeat go_big_quiet_step (fail)
    refine wpQuiet_nil ?_
    intro _ hw'
    obtain ⟨n1, hw''⟩ := hw'
    subst hw''
    go_upto_region 3 with fail
    refine zy ?_
    repeat go_big_quiet_step (fail)
    refine wpQuiet_nil ?_
    intro _ hw'
    obtain ⟨n2, hw''⟩ := hw'
    subst hw''
    have KW2 : Hid (KM (W.drewN (n1 + n2)) B k L) := KW.out.below ((zr _ _).drewN' (n1 + n2))
    have BW2 : Hid (Below B w (W.drewN (n1 + n2))) := BW.out.drewN' (n1 + n2)
    have hBW2 : B ≤ (W.drewN (n1 + n2)).heap.size := by show B ≤ W.heap.size; omega
    have HS := zh (wait_sem (m := m) (i := a) mx KW2.out OK.out.fine (by decide) hm hBW2 hlt)
    unfold Lay.ptr at HS
    go_wp2_with (go_at_call 84; refine HS.out.mono ?_; rintro e w1 ⟨rfl, L1, k1, s1, b1⟩)
    go_wp2_with fail
    go_end0
    rw [ED.out]
    exact ⟨rfl, L1, k1, s1, BW2.out.trans b1⟩
 ·have ED : Hid (k.take m ⟨kd, a, ob⟩ = k.say m 2) := by show _ = _; unfold Kn.K.take; rw [if_pos (by show k.sems.length ≤ ((a : Int)).toNat; omega)]
  have ia : (k.sems.length : Int) ≤ a := by omega
  clear hlt
  unfold callV
  go_enter Try.func62, Try.ntmps62
  go_upto_region 1 with fail
  rw [← HW.out]
  refine zy ?_
  repeat go_big_quiet_step (fail)
  refine wpQuiet_nil ?_
  intro _ hw'
  obtain ⟨n1, hw''⟩ := hw'
  subst hw''
  have HS := zh (CallPost.say (W := W.drewN n1) (w := w) (a := 2) (o := ⟨kd, a, ob⟩) (KW.out.below (Below.drewN' (zr _ _) _)) hm (by show B ≤ W.heap.size; omega) (BW.out.drewN' n1))
  unfold callV at HS
  go_wp2_with (go_at_call 83; refine HS.out.mono ?_; intro e w1 hp; obtain ⟨rfl, hp⟩ := hp)
  go_wp2_with fail
  go_end0
  rw [ED.out]
  exact ⟨rfl, hp⟩
end Go.Proofs.Ytncbgnpoffolcaa
