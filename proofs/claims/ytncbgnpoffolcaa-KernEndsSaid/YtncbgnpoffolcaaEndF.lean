/-
  KernEnds: the walk of the law, poke false.
-/
import Derived.Test.YtncbgnpoffolcaaEndA
namespace Go.Proofs.Ytncbgnpoffolcaa
open Go.RowKit
inductive EIF (low high bL : Nat) (wr : World) : Array Bool → Act → World → Prop where
  | mid (l0 l1 l2 l3 l4 l5 l6 l7 l8 l9 l10 l11 l12 l13 l14 l15 l16 l17 l18 l19 l20 l21 : Bool) (v0 v1 v2 v3 v4 v5 v6 v7 v8 v9 v10 v11 v12 v13 v14 v15 v16 v17 v18 v19 v20 v21 : Value) (W : World) (h0 : Hid (l0 = true → ROp 5 0 0 v0)) (h1 : Hid (l1 = true → ROp 2 2 0 v1)) (h2 : Hid (l2 = true → ROp 1 0 0 v2)) (h3 : Hid (l3 = true → RSl (o3K 1) 3 v3 W)) (h4 : Hid (l4 = true → RTk 0 (o3K 1) 3 v4 W)) (h5 : Hid (l5 = true → v5 = .int .i64 (low : Int))) (h6 : Hid (l6 = true → ROp 2 1 0 v6)) (h7 : Hid (l7 = true → ROp 5 0 0 v7)) (h8 : Hid (l8 = true → ROp 0 108 0 v8)) (h9 : Hid (l9 = true → ROp 6 0 0 v9)) (h10 : Hid (l10 = true → RSl o4L 4 v10 W)) (h11 : Hid (l11 = true → RTk (low : Int) o4L 4 v11 W)) (h12 : Hid (l12 = true → v12 = .int .i64 (high : Int))) (h13 : Hid (l13 = true → ROp 2 1 0 v13)) (h14 : Hid (l14 = true → ROp 5 0 0 v14)) (h15 : Hid (l15 = true → ROp 0 104 0 v15)) (h16 : Hid (l16 = true → ROp 6 0 0 v16)) (h17 : Hid (l17 = true → RSl o4H 4 v17 W)) (h18 : Hid (l18 = true → RTk (high : Int) o4H 4 v18 W)) (h19 : Hid (l19 = true → RTs 1 (low : Int) (high : Int) v19 W)) (h20 : Hid (l20 = true → RTb 1 (low : Int) (high : Int) v20 W)) (h21 : Hid (l21 = true → RPt wr.heap.size v21 W)) (HB : Hid (Below wr.heap.size wr W)) : EIF low high bL wr #[l0, l1, l2, l3, l4, l5, l6, l7, l8, l9, l10, l11, l12, l13, l14, l15, l16, l17, l18, l19, l20, l21, false] ⟨#[.bool false, .int .i64 (low : Int), .int .i64 (high : Int), undef, undef, undef, .bool false, .bool true, .pointer (some ⟨bL, 0, none⟩), v21, undef, undef, undef, .bool true, .bool true, .bool false, .bool false, .int .i64 (high : Int), .bool (decide ((high : Int) < 1)), .bool (decide ((high : Int) < 1)), .bool (decide ((high : Int) < 1)), .int .i64 (low : Int), .int .i64 (high : Int), .bool false, .bool (decide ((high : Int) < 1)), .bool (decide ((high : Int) < 1)), .int .i64 (low : Int), .bool (decide (30 < (low : Int))), .bool (decide ((high : Int) < 1) || decide (30 < (low : Int))), undef, .agg #[.int .i64 1, .int .i64 0, .int .i64 0], .bool false, undef, v0, v1, v2, v3, v4, v5, v6, v7, v8, v9, v10, v11, v12, v13, v14, v15, v16, v17, v18, v19, v20, undef, undef, undef, undef, undef, undef, undef, undef, undef, undef, undef, undef, undef, undef, undef, undef, undef, undef, undef, undef, undef, undef], []⟩ W
  | fin (v0 v1 v2 v3 v4 v5 v6 v7 v8 v9 v10 v11 v12 v13 v14 v15 v16 v17 v18 v19 v20 : Value) (b g g1 g2 g3 : Nat) (W : World) (HE : Hid (EG 1 low high g g1 g2 g3 W)) (HW : Hid (Whole W b 26 #[.slice (some ⟨g, 0, none⟩) 3 3, .slice none 0 0, .int .i64 1, .slice none 0 0])) (HB : Hid (Below wr.heap.size wr W)) : EIF low high bL wr #[true, true, true, true, true, true, true, true, true, true, true, true, true, true, true, true, true, true, true, true, true, true, true] ⟨#[.bool false, .int .i64 (low : Int), .int .i64 (high : Int), undef, undef, undef, .bool false, .bool true, .pointer (some ⟨bL, 0, none⟩), .pointer (some ⟨b, 0, none⟩), undef, undef, undef, .bool true, .bool true, .bool false, .bool false, .int .i64 (high : Int), .bool (decide ((high : Int) < 1)), .bool (decide ((high : Int) < 1)), .bool (decide ((high : Int) < 1)), .int .i64 (low : Int), .int .i64 (high : Int), .bool false, .bool (decide ((high : Int) < 1)), .bool (decide ((high : Int) < 1)), .int .i64 (low : Int), .bool (decide (30 < (low : Int))), .bool (decide ((high : Int) < 1) || decide (30 < (low : Int))), undef, .agg #[.int .i64 1, .int .i64 0, .int .i64 0], .bool false, undef, v0, v1, v2, v3, v4, v5, v6, v7, v8, v9, v10, v11, v12, v13, v14, v15, v16, v17, v18, v19, v20, undef, undef, undef, undef, undef, undef, undef, undef, undef, undef, undef, undef, undef, undef, undef, undef, undef, undef, undef, undef, undef, undef], []⟩ W
set_option maxRecDepth 100000 in
set_option maxHeartbeats 16000000 in
theorem kernEnds_f (low high : Nat) (w : World) (b0 : ¬ (high : Int) < 1) (b1 : ¬ (low : Int) ≤ high) (b2 : ¬ 30 < (low : Int)) : Calls Try.prog 16 #[.bool false, .int .i64 low, .int .i64 high] w fun r w' => r = .returned (.bool true) ∧ Below w.heap.size w w' := by
  go_enter Try.func16, Try.ntmps16
  go_wp2_with fail
  refine (alive_any w).mono ?_
  rintro e w1 ⟨rfl, hb1⟩
  have HB1 := Lib.hid hb1
  have hz1 := hb1.size
  clear hb1
  go_wp2_with fail
  refine (o_any _ _ _ _).mono ?_
  rintro e wo ⟨rfl, hbo⟩
  go_upto_region 7 with fail
  have HL := Lib.hid (Whole.made wo 32 #[.int .i64 1, .int .i64 0, .int .i64 0])
  have HBR := Lib.hid (hbo.alloc hbo.size (.cells #[.int .i64 1, .int .i64 0, .int .i64 0] 32))
  generalize hwr : wo.alloc (.cells #[.int .i64 1, .int .i64 0, .int .i64 0] 32) = wr at *
  generalize hbL : wo.heap.size = bL at *
  clear hwr
  have c0 := HL.out.cell 0
  have c1 := HL.out.cell 1
  have c2 := HL.out.cell 2
  have hlL := HL.out.lt
  replace c0 : wr.cell? ⟨bL, 0, none⟩ = some (.int .i64 1) := c0
  replace c1 : wr.cell? ⟨bL, 1, none⟩ = some (.int .i64 0) := c1
  replace c2 : wr.cell? ⟨bL, 2, none⟩ = some (.int .i64 0) := c2
  have HBS := Lib.hid (Below.drew (Below.refl wr.heap.size wr))
  clear hbo HL
  refine wp_region_any (by kernel_rfl) ?_
  refine wpAny_inv_at (fun _ listed a W => EIF low high bL wr listed a W) (by decide) ?_ ?_ ?_
  · intro listed a W hI i hi
    cases hI with
    | mid l0 l1 l2 l3 l4 l5 l6 l7 l8 l9 l10 l11 l12 l13 l14 l15 l16 l17 l18 l19 l20 l21 v0 v1 v2 v3 v4 v5 v6 v7 v8 v9 v10 v11 v12 v13 v14 v15 v16 v17 v18 v19 v20 v21 W h0 h1 h2 h3 h4 h5 h6 h7 h8 h9 h10 h11 h12 h13 h14 h15 h16 h17 h18 h19 h20 h21 HB =>
      obtain ⟨hlt9, hdep⟩ := ready_spec hi
      have hun := (mem_ready.1 hi).1
      clear hi
      have hlt9 : i < 23 := hlt9
      have hcase : i = 0 ∨ i = 1 ∨ i = 2 ∨ i = 3 ∨ i = 4 ∨ i = 5 ∨ i = 6 ∨ i = 7 ∨ i = 8 ∨ i = 9 ∨ i = 10 ∨ i = 11 ∨ i = 12 ∨ i = 13 ∨ i = 14 ∨ i = 15 ∨ i = 16 ∨ i = 17 ∨ i = 18 ∨ i = 19 ∨ i = 20 ∨ i = 21 ∨ i = 22 := by omega
      clear hlt9
      rcases hcase with rfl | rfl | rfl | rfl | rfl | rfl | rfl | rfl | rfl | rfl | rfl | rfl | rfl | rfl | rfl | rfl | rfl | rfl | rfl | rfl | rfl | rfl | rfl
      · as_aux_lemma =>
          clear hun
          clear hdep
          refine wpOp_step rfl (fun K' hK => ?_)
          refine step_o (by rfl) _ _ _ (by rfl) 5 0 0 (by rfl) (by rfl) (by rfl) ?_
          intro w' hb
          refine hK _ _ ?_
          clear hK K'
          exact EIF.mid true l1 l2 l3 l4 l5 l6 l7 l8 l9 l10 l11 l12 l13 l14 l15 l16 l17 l18 l19 l20 l21 _ _ _ _ _ _ _ _ _ _ _ _ _ _ _ _ _ _ _ _ _ _ _ (Lib.hid fun _ => rfl) (h1) (h2) (Lib.hid fun q => (h3.out q).below hb) (Lib.hid fun q => (h4.out q).below hb) (h5) (h6) (h7) (h8) (h9) (Lib.hid fun q => (h10.out q).below hb) (Lib.hid fun q => (h11.out q).below hb) (h12) (h13) (h14) (h15) (h16) (Lib.hid fun q => (h17.out q).below hb) (Lib.hid fun q => (h18.out q).below hb) (Lib.hid fun q => (h19.out q).below hb) (Lib.hid fun q => (h20.out q).below hb) (Lib.hid fun q => (h21.out q).below hb) (Lib.hid (HB.out.trans (hb.mono HB.out.size)))
      · as_aux_lemma =>
          clear hun
          clear hdep
          refine wpOp_step rfl (fun K' hK => ?_)
          refine step_o (by rfl) _ _ _ (by rfl) 2 2 0 (by rfl) (by rfl) (by rfl) ?_
          intro w' hb
          refine hK _ _ ?_
          clear hK K'
          exact EIF.mid l0 true l2 l3 l4 l5 l6 l7 l8 l9 l10 l11 l12 l13 l14 l15 l16 l17 l18 l19 l20 l21 _ _ _ _ _ _ _ _ _ _ _ _ _ _ _ _ _ _ _ _ _ _ _ (h0) (Lib.hid fun _ => rfl) (h2) (Lib.hid fun q => (h3.out q).below hb) (Lib.hid fun q => (h4.out q).below hb) (h5) (h6) (h7) (h8) (h9) (Lib.hid fun q => (h10.out q).below hb) (Lib.hid fun q => (h11.out q).below hb) (h12) (h13) (h14) (h15) (h16) (Lib.hid fun q => (h17.out q).below hb) (Lib.hid fun q => (h18.out q).below hb) (Lib.hid fun q => (h19.out q).below hb) (Lib.hid fun q => (h20.out q).below hb) (Lib.hid fun q => (h21.out q).below hb) (Lib.hid (HB.out.trans (hb.mono HB.out.size)))
      · as_aux_lemma =>
          clear hun
          clear hdep
          have q0 := (HB.out.cell (p := ⟨bL, 0, none⟩) hlL).trans c0
          have q1 := (HB.out.cell (p := ⟨bL, 1, none⟩) hlL).trans c1
          have q2 := (HB.out.cell (p := ⟨bL, 2, none⟩) hlL).trans c2
          refine wpOp_step rfl (fun K' hK => ?_)
          go_simp
          refine hK _ _ ?_
          clear hK K'
          exact EIF.mid l0 l1 true l3 l4 l5 l6 l7 l8 l9 l10 l11 l12 l13 l14 l15 l16 l17 l18 l19 l20 l21 _ _ _ _ _ _ _ _ _ _ _ _ _ _ _ _ _ _ _ _ _ _ _ (h0) (h1) (Lib.hid fun _ => rfl) (h3) (h4) (h5) (h6) (h7) (h8) (h9) (h10) (h11) (h12) (h13) (h14) (h15) (h16) (h17) (h18) (h19) (h20) (h21) HB
      · as_aux_lemma =>
          clear hun
          have d0 : l0 = true := hdep _ rfl ⟨0, .data⟩ (by simp) rfl
          have d1 : l1 = true := hdep _ rfl ⟨1, .data⟩ (by simp) rfl
          have d2 : l2 = true := hdep _ rfl ⟨2, .data⟩ (by simp) rfl
          clear hdep
          have e0 := h0.out d0
          unfold ROp at e0
          subst e0
          have e1 := h1.out d1
          unfold ROp at e1
          subst e1
          have e2 := h2.out d2
          unfold ROp at e2
          subst e2
          refine wpOp_step rfl (fun K' hK => ?_)
          refine step_ops3 (by rfl) _ _ _ (by rfl) 5 0 0 2 2 0 1 0 0 (by rfl) (by rfl) (by rfl) ?_
          refine hK _ _ ?_
          clear hK K'
          have hb := (Below.refl W.heap.size W).alloc (Nat.le_refl _) (.cells #[.int .i64 5, .int .i64 0, .int .i64 0, .int .i64 2, .int .i64 2, .int .i64 0, .int .i64 1, .int .i64 0, .int .i64 0] 32)
          exact EIF.mid l0 l1 l2 true l4 l5 l6 l7 l8 l9 l10 l11 l12 l13 l14 l15 l16 l17 l18 l19 l20 l21 _ _ _ _ _ _ _ _ _ _ _ _ _ _ _ _ _ _ _ _ _ _ _ (h0) (h1) (h2) (Lib.hid fun _ => ⟨_, rfl, Whole.made W 32 _⟩) (Lib.hid fun q => (h4.out q).below hb) (h5) (h6) (h7) (h8) (h9) (Lib.hid fun q => (h10.out q).below hb) (Lib.hid fun q => (h11.out q).below hb) (h12) (h13) (h14) (h15) (h16) (Lib.hid fun q => (h17.out q).below hb) (Lib.hid fun q => (h18.out q).below hb) (Lib.hid fun q => (h19.out q).below hb) (Lib.hid fun q => (h20.out q).below hb) (Lib.hid fun q => (h21.out q).below hb) (Lib.hid (HB.out.trans (hb.mono HB.out.size)))
      · as_aux_lemma =>
          clear hun
          have d3 : l3 = true := hdep _ rfl ⟨3, .data⟩ (by simp) rfl
          clear hdep
          obtain ⟨g, e3, hg⟩ := h3.out d3
          subst e3
          refine wpOp_step rfl (fun K' hK => ?_)
          refine step_t (by rfl) _ _ (by rfl) 0 (some ⟨g, 0, none⟩) 3 3 (by rfl) (by rfl) ?_
          intro w' hb
          refine hK _ _ ?_
          clear hK K'
          exact EIF.mid l0 l1 l2 l3 true l5 l6 l7 l8 l9 l10 l11 l12 l13 l14 l15 l16 l17 l18 l19 l20 l21 _ _ _ _ _ _ _ _ _ _ _ _ _ _ _ _ _ _ _ _ _ _ _ (h0) (h1) (h2) (Lib.hid fun q => (h3.out q).below hb) (Lib.hid fun _ => ⟨_, rfl, hg.same (hb.block _ hg.lt)⟩) (h5) (h6) (h7) (h8) (h9) (Lib.hid fun q => (h10.out q).below hb) (Lib.hid fun q => (h11.out q).below hb) (h12) (h13) (h14) (h15) (h16) (Lib.hid fun q => (h17.out q).below hb) (Lib.hid fun q => (h18.out q).below hb) (Lib.hid fun q => (h19.out q).below hb) (Lib.hid fun q => (h20.out q).below hb) (Lib.hid fun q => (h21.out q).below hb) (Lib.hid (HB.out.trans (hb.mono HB.out.size)))
      · as_aux_lemma =>
          clear hun
          clear hdep
          refine wpOp_step rfl (fun K' hK => ?_)
          go_simp
          refine hK _ _ ?_
          clear hK K'
          exact EIF.mid l0 l1 l2 l3 l4 true l6 l7 l8 l9 l10 l11 l12 l13 l14 l15 l16 l17 l18 l19 l20 l21 _ _ _ _ _ _ _ _ _ _ _ _ _ _ _ _ _ _ _ _ _ _ _ (h0) (h1) (h2) (h3) (h4) (Lib.hid fun _ => rfl) (h6) (h7) (h8) (h9) (h10) (h11) (h12) (h13) (h14) (h15) (h16) (h17) (h18) (h19) (h20) (h21) HB
      · as_aux_lemma =>
          clear hun
          clear hdep
          refine wpOp_step rfl (fun K' hK => ?_)
          refine step_o (by rfl) _ _ _ (by rfl) 2 1 0 (by rfl) (by rfl) (by rfl) ?_
          intro w' hb
          refine hK _ _ ?_
          clear hK K'
          exact EIF.mid l0 l1 l2 l3 l4 l5 true l7 l8 l9 l10 l11 l12 l13 l14 l15 l16 l17 l18 l19 l20 l21 _ _ _ _ _ _ _ _ _ _ _ _ _ _ _ _ _ _ _ _ _ _ _ (h0) (h1) (h2) (Lib.hid fun q => (h3.out q).below hb) (Lib.hid fun q => (h4.out q).below hb) (h5) (Lib.hid fun _ => rfl) (h7) (h8) (h9) (Lib.hid fun q => (h10.out q).below hb) (Lib.hid fun q => (h11.out q).below hb) (h12) (h13) (h14) (h15) (h16) (Lib.hid fun q => (h17.out q).below hb) (Lib.hid fun q => (h18.out q).below hb) (Lib.hid fun q => (h19.out q).below hb) (Lib.hid fun q => (h20.out q).below hb) (Lib.hid fun q => (h21.out q).below hb) (Lib.hid (HB.out.trans (hb.mono HB.out.size)))
      · as_aux_lemma =>
          clear hun
          clear hdep
          refine wpOp_step rfl (fun K' hK => ?_)
          refine step_o (by rfl) _ _ _ (by rfl) 5 0 0 (by rfl) (by rfl) (by rfl) ?_
          intro w' hb
          refine hK _ _ ?_
          clear hK K'
          exact EIF.mid l0 l1 l2 l3 l4 l5 l6 true l8 l9 l10 l11 l12 l13 l14 l15 l16 l17 l18 l19 l20 l21 _ _ _ _ _ _ _ _ _ _ _ _ _ _ _ _ _ _ _ _ _ _ _ (h0) (h1) (h2) (Lib.hid fun q => (h3.out q).below hb) (Lib.hid fun q => (h4.out q).below hb) (h5) (h6) (Lib.hid fun _ => rfl) (h8) (h9) (Lib.hid fun q => (h10.out q).below hb) (Lib.hid fun q => (h11.out q).below hb) (h12) (h13) (h14) (h15) (h16) (Lib.hid fun q => (h17.out q).below hb) (Lib.hid fun q => (h18.out q).below hb) (Lib.hid fun q => (h19.out q).below hb) (Lib.hid fun q => (h20.out q).below hb) (Lib.hid fun q => (h21.out q).below hb) (Lib.hid (HB.out.trans (hb.mono HB.out.size)))
      · as_aux_lemma =>
          clear hun
          clear hdep
          refine wpOp_step rfl (fun K' hK => ?_)
          refine step_o (by rfl) _ _ _ (by rfl) 0 108 0 (by rfl) (by rfl) (by rfl) ?_
          intro w' hb
          refine hK _ _ ?_
          clear hK K'
          exact EIF.mid l0 l1 l2 l3 l4 l5 l6 l7 true l9 l10 l11 l12 l13 l14 l15 l16 l17 l18 l19 l20 l21 _ _ _ _ _ _ _ _ _ _ _ _ _ _ _ _ _ _ _ _ _ _ _ (h0) (h1) (h2) (Lib.hid fun q => (h3.out q).below hb) (Lib.hid fun q => (h4.out q).below hb) (h5) (h6) (h7) (Lib.hid fun _ => rfl) (h9) (Lib.hid fun q => (h10.out q).below hb) (Lib.hid fun q => (h11.out q).below hb) (h12) (h13) (h14) (h15) (h16) (Lib.hid fun q => (h17.out q).below hb) (Lib.hid fun q => (h18.out q).below hb) (Lib.hid fun q => (h19.out q).below hb) (Lib.hid fun q => (h20.out q).below hb) (Lib.hid fun q => (h21.out q).below hb) (Lib.hid (HB.out.trans (hb.mono HB.out.size)))
      · as_aux_lemma =>
          clear hun
          clear hdep
          refine wpOp_step rfl (fun K' hK => ?_)
          refine step_o (by rfl) _ _ _ (by rfl) 6 0 0 (by rfl) (by rfl) (by rfl) ?_
          intro w' hb
          refine hK _ _ ?_
          clear hK K'
          exact EIF.mid l0 l1 l2 l3 l4 l5 l6 l7 l8 true l10 l11 l12 l13 l14 l15 l16 l17 l18 l19 l20 l21 _ _ _ _ _ _ _ _ _ _ _ _ _ _ _ _ _ _ _ _ _ _ _ (h0) (h1) (h2) (Lib.hid fun q => (h3.out q).below hb) (Lib.hid fun q => (h4.out q).below hb) (h5) (h6) (h7) (h8) (Lib.hid fun _ => rfl) (Lib.hid fun q => (h10.out q).below hb) (Lib.hid fun q => (h11.out q).below hb) (h12) (h13) (h14) (h15) (h16) (Lib.hid fun q => (h17.out q).below hb) (Lib.hid fun q => (h18.out q).below hb) (Lib.hid fun q => (h19.out q).below hb) (Lib.hid fun q => (h20.out q).below hb) (Lib.hid fun q => (h21.out q).below hb) (Lib.hid (HB.out.trans (hb.mono HB.out.size)))
      · as_aux_lemma =>
          clear hun
          have d6 : l6 = true := hdep _ rfl ⟨6, .data⟩ (by simp) rfl
          have d7 : l7 = true := hdep _ rfl ⟨7, .data⟩ (by simp) rfl
          have d8 : l8 = true := hdep _ rfl ⟨8, .data⟩ (by simp) rfl
          have d9 : l9 = true := hdep _ rfl ⟨9, .data⟩ (by simp) rfl
          clear hdep
          have e6 := h6.out d6
          unfold ROp at e6
          subst e6
          have e7 := h7.out d7
          unfold ROp at e7
          subst e7
          have e8 := h8.out d8
          unfold ROp at e8
          subst e8
          have e9 := h9.out d9
          unfold ROp at e9
          subst e9
          refine wpOp_step rfl (fun K' hK => ?_)
          refine step_ops4 (by rfl) _ _ _ _ (by rfl) 2 1 0 5 0 0 0 108 0 6 0 0 (by rfl) (by rfl) (by rfl) (by rfl) ?_
          refine hK _ _ ?_
          clear hK K'
          have hb := (Below.refl W.heap.size W).alloc (Nat.le_refl _) (.cells #[.int .i64 2, .int .i64 1, .int .i64 0, .int .i64 5, .int .i64 0, .int .i64 0, .int .i64 0, .int .i64 108, .int .i64 0, .int .i64 6, .int .i64 0, .int .i64 0] 32)
          exact EIF.mid l0 l1 l2 l3 l4 l5 l6 l7 l8 l9 true l11 l12 l13 l14 l15 l16 l17 l18 l19 l20 l21 _ _ _ _ _ _ _ _ _ _ _ _ _ _ _ _ _ _ _ _ _ _ _ (h0) (h1) (h2) (Lib.hid fun q => (h3.out q).below hb) (Lib.hid fun q => (h4.out q).below hb) (h5) (h6) (h7) (h8) (h9) (Lib.hid fun _ => ⟨_, rfl, Whole.made W 32 _⟩) (Lib.hid fun q => (h11.out q).below hb) (h12) (h13) (h14) (h15) (h16) (Lib.hid fun q => (h17.out q).below hb) (Lib.hid fun q => (h18.out q).below hb) (Lib.hid fun q => (h19.out q).below hb) (Lib.hid fun q => (h20.out q).below hb) (Lib.hid fun q => (h21.out q).below hb) (Lib.hid (HB.out.trans (hb.mono HB.out.size)))
      · as_aux_lemma =>
          clear hun
          have d5 : l5 = true := hdep _ rfl ⟨5, .data⟩ (by simp) rfl
          have d10 : l10 = true := hdep _ rfl ⟨10, .data⟩ (by simp) rfl
          clear hdep
          have e5 := h5.out d5
          subst e5
          obtain ⟨g, e10, hg⟩ := h10.out d10
          subst e10
          refine wpOp_step rfl (fun K' hK => ?_)
          refine step_t (by rfl) _ _ (by rfl) (low : Int) (some ⟨g, 0, none⟩) 4 4 (by rfl) (by rfl) ?_
          intro w' hb
          refine hK _ _ ?_
          clear hK K'
          exact EIF.mid l0 l1 l2 l3 l4 l5 l6 l7 l8 l9 l10 true l12 l13 l14 l15 l16 l17 l18 l19 l20 l21 _ _ _ _ _ _ _ _ _ _ _ _ _ _ _ _ _ _ _ _ _ _ _ (h0) (h1) (h2) (Lib.hid fun q => (h3.out q).below hb) (Lib.hid fun q => (h4.out q).below hb) (h5) (h6) (h7) (h8) (h9) (Lib.hid fun q => (h10.out q).below hb) (Lib.hid fun _ => ⟨_, rfl, hg.same (hb.block _ hg.lt)⟩) (h12) (h13) (h14) (h15) (h16) (Lib.hid fun q => (h17.out q).below hb) (Lib.hid fun q => (h18.out q).below hb) (Lib.hid fun q => (h19.out q).below hb) (Lib.hid fun q => (h20.out q).below hb) (Lib.hid fun q => (h21.out q).below hb) (Lib.hid (HB.out.trans (hb.mono HB.out.size)))
      · as_aux_lemma =>
          clear hun
          clear hdep
          refine wpOp_step rfl (fun K' hK => ?_)
          go_simp
          refine hK _ _ ?_
          clear hK K'
          exact EIF.mid l0 l1 l2 l3 l4 l5 l6 l7 l8 l9 l10 l11 true l13 l14 l15 l16 l17 l18 l19 l20 l21 _ _ _ _ _ _ _ _ _ _ _ _ _ _ _ _ _ _ _ _ _ _ _ (h0) (h1) (h2) (h3) (h4) (h5) (h6) (h7) (h8) (h9) (h10) (h11) (Lib.hid fun _ => rfl) (h13) (h14) (h15) (h16) (h17) (h18) (h19) (h20) (h21) HB
      · as_aux_lemma =>
          clear hun
          clear hdep
          refine wpOp_step rfl (fun K' hK => ?_)
          refine step_o (by rfl) _ _ _ (by rfl) 2 1 0 (by rfl) (by rfl) (by rfl) ?_
          intro w' hb
          refine hK _ _ ?_
          clear hK K'
          exact EIF.mid l0 l1 l2 l3 l4 l5 l6 l7 l8 l9 l10 l11 l12 true l14 l15 l16 l17 l18 l19 l20 l21 _ _ _ _ _ _ _ _ _ _ _ _ _ _ _ _ _ _ _ _ _ _ _ (h0) (h1) (h2) (Lib.hid fun q => (h3.out q).below hb) (Lib.hid fun q => (h4.out q).below hb) (h5) (h6) (h7) (h8) (h9) (Lib.hid fun q => (h10.out q).below hb) (Lib.hid fun q => (h11.out q).below hb) (h12) (Lib.hid fun _ => rfl) (h14) (h15) (h16) (Lib.hid fun q => (h17.out q).below hb) (Lib.hid fun q => (h18.out q).below hb) (Lib.hid fun q => (h19.out q).below hb) (Lib.hid fun q => (h20.out q).below hb) (Lib.hid fun q => (h21.out q).below hb) (Lib.hid (HB.out.trans (hb.mono HB.out.size)))
      · as_aux_lemma =>
          clear hun
          clear hdep
          refine wpOp_step rfl (fun K' hK => ?_)
          refine step_o (by rfl) _ _ _ (by rfl) 5 0 0 (by rfl) (by rfl) (by rfl) ?_
          intro w' hb
          refine hK _ _ ?_
          clear hK K'
          exact EIF.mid l0 l1 l2 l3 l4 l5 l6 l7 l8 l9 l10 l11 l12 l13 true l15 l16 l17 l18 l19 l20 l21 _ _ _ _ _ _ _ _ _ _ _ _ _ _ _ _ _ _ _ _ _ _ _ (h0) (h1) (h2) (Lib.hid fun q => (h3.out q).below hb) (Lib.hid fun q => (h4.out q).below hb) (h5) (h6) (h7) (h8) (h9) (Lib.hid fun q => (h10.out q).below hb) (Lib.hid fun q => (h11.out q).below hb) (h12) (h13) (Lib.hid fun _ => rfl) (h15) (h16) (Lib.hid fun q => (h17.out q).below hb) (Lib.hid fun q => (h18.out q).below hb) (Lib.hid fun q => (h19.out q).below hb) (Lib.hid fun q => (h20.out q).below hb) (Lib.hid fun q => (h21.out q).below hb) (Lib.hid (HB.out.trans (hb.mono HB.out.size)))
      · as_aux_lemma =>
          clear hun
          clear hdep
          refine wpOp_step rfl (fun K' hK => ?_)
          refine step_o (by rfl) _ _ _ (by rfl) 0 104 0 (by rfl) (by rfl) (by rfl) ?_
          intro w' hb
          refine hK _ _ ?_
          clear hK K'
          exact EIF.mid l0 l1 l2 l3 l4 l5 l6 l7 l8 l9 l10 l11 l12 l13 l14 true l16 l17 l18 l19 l20 l21 _ _ _ _ _ _ _ _ _ _ _ _ _ _ _ _ _ _ _ _ _ _ _ (h0) (h1) (h2) (Lib.hid fun q => (h3.out q).below hb) (Lib.hid fun q => (h4.out q).below hb) (h5) (h6) (h7) (h8) (h9) (Lib.hid fun q => (h10.out q).below hb) (Lib.hid fun q => (h11.out q).below hb) (h12) (h13) (h14) (Lib.hid fun _ => rfl) (h16) (Lib.hid fun q => (h17.out q).below hb) (Lib.hid fun q => (h18.out q).below hb) (Lib.hid fun q => (h19.out q).below hb) (Lib.hid fun q => (h20.out q).below hb) (Lib.hid fun q => (h21.out q).below hb) (Lib.hid (HB.out.trans (hb.mono HB.out.size)))
      · as_aux_lemma =>
          clear hun
          clear hdep
          refine wpOp_step rfl (fun K' hK => ?_)
          refine step_o (by rfl) _ _ _ (by rfl) 6 0 0 (by rfl) (by rfl) (by rfl) ?_
          intro w' hb
          refine hK _ _ ?_
          clear hK K'
          exact EIF.mid l0 l1 l2 l3 l4 l5 l6 l7 l8 l9 l10 l11 l12 l13 l14 l15 true l17 l18 l19 l20 l21 _ _ _ _ _ _ _ _ _ _ _ _ _ _ _ _ _ _ _ _ _ _ _ (h0) (h1) (h2) (Lib.hid fun q => (h3.out q).below hb) (Lib.hid fun q => (h4.out q).below hb) (h5) (h6) (h7) (h8) (h9) (Lib.hid fun q => (h10.out q).below hb) (Lib.hid fun q => (h11.out q).below hb) (h12) (h13) (h14) (h15) (Lib.hid fun _ => rfl) (Lib.hid fun q => (h17.out q).below hb) (Lib.hid fun q => (h18.out q).below hb) (Lib.hid fun q => (h19.out q).below hb) (Lib.hid fun q => (h20.out q).below hb) (Lib.hid fun q => (h21.out q).below hb) (Lib.hid (HB.out.trans (hb.mono HB.out.size)))
      · as_aux_lemma =>
          clear hun
          have d13 : l13 = true := hdep _ rfl ⟨13, .data⟩ (by simp) rfl
          have d14 : l14 = true := hdep _ rfl ⟨14, .data⟩ (by simp) rfl
          have d15 : l15 = true := hdep _ rfl ⟨15, .data⟩ (by simp) rfl
          have d16 : l16 = true := hdep _ rfl ⟨16, .data⟩ (by simp) rfl
          clear hdep
          have e13 := h13.out d13
          unfold ROp at e13
          subst e13
          have e14 := h14.out d14
          unfold ROp at e14
          subst e14
          have e15 := h15.out d15
          unfold ROp at e15
          subst e15
          have e16 := h16.out d16
          unfold ROp at e16
          subst e16
          refine wpOp_step rfl (fun K' hK => ?_)
          refine step_ops4 (by rfl) _ _ _ _ (by rfl) 2 1 0 5 0 0 0 104 0 6 0 0 (by rfl) (by rfl) (by rfl) (by rfl) ?_
          refine hK _ _ ?_
          clear hK K'
          have hb := (Below.refl W.heap.size W).alloc (Nat.le_refl _) (.cells #[.int .i64 2, .int .i64 1, .int .i64 0, .int .i64 5, .int .i64 0, .int .i64 0, .int .i64 0, .int .i64 104, .int .i64 0, .int .i64 6, .int .i64 0, .int .i64 0] 32)
          exact EIF.mid l0 l1 l2 l3 l4 l5 l6 l7 l8 l9 l10 l11 l12 l13 l14 l15 l16 true l18 l19 l20 l21 _ _ _ _ _ _ _ _ _ _ _ _ _ _ _ _ _ _ _ _ _ _ _ (h0) (h1) (h2) (Lib.hid fun q => (h3.out q).below hb) (Lib.hid fun q => (h4.out q).below hb) (h5) (h6) (h7) (h8) (h9) (Lib.hid fun q => (h10.out q).below hb) (Lib.hid fun q => (h11.out q).below hb) (h12) (h13) (h14) (h15) (h16) (Lib.hid fun _ => ⟨_, rfl, Whole.made W 32 _⟩) (Lib.hid fun q => (h18.out q).below hb) (Lib.hid fun q => (h19.out q).below hb) (Lib.hid fun q => (h20.out q).below hb) (Lib.hid fun q => (h21.out q).below hb) (Lib.hid (HB.out.trans (hb.mono HB.out.size)))
      · as_aux_lemma =>
          clear hun
          have d12 : l12 = true := hdep _ rfl ⟨12, .data⟩ (by simp) rfl
          have d17 : l17 = true := hdep _ rfl ⟨17, .data⟩ (by simp) rfl
          clear hdep
          have e12 := h12.out d12
          subst e12
          obtain ⟨g, e17, hg⟩ := h17.out d17
          subst e17
          refine wpOp_step rfl (fun K' hK => ?_)
          refine step_t (by rfl) _ _ (by rfl) (high : Int) (some ⟨g, 0, none⟩) 4 4 (by rfl) (by rfl) ?_
          intro w' hb
          refine hK _ _ ?_
          clear hK K'
          exact EIF.mid l0 l1 l2 l3 l4 l5 l6 l7 l8 l9 l10 l11 l12 l13 l14 l15 l16 l17 true l19 l20 l21 _ _ _ _ _ _ _ _ _ _ _ _ _ _ _ _ _ _ _ _ _ _ _ (h0) (h1) (h2) (Lib.hid fun q => (h3.out q).below hb) (Lib.hid fun q => (h4.out q).below hb) (h5) (h6) (h7) (h8) (h9) (Lib.hid fun q => (h10.out q).below hb) (Lib.hid fun q => (h11.out q).below hb) (h12) (h13) (h14) (h15) (h16) (Lib.hid fun q => (h17.out q).below hb) (Lib.hid fun _ => ⟨_, rfl, hg.same (hb.block _ hg.lt)⟩) (Lib.hid fun q => (h19.out q).below hb) (Lib.hid fun q => (h20.out q).below hb) (Lib.hid fun q => (h21.out q).below hb) (Lib.hid (HB.out.trans (hb.mono HB.out.size)))
      · as_aux_lemma =>
          clear hun
          have d4 : l4 = true := hdep _ rfl ⟨4, .data⟩ (by simp) rfl
          have d11 : l11 = true := hdep _ rfl ⟨11, .data⟩ (by simp) rfl
          have d18 : l18 = true := hdep _ rfl ⟨18, .data⟩ (by simp) rfl
          clear hdep
          obtain ⟨g4, e4, hg4⟩ := h4.out d4
          subst e4
          obtain ⟨g11, e11, hg11⟩ := h11.out d11
          subst e11
          obtain ⟨g18, e18, hg18⟩ := h18.out d18
          subst e18
          refine wpOp_step rfl (fun K' hK => ?_)
          refine step_task3 (by rfl) _ _ _ (by rfl) 0 (low : Int) (high : Int) _ _ _ 3 3 4 4 4 4 (by rfl) (by rfl) (by rfl) ?_
          refine hK _ _ ?_
          clear hK K'
          have hb := (Below.refl W.heap.size W).alloc (Nat.le_refl _) (.cells #[.int .i64 0, .slice (some ⟨g4, 0, none⟩) 3 3, .int .i64 (low : Int), .slice (some ⟨g11, 0, none⟩) 4 4, .int .i64 (high : Int), .slice (some ⟨g18, 0, none⟩) 4 4] 29)
          exact EIF.mid l0 l1 l2 l3 l4 l5 l6 l7 l8 l9 l10 l11 l12 l13 l14 l15 l16 l17 l18 true l20 l21 _ _ _ _ _ _ _ _ _ _ _ _ _ _ _ _ _ _ _ _ _ _ _ (h0) (h1) (h2) (Lib.hid fun q => (h3.out q).below hb) (Lib.hid fun q => (h4.out q).below hb) (h5) (h6) (h7) (h8) (h9) (Lib.hid fun q => (h10.out q).below hb) (Lib.hid fun q => (h11.out q).below hb) (h12) (h13) (h14) (h15) (h16) (Lib.hid fun q => (h17.out q).below hb) (Lib.hid fun q => (h18.out q).below hb) (Lib.hid fun _ => ⟨_, _, _, _, rfl, Whole.made W 29 _, hg4.same (hb.block _ hg4.lt), hg11.same (hb.block _ hg11.lt), hg18.same (hb.block _ hg18.lt)⟩) (Lib.hid fun q => (h20.out q).below hb) (Lib.hid fun q => (h21.out q).below hb) (Lib.hid (HB.out.trans (hb.mono HB.out.size)))
      · as_aux_lemma =>
          clear hun
          have d19 : l19 = true := hdep _ rfl ⟨19, .data⟩ (by simp) rfl
          clear hdep
          obtain ⟨g, g1, g2, g3, e19, hE⟩ := h19.out d19
          subst e19
          refine wpOp_step rfl (fun K' hK => ?_)
          go_simp
          refine hK _ _ ?_
          clear hK K'
          exact EIF.mid l0 l1 l2 l3 l4 l5 l6 l7 l8 l9 l10 l11 l12 l13 l14 l15 l16 l17 l18 l19 true l21 _ _ _ _ _ _ _ _ _ _ _ _ _ _ _ _ _ _ _ _ _ _ _ (h0) (h1) (h2) (h3) (h4) (h5) (h6) (h7) (h8) (h9) (h10) (h11) (h12) (h13) (h14) (h15) (h16) (h17) (h18) (h19) (Lib.hid fun _ => ⟨_, _, _, _, rfl, hE⟩) (h21) HB
      · as_aux_lemma =>
          clear hun
          clear hdep
          refine wpOp_step rfl (fun K' hK => ?_)
          go_simp
          refine hK _ _ ?_
          clear hK K'
          have hb := (Below.refl W.heap.size W).alloc (Nat.le_refl _) (.cells #[.slice none 0 0, .slice none 0 0, .int .i64 0, .slice none 0 0] 26)
          exact EIF.mid l0 l1 l2 l3 l4 l5 l6 l7 l8 l9 l10 l11 l12 l13 l14 l15 l16 l17 l18 l19 l20 true _ _ _ _ _ _ _ _ _ _ _ _ _ _ _ _ _ _ _ _ _ _ _ (h0) (h1) (h2) (Lib.hid fun q => (h3.out q).below hb) (Lib.hid fun q => (h4.out q).below hb) (h5) (h6) (h7) (h8) (h9) (Lib.hid fun q => (h10.out q).below hb) (Lib.hid fun q => (h11.out q).below hb) (h12) (h13) (h14) (h15) (h16) (Lib.hid fun q => (h17.out q).below hb) (Lib.hid fun q => (h18.out q).below hb) (Lib.hid fun q => (h19.out q).below hb) (Lib.hid fun q => (h20.out q).below hb) (Lib.hid fun _ => ⟨_, rfl, HB.out.size, Whole.made W 26 _⟩) (Lib.hid (HB.out.trans (hb.mono HB.out.size)))
      · as_aux_lemma =>
          clear hun
          have d0 : l0 = true := hdep _ rfl ⟨0, .phase⟩ (by simp) rfl
          have d1 : l1 = true := hdep _ rfl ⟨1, .phase⟩ (by simp) rfl
          have d2 : l2 = true := hdep _ rfl ⟨2, .phase⟩ (by simp) rfl
          have d3 : l3 = true := hdep _ rfl ⟨3, .phase⟩ (by simp) rfl
          have d4 : l4 = true := hdep _ rfl ⟨4, .phase⟩ (by simp) rfl
          have d5 : l5 = true := hdep _ rfl ⟨5, .phase⟩ (by simp) rfl
          have d6 : l6 = true := hdep _ rfl ⟨6, .phase⟩ (by simp) rfl
          have d7 : l7 = true := hdep _ rfl ⟨7, .phase⟩ (by simp) rfl
          have d8 : l8 = true := hdep _ rfl ⟨8, .phase⟩ (by simp) rfl
          have d9 : l9 = true := hdep _ rfl ⟨9, .phase⟩ (by simp) rfl
          have d10 : l10 = true := hdep _ rfl ⟨10, .phase⟩ (by simp) rfl
          have d11 : l11 = true := hdep _ rfl ⟨11, .phase⟩ (by simp) rfl
          have d12 : l12 = true := hdep _ rfl ⟨12, .phase⟩ (by simp) rfl
          have d13 : l13 = true := hdep _ rfl ⟨13, .phase⟩ (by simp) rfl
          have d14 : l14 = true := hdep _ rfl ⟨14, .phase⟩ (by simp) rfl
          have d15 : l15 = true := hdep _ rfl ⟨15, .phase⟩ (by simp) rfl
          have d16 : l16 = true := hdep _ rfl ⟨16, .phase⟩ (by simp) rfl
          have d17 : l17 = true := hdep _ rfl ⟨17, .phase⟩ (by simp) rfl
          have d18 : l18 = true := hdep _ rfl ⟨18, .phase⟩ (by simp) rfl
          have d19 : l19 = true := hdep _ rfl ⟨19, .phase⟩ (by simp) rfl
          have d20 : l20 = true := hdep _ rfl ⟨20, .data⟩ (by simp) rfl
          have d21 : l21 = true := hdep _ rfl ⟨21, .data⟩ (by simp) rfl
          clear hdep
          obtain ⟨g, g1, g2, g3, e20, hE⟩ := h20.out d20
          obtain ⟨b, e21, hB, hw⟩ := h21.out d21
          subst e20
          subst e21
          subst d0 d1 d2 d3 d4 d5 d6 d7 d8 d9 d10 d11 d12 d13 d14 d15 d16 d17 d18 d19 d20 d21
          have t0 := hw.cell 0
          have t1 := hw.cell 1
          have t2 := hw.cell 2
          have t3 := hw.cell 3
          have f0 := hw.frozen 0
          have f1 := hw.frozen 1
          have f2 := hw.frozen 2
          have f3 := hw.frozen 3
          simp only [List.getElem?_toArray, List.getElem?_cons_zero, List.getElem?_cons_succ] at t0 t1 t2 t3
          refine wpOp_step rfl (fun K' hK => ?_)
          go_simp
          refine hK _ _ ?_
          clear hK K'
          exact EIF.fin _ _ _ _ _ _ _ _ _ _ _ _ _ _ _ _ _ _ _ _ _ b g g1 g2 g3 _ (Lib.hid (hE.put4 hw _ _ _ _)) (Lib.hid ((((hw.put 0 _).put 1 _).put 2 _).put 3 _)) (Lib.hid ((((HB.out.setCell (p := ⟨b, 0, none⟩) hB _).setCell (p := ⟨b, 1, none⟩) hB _).setCell (p := ⟨b, 2, none⟩) hB _).setCell (p := ⟨b, 3, none⟩) hB _))
    | fin v0 v1 v2 v3 v4 v5 v6 v7 v8 v9 v10 v11 v12 v13 v14 v15 v16 v17 v18 v19 v20 b g g1 g2 g3 W HE HW HB =>
      rw [ready_nil_of_count (by decide)] at hi
      cases hi
  · intro listed a W hI hr
    cases hI with
    | mid l0 l1 l2 l3 l4 l5 l6 l7 l8 l9 l10 l11 l12 l13 l14 l15 l16 l17 l18 l19 l20 l21 v0 v1 v2 v3 v4 v5 v6 v7 v8 v9 v10 v11 v12 v13 v14 v15 v16 v17 v18 v19 v20 v21 W h0 h1 h2 h3 h4 h5 h6 h7 h8 h9 h10 h11 h12 h13 h14 h15 h16 h17 h18 h19 h20 h21 HB =>
      refine absurd (listed_all ?_ ?_ hr 22 ?_) ?_
      · rfl
      · kernel_rfl
      · show 22 < 23
        decide
      · simp
    | fin v0 v1 v2 v3 v4 v5 v6 v7 v8 v9 v10 v11 v12 v13 v14 v15 v16 v17 v18 v19 v20 b g g1 g2 g3 W HE HW HB =>
      clear hr
      dsimp only
      have z0 := HW.out.cell 0
      have z1 := HW.out.cell 1
      have z2 := HW.out.cell 2
      have z3 := HW.out.cell 3
      have zf := HW.out.frozen 0
      have hlt4 := HW.out.lt
      simp only [List.getElem?_toArray, List.getElem?_cons_zero, List.getElem?_cons_succ] at z0 z1 z2 z3
      have hf := Lib.hid (ends_fits (p := false) (low := low) (high := high) (by omega) (by omega) (by omega))
      have hrun := ends_run (p := false) (low := low) (high := high) (by omega) (by omega) (by omega)
      have hout := Lib.hid hrun.1
      have hst := Lib.hid hrun.2
      clear hrun c0 c1 c2
      go_wp2_with fail
      refine (run_at (t := endsT false low high) (ticks := 100) (ops := 1000) rfl rfl rfl rfl rfl rfl ?tab hf.out (by omega) (by omega)).mono ?_
      case tab => exact TabRd.of_rows (l := [(⟨0, o3K 1⟩, some ⟨g1, 0, none⟩, 3), (⟨low, o4L⟩, some ⟨g2, 0, none⟩, 4), (⟨high, o4H⟩, some ⟨g3, 0, none⟩, 4)]) (Reads.of_whole (n := 3) (sz := 2) HE.out.t HE.out.t.lt rfl) rfl (List.forall_mem_cons.2 ⟨(OpsLie.of_whole (Nat.le_of_ble_eq_true rfl) rfl HE.out.a).reads, List.forall_mem_cons.2 ⟨(OpsLie.of_whole (Nat.le_of_ble_eq_true rfl) rfl HE.out.b).reads, List.forall_mem_cons.2 ⟨(OpsLie.of_whole (Nat.le_of_ble_eq_true rfl) rfl HE.out.c).reads, fun _ h => by cases h⟩⟩⟩) (Reads.nil _) (Reads.nil _) (by show (3 : Nat) ≤ maxLen; unfold maxLen; decide) (Nat.zero_le _) (Nat.zero_le _)
      rintro e w9 hRR
      obtain ⟨P9, Q9, R9, pn, pc, qn, qc, rn, rc, rfl, hb9, HRA⟩ := hRR.opened
      clear hRR
      generalize Kn.runT (endsT false low high) 100 1000 = k at *
      have hbel := HB1.out.trans ((HBR.out.trans ((HB.out.trans (hb9.mono HB.out.size)).mono HBR.out.size)).mono hz1)
      have HBE := Lib.hid (hbel.alloc hbel.size (.cells #[.slice P9 pn pc, .slice Q9 qn qc, .slice R9 rn rc, .int .i64 k.ticks, .int .i64 k.ops] 36))
      have HC := Lib.hid (HRA.out.conv _ ((Below.refl w9.heap.size w9).alloc (Nat.le_refl _) (.cells #[.slice P9 pn pc, .slice Q9 qn qc, .slice R9 rn rc, .int .i64 k.ticks, .int .i64 k.ops] 36)))
      clear hb9 hbel 
      have hqn : qn = 3 := by
        have hl2 := congrArg List.length hst.out
        rw [List.length_map] at hl2
        rw [HRA.out.tlen, hl2]
        rfl
      subst hqn
      have HC2 : (convert 34 9 (.slice P9 pn pc)).run Try.prog (w9.alloc (.cells #[.slice P9 pn pc, .slice Q9 3 qc, .slice R9 rn rc, .int .i64 k.ticks, .int .i64 k.ops] 36)) = .ok (.string ⟨#[104, 108]⟩) (w9.alloc (.cells #[.slice P9 pn pc, .slice Q9 3 qc, .slice R9 rn rc, .int .i64 k.ticks, .int .i64 k.ops] 36)) := by
        rw [HC.out, hout.out]
        rfl
      have HR2 := HRA.out.tasks ((w9.alloc (.cells #[.slice P9 pn pc, .slice Q9 3 qc, .slice R9 rn rc, .int .i64 k.ticks, .int .i64 k.ops] 36)).alloc (.cells #[.int .i64 2, .int .i64 2, .int .i64 2] 3)) (((Below.refl w9.heap.size w9).alloc (Nat.le_refl _) (.cells #[.slice P9 pn pc, .slice Q9 3 qc, .slice R9 rn rc, .int .i64 k.ticks, .int .i64 k.ops] 36)).alloc (by simp) (.cells #[.int .i64 2, .int .i64 2, .int .i64 2] 3))
      rw [hst.out] at HR2
      have HR3 := Lib.hid HR2
      have HWL := Whole.made (w9.alloc (.cells #[.slice P9 pn pc, .slice Q9 3 qc, .slice R9 rn rc, .int .i64 k.ticks, .int .i64 k.ops] 36)) 3 #[.int .i64 2, .int .i64 2, .int .i64 2]
      rw [show ((w9.alloc (.cells #[.slice P9 pn pc, .slice Q9 3 qc, .slice R9 rn rc, .int .i64 k.ticks, .int .i64 k.ops] 36))).heap.size = w9.heap.size + 1 from World.size_alloc _ _] at HWL
      have HR4 := Lib.hid (Reads.of_whole (n := 3) (sz := 1) HWL HWL.lt rfl)
      clear HC hout HR2 HWL HE HW z0 z1 z2 z3 zf
      have hbs222 := run_bs222 (w9.alloc (.cells #[.slice P9 pn pc, .slice Q9 3 qc, .slice R9 rn rc, .int .i64 k.ticks, .int .i64 k.ops] 36))
      go_wp2_with fail
      refine (num_any _ _).mono ?_
      rintro e w3 ⟨rfl, rfl⟩
      go_wp2_with fail
      have HSI : Calls Try.prog 29 #[.slice Q9 3 qc, .slice (some ⟨w9.heap.size + 1, 0, none⟩) 3 3] ((w9.alloc (.cells #[.slice P9 pn pc, .slice Q9 3 qc, .slice R9 rn rc, .int .i64 k.ticks, .int .i64 k.ops] 36)).alloc (.cells #[.int .i64 2, .int .i64 2, .int .i64 2] 3)) _ := sameInts_any (l := [2, 2, 2]) HR3.out HR4.out (by show (3 : Nat) ≤ maxLen; unfold maxLen; decide)
      refine HSI.mono ?_
      rintro e w5 ⟨rfl, hb5⟩
      have HB5 := Lib.hid hb5
      clear hb5
      go_wp2_with fail
      go_ret
      exact ⟨rfl, (HBE.out.alloc HBE.out.size (.cells #[.int .i64 2, .int .i64 2, .int .i64 2] 3)).trans (HB5.out.mono (HBE.out.alloc HBE.out.size (.cells #[.int .i64 2, .int .i64 2, .int .i64 2] 3)).size)⟩
  · exact EIF.mid false false false false false false false false false false false false false false false false false false false false false false _ _ _ _ _ _ _ _ _ _ _ _ _ _ _ _ _ _ _ _ _ _ _ (Lib.hid (by simp)) (Lib.hid (by simp)) (Lib.hid (by simp)) (Lib.hid (by simp)) (Lib.hid (by simp)) (Lib.hid (by simp)) (Lib.hid (by simp)) (Lib.hid (by simp)) (Lib.hid (by simp)) (Lib.hid (by simp)) (Lib.hid (by simp)) (Lib.hid (by simp)) (Lib.hid (by simp)) (Lib.hid (by simp)) (Lib.hid (by simp)) (Lib.hid (by simp)) (Lib.hid (by simp)) (Lib.hid (by simp)) (Lib.hid (by simp)) (Lib.hid (by simp)) (Lib.hid (by simp)) (Lib.hid (by simp)) HBS
end Go.Proofs.Ytncbgnpoffolcaa
