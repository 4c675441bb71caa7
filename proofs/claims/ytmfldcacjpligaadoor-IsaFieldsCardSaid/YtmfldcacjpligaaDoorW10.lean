/-
  The given Show: the walk.
-/
import Derived.Test.YtmfldcacjpligaaDoorW9
import Derived.Laws.OwnMore
import Derived.Deep.AppendLies
namespace Go.Proofs.YtmfldcacjpligaaDoor
open Go.RowKit
theorem row_same {w w' : World} {base : Nat} {e : TypeId} {size : Nat} {v : Value} {n : Nat} {xs : List Value} (h : w.ownsRow base e size v n xs) (hs : ∀ k, v.ownBlock = some k → w'.heap[k]? = w.heap[k]?) : w'.ownsRow base e size v n xs := by
  refine ⟨h.1, ?_⟩
  rcases h.2 with hn | ⟨g, cap, cur, rfl, hb, hgg, rest⟩
  · exact .inl hn
  · exact .inr ⟨g, cap, cur, rfl, hb, (hs g rfl).trans hgg, rest⟩
theorem row_below {w w' : World} {base B : Nat} {e : TypeId} {size : Nat} {v : Value} {n : Nat} {xs : List Value} (h : w.ownsRow base e size v n xs) (hb : Below B w w') (hB : w.heap.size ≤ B) : w'.ownsRow base e size v n xs :=
  row_same h fun k hk => hb.block k (Nat.lt_of_lt_of_le (h.lt k hk).2 hB)
theorem info9 : (Tryd.prog.info? 9).map (fun i => (i.zero, i.size, i.bytes)) = some (some (.string ByteArray.empty), 1, 16) := by kernel_rfl
theorem join_eq : ∀ l : List (List UInt8), Lib.join l [44, 32] = Is.joined l
  | [] => rfl
  | [x] => Lib.join_one _ _
  | x :: y :: l => by
    rw [Lib.join_cons, Is.joined, ← join_eq (y :: l), Lib.join_cons]
    simp [Lib.joinTail]
/-- The texts of the first registers. -/
def regTexts (l : List Int) : List (List UInt8) := l.map fun r => 114 :: Is.numStr r
theorem regTexts_snoc {l : List Int} {i : Nat} {r : Int} (h : l[i]? = some r) : regTexts (l.take (i + 1)) = regTexts (l.take i) ++ [114 :: Is.numStr r] := by
  obtain ⟨hi, e⟩ := List.getElem?_eq_some_iff.1 h
  rw [List.take_succ_eq_append_getElem hi, e]
  unfold regTexts
  rw [List.map_append]
  rfl
theorem r_text (r : Int) : (⟨#[114]⟩ : ByteArray) ++ ⟨(Is.numStr r).toArray⟩ = ⟨(114 :: Is.numStr r).toArray⟩ := by
  apply bytesOf_inj
  rw [bytesOf_app]
  rfl
theorem joined_len (l : List (List UInt8)) (h : ∀ x ∈ l, x.length ≤ 9) : (Is.joined l).length ≤ 11 * l.length := by
  match l with
  | [] => simp [Is.joined]
  | [x] =>
    have := h x (.head _)
    simp [Is.joined]
    omega
  | x :: y :: l =>
    have h1 := h x (.head _)
    have h2 := joined_len (y :: l) fun z hz => h z (.tail _ hz)
    rw [Is.joined, List.length_append, List.length_append]
    simp only [List.length_cons] at h2 ⊢
    simp
    omega
theorem parts_len {i : Is.Ins} (h2 : Is.regsOk i = true) (h3 : Is.immOk i = true) : ∀ x ∈ Is.parts i, x.length ≤ 9 := by
  have hi := imm_bd h2 h3
  obtain ⟨pa, pb, pc, _⟩ := Is.parts_of h2 h3
  have la := numStr_len (n := i.a) (by omega) (by omega)
  have lb := numStr_len (n := i.b) (by omega) (by omega)
  have lc := numStr_len (n := i.c) (by omega) (by omega)
  have ln := numStr_len hi.1 hi.2
  intro x hx
  unfold Is.parts at hx
  rcases List.mem_append.1 hx with hx | hx
  · obtain ⟨r, hr, rfl⟩ := List.mem_map.1 hx
    have hr := List.mem_of_mem_take hr
    simp at hr
    rcases hr with rfl | rfl | rfl <;> simp <;> omega
  · split at hx
    · simp at hx
      subst hx
      omega
    · cases hx
theorem strs_map (l : List (List UInt8)) : (l.map fun x => (⟨x.toArray⟩ : ByteArray)).map (·.data.toList) = l := by
  rw [List.map_map]
  exact List.map_id _
theorem row_slice {w : World} {B : Nat} {e : TypeId} {size n : Nat} {v : Value} {xs : List Value} (h : w.ownsRow B e size v n xs) : ∃ a cap, v = .slice a n cap ∧ n ≤ cap ∧ cap ≤ maxLen := by
  rcases h.2 with ⟨hv, h0⟩ | ⟨g, cap, cur, hv, _, _, hnc, hcm, _⟩
  · exact ⟨none, 0, by rw [hv, h0], by omega, by unfold maxLen; omega⟩
  · exact ⟨_, _, hv, hnc, hcm⟩
theorem join_any {w : World} {B g cap m : Nat} {P : List (List UInt8)} (own : w.ownsRow B 9 1 (.slice (some ⟨g, 0, none⟩) m cap) m (P.map strV)) (hm : P.length = m) (hm0 : 0 < m) (hm9 : m ≤ 10) (hl : ∀ x ∈ P, x.length ≤ 9) :
    ∃ J : ByteArray, bytesOf J = Is.joined P ∧ (J.size : Int) ≤ 110 ∧ Calls Tryd.prog 29 #[.slice (some ⟨g, 0, none⟩) m cap, .string ⟨#[44, 32]⟩] w fun e w' => e = .returned (.string J) ∧ Below w.heap.size w w' := by
  have hjl := joined_len P hl
  refine ⟨⟨(Is.joined P).toArray⟩, bytesOf_mk _, text_size (n := 110) (bytesOf_mk _) (by omega), ?_⟩
  obtain ⟨_, cap', e1, hc1, hc2⟩ := row_slice own
  injection e1 with _ _ e3
  subst e3
  obtain ⟨_, _, eV, _, hgl⟩ := own.form hm0
  injection eV with e4 _ _
  injection e4 with e4
  injection e4 with e4 _ _
  have h := Tryd.strings_Join g 0 cap (P.map fun x => ⟨x.toArray⟩) ⟨#[44, 32]⟩ w (fun j x hj => by
    rw [Nat.zero_add, own.cellAt j (by
      have := (List.getElem?_eq_some_iff.1 hj).1
      rw [List.length_map] at this
      omega)]
    rw [List.getElem?_map] at hj ⊢
    obtain ⟨y, hy, rfl⟩ := Option.map_eq_some_iff.1 hj
    rw [hy]
    rfl) (by rw [e4]; exact hgl) (by rw [List.length_map]; omega) (by rw [List.length_map]; omega) (by
      rw [strs_map, show (⟨#[44, 32]⟩ : ByteArray).data.toList = [44, 32] from rfl, join_eq]
      omega)
  rw [strs_map, show (⟨#[44, 32]⟩ : ByteArray).data.toList = [44, 32] from rfl, join_eq, List.length_map, hm] at h
  exact h
set_option maxRecDepth 100000 in
set_option maxHeartbeats 8000000 in
theorem show_ok (op a b c n : Int) (he : (Is.enc ⟨op, a, b, c, n⟩).2 = 0) (w : World) (ht : Tabs w) : Calls Tryd.prog 14 #[insV ⟨op, a, b, c, n⟩] w (ShowPost ⟨op, a, b, c, n⟩ w) := by
  obtain ⟨i1, i2, i3, _⟩ := Is.enc_ok (Is.enc_form he)
  have hin := imm_bd i2 i3
  obtain ⟨pa, pb, pc, _⟩ := Is.parts_of i2 i3
  have PL := Lib.hid (parts_len i2 i3)
  dsimp only at hin pa pb pc i1
  have ha0 := pa.1
  have ha1 := pa.2.1
  have hb0 := pb.1
  have hb1' := pb.2.1
  have hc0 := pc.1
  have hc1 := pc.2.1
  have ET := Lib.hid (Is.text_eq he)
  have e32 : ((formC op : Int) == 32) = false := ne_eq (formC_ne i1)
  obtain ⟨s, hs⟩ : ∃ s, Is.shapeOf (Is.form op) = s := ⟨_, rfl⟩
  have C26 := shape_any op i1
  rw [hs] at C26
  have hrb : ∃ R : Nat, s.regs = R ∧ R ≤ 3 := by
    rw [← hs]
    rcases Is.form_cases op with f | f | f | f | f | f | f | f | f
    · exact absurd f i1
    · exact ⟨3, by rw [f]; rfl, by decide⟩
    · exact ⟨2, by rw [f]; rfl, by decide⟩
    · exact ⟨2, by rw [f]; rfl, by decide⟩
    · exact ⟨2, by rw [f]; rfl, by decide⟩
    · exact ⟨1, by rw [f]; rfl, by decide⟩
    · exact ⟨1, by rw [f]; rfl, by decide⟩
    · exact ⟨1, by rw [f]; rfl, by decide⟩
    · exact ⟨0, by rw [f]; rfl, by decide⟩
  obtain ⟨rg, bt, lo, hh⟩ := s
  obtain ⟨R, hR, hR3⟩ := hrb
  dsimp only at hR
  subst hR
  have EP : Hid (Is.parts ⟨op, a, b, c, n⟩ = regTexts ([a, b, c].take R) ++ (if 0 < bt then [Is.numStr n] else [])) := by
    show _ = _
    unfold Is.parts
    dsimp only
    rw [hs]
    rfl
  have C12 : ∀ W, Calls Tryd.prog 12 #[.agg #[.int .i64 op, .int .i64 a, .int .i64 b, .int .i64 c, .int .i64 n]] W fun e w' => e = .returned (.tuple #[.int .i64 (Is.enc ⟨op, a, b, c, n⟩).1, .int .i64 0]) ∧ Below W.heap.size W w' := by
    intro W
    have h := enc_any ⟨op, a, b, c, n⟩ W
    unfold EncPost at h
    rw [he] at h
    exact h
  obtain ⟨f, ef⟩ : ∃ f, formC op = f := ⟨_, rfl⟩
  rw [ef] at e32 C26
  have EF := Lib.hid ef
  obtain ⟨_, nne, _, nl⟩ := Is.opOf_name i1
  obtain ⟨M, eM⟩ : ∃ M : ByteArray, (⟨(Is.name op).toArray⟩ : ByteArray) = M := ⟨_, rfl⟩
  have hM : bytesOf M = Is.name op := by rw [← eM]; rfl
  have sM := text_size hM nl
  have HM := Lib.hid hM
  have C16 : ∀ W, Tabs W → Calls Tryd.prog 16 #[.int .i64 op] W fun e w' => e = .returned (.string M) ∧ Below W.heap.size W w' := by
    intro W hW
    have h := name_any op W hW
    unfold NamePost nameV at h
    rw [eM] at h
    exact h
  have hb1 := (Below.refl w.heap.size w).alloc (Nat.le_refl _) (.cells #[.int .i64 op, .int .i64 a, .int .i64 b, .int .i64 c, .int .i64 n] 23)
  have wa := Whole.made w 23 #[.int .i64 op, .int .i64 a, .int .i64 b, .int .i64 c, .int .i64 n]
  have HT := Lib.hid ht
  generalize (Is.enc ⟨op, a, b, c, n⟩).1 = x at C12
  unfold shapeV at C26
  obtain ⟨iz, hi9, hz0, hz1, hz2⟩ := info_parts info9
  clear hM eM nl nne i1 i2 i3 pa pb pc he hs ef ht
  unfold insV
  go_enter Tryd.func14, Tryd.ntmps14
  go_wp2_with fail
  refine (C12 _).mono ?_
  rintro e w2 ⟨rfl, hb2⟩
  have hb12 := hb1.trans (hb2.mono (by simp))
  have wa2 := wa.same (hb2.block _ (by simp))
  have k0 := wa2.cell 0
  simp at k0
  go_wp2_with fail
  refine (form_any _ _).mono ?_
  rintro e w' ⟨rfl, rfl⟩
  rw [EF.out]
  go_wp2_with fail
  refine (C26 _).mono ?_
  rintro e w3 ⟨rfl, hb3⟩
  have hz12 := hb12.size
  have hb13 := hb12.trans (hb3.mono hz12)
  have hz13 := hb13.size
  have wa3 := wa2.same (hb3.block _ wa2.lt)
  have h3lt := wa3.lt
  clear k0
  have k1 := wa3.cell 1
  have k2 := wa3.cell 2
  have k3 := wa3.cell 3
  simp at k1 k2 k3
  have hR3' : (R : Int) ≤ 3 := by omega
  go_wp2_with fail
  obtain ⟨wL, hwL⟩ : ∃ wL, wL = (w3.alloc (.cells #[.int .i64 R, .int .i64 bt, .int .i64 lo, .int .i64 hh] 50)).alloc (.cells #[.int .i64 a, .int .i64 b, .int .i64 c] 3) := ⟨_, rfl⟩
  rw [← hwL]
  have b3L : Below w3.heap.size w3 wL := by rw [hwL]; exact ((Below.refl _ _).alloc (Nat.le_refl _) _).alloc (by simp) _
  have wbx : Whole wL w3.heap.size 50 #[.int .i64 R, .int .i64 bt, .int .i64 lo, .int .i64 hh] := by rw [hwL]; exact (Whole.made _ _ _).alloc _
  have wrg : Whole wL (w3.heap.size + 1) 3 #[.int .i64 a, .int .i64 b, .int .i64 c] := by
    rw [hwL]
    have h := Whole.made (w3.alloc (.cells #[.int .i64 R, .int .i64 bt, .int .i64 lo, .int .i64 hh] 50)) 3 #[.int .i64 a, .int .i64 b, .int .i64 c]
    rw [show (w3.alloc (.cells #[.int .i64 R, .int .i64 bt, .int .i64 lo, .int .i64 hh] 50)).heap.size = w3.heap.size + 1 by simp] at h
    exact h
  have waL := wa3.same (b3L.block _ h3lt)
  have hbL := hb13.trans (b3L.mono hz13)
  have TL := HT.out.below hbL
  have hzL := wrg.lt
  have hzwL := hbL.size
  have WBX := Lib.hid wbx
  have WRG := Lib.hid wrg
  have WAL := Lib.hid waL
  have HTL := Lib.hid TL
  clear hwL wbx wrg waL TL k1 k2 k3 wa3 wa2 wa C12 C26
  go_loopg [35, 7] R (fun kk iv pv wr => ∃ i : Nat, i ≤ R ∧ iv = .int .i64 i ∧ wr.ownsRow wL.heap.size 9 1 pv i ((regTexts ([a, b, c].take i)).map strV) ∧ Below wL.heap.size wL wr ∧ R - i ≤ kk)
  case atStart => exact ⟨0, Nat.zero_le _, rfl, World.ownsRow_nil _ _ _ _, Below.refl _ _, by omega⟩
  case round =>
    obtain ⟨i, hi, rfl, own, hbr, hkk⟩ := hrel
    obtain ⟨wo, rfl⟩ : ∃ wo : World, wo = wr := ⟨_, rfl⟩
    have hzo := hbr.size
    by_cases hlt : i < R
    · have hlt' : (i : Int) < R := by omega
      obtain ⟨r, hr, hr0, hr1⟩ : ∃ r, [a, b, c][i]? = some r ∧ 0 ≤ r ∧ r ≤ 15 := by
        have h3 : i = 0 ∨ i = 1 ∨ i = 2 := by omega
        rcases h3 with rfl | rfl | rfl
        · exact ⟨a, rfl, ha0, ha1⟩
        · exact ⟨b, rfl, hb0, hb1'⟩
        · exact ⟨c, rfl, hc0, hc1⟩
      have c0 : wo.cell? ⟨w3.heap.size + 1, i, none⟩ = some (.int .i64 r) := by
        rw [(WRG.out.same (hbr.block _ hzL)).cell i]
        have h3 : i = 0 ∨ i = 1 ∨ i = 2 := by omega
        rcases h3 with rfl | rfl | rfl <;> simp at hr <;> subst hr <;> rfl
      have RS := Lib.hid (regTexts_snoc hr)
      have ht := HTL.out.below hbr
      have HTO := Lib.hid ht
      clear ht hr
      obtain ⟨NS, eNS⟩ : ∃ NS : ByteArray, (⟨(Is.numStr r).toArray⟩ : ByteArray) = NS := ⟨_, rfl⟩
      have sNS : (NS.size : Int) ≤ 8 := by rw [← eNS]; exact text_size (bytesOf_mk _) (numStr_len (by omega) (by omega))
      have RT := Lib.hid (r_text r)
      rw [eNS] at RT
      have C28 : Calls Tryd.prog 28 #[.int .i64 r] wo fun e w' => e = .returned (.string NS) ∧ Below wo.heap.size wo w' := by
        have h := itoa_any r (by omega) (by omega) wo HTO.out
        unfold strV at h
        rw [eNS] at h
        exact h
      clear eNS
      go_wp2_with fail
      refine C28.mono ?_
      rintro e w4 ⟨rfl, hb4⟩
      have own4 := row_below own hb4 (Nat.le_refl _)
      have hbr4 := hbr.trans (hb4.mono hzo)
      have hz4 := hbr4.size
      clear own C28
      go_wp2_with (at_builtin; refine wpList_append_own _ rfl _ _ _ rfl wL.heap.size 9 iz _ 1 16 Tryd.underlying53 hi9 hz0 hz1 hz2 rfl (by decide) _ i ((regTexts ([a, b, c].take i)).map strV) rfl (own4.alloc _) ⟨w4.heap.size, 0, none⟩ 1 1 [.string (⟨#[114]⟩ ++ NS)] rfl rfl ?c1 ?c2 ?c3 ?c4 ?c5 ?_)
      case c1 => intro j u hj; match j, hj with | 0, hj => simp at hj; subst hj; simp [Addr.add]
      case c2 => intro u hu; simp at hu; subst hu; rfl
      case c3 => unfold maxLen; omega
      case c4 => omega
      case c5 => simp; omega
      intro v' w5 own5 hgrow _
      have ec : (regTexts ([a, b, c].take i)).map strV ++ [.string (⟨#[114]⟩ ++ NS)] = (regTexts ([a, b, c].take (i + 1))).map strV := by rw [RS.out, List.map_append, RT.out]; rfl
      rw [ec] at own5
      have hb5 := (hbr4.alloc (by omega) (.cells #[.string (⟨#[114]⟩ ++ NS)] 9)).grown hgrow (by simp; omega) (fun k hk => (own4.lt k hk).1)
      clear hgrow own4 ec
      go_wp2_with fail
      go_roundg (R - (i + 1))
      case measure => omega
      case rel => exact ⟨i + 1, by omega, by go_num, own5, hb5, Nat.le_refl _⟩
    · have hge : ¬ (i : Int) < R := by omega
      obtain rfl : i = R := by omega
      have x1 := (WBX.out.same (hbr.block _ (by omega))).cell 1
      have wao := WAL.out.same (hbr.block _ (by omega))
      have x0 := wao.cell 0
      have x4 := wao.cell 4
      simp at x0 x1 x4
      have hto := HTL.out.below hbr
      have HTO := Lib.hid hto
      clear hto wao
      by_cases hbt : 0 < bt
      · have EP2 : Hid (Is.parts ⟨op, a, b, c, n⟩ = regTexts ([a, b, c].take i) ++ [Is.numStr n]) := by show _ = _; rw [EP.out, if_pos hbt]
        obtain ⟨NS, eNS⟩ : ∃ NS : ByteArray, (⟨(Is.numStr n).toArray⟩ : ByteArray) = NS := ⟨_, rfl⟩
        have sNS : (NS.size : Int) ≤ 8 := by rw [← eNS]; exact text_size (bytesOf_mk _) (numStr_len hin.1 hin.2)
        have C28 : Calls Tryd.prog 28 #[.int .i64 n] wo fun e w' => e = .returned (.string NS) ∧ Below wo.heap.size wo w' := by
          have h := itoa_any n hin.1 hin.2 wo HTO.out
          unfold strV at h
          rw [eNS] at h
          exact h
        have ENS := Lib.hid eNS
        clear eNS
        go_wp2_with fail
        refine C28.mono ?_
        rintro e w4 ⟨rfl, hb4⟩
        have own4 := row_below own hb4 (Nat.le_refl _)
        have hbr4 := hbr.trans (hb4.mono hzo)
        have hz4 := hbr4.size
        clear own C28
        go_wp2_with (at_builtin; refine wpList_append_own _ rfl _ _ _ rfl wL.heap.size 9 iz _ 1 16 Tryd.underlying53 hi9 hz0 hz1 hz2 rfl (by decide) _ i ((regTexts ([a, b, c].take i)).map strV) rfl (own4.alloc _) ⟨w4.heap.size, 0, none⟩ 1 1 [.string NS] rfl rfl ?c1 ?c2 ?c3 ?c4 ?c5 ?_)
        case c1 => intro j u hj; match j, hj with | 0, hj => simp at hj; subst hj; simp [Addr.add]
        case c2 => intro u hu; simp at hu; subst hu; rfl
        case c3 => unfold maxLen; omega
        case c4 => omega
        case c5 => simp; omega
        intro v' w5 own5 hgrow _
        have ec : (regTexts ([a, b, c].take i)).map strV ++ [.string NS] = (Is.parts ⟨op, a, b, c, n⟩).map strV := by rw [EP2.out, List.map_append, ← ENS.out]; rfl
        rw [ec] at own5
        have hb5 := (hbr4.alloc (by omega) (.cells #[.string NS] 9)).grown hgrow (by simp; omega) (fun k hk => (own4.lt k hk).1)
        have hlen : (Is.parts ⟨op, a, b, c, n⟩).length = i + 1 := by have h := own5.1; rw [List.length_map] at h; omega
        have hz5 := hb5.size
        clear hgrow own4 ec
        obtain ⟨g, cap, eV, hg0, hgl⟩ := own5.form (by omega)
        subst eV
        have OWN := Lib.hid own5
        have HLEN := Lib.hid hlen
        have hto := HTL.out.below hb5
        have HTO := Lib.hid hto
        have wao := WAL.out.same (hb5.block _ (by omega))
        have x0 := wao.cell 0
        simp at x0
        clear own5 hlen hto wao
        have e1 : (((i + 1 : Nat) : Int) == 0) = false := ne_eq (by omega)
        have e1' : (((i : Int) + 1) == 0) = false := ne_eq (by omega)
        go_wp2_with fail
        refine (C16 _ HTO.out).mono ?_
        rintro e w6 ⟨rfl, hb6⟩
        have own6 := row_below OWN.out hb6 (Nat.le_refl _)
        obtain ⟨J, hJ, sJ, C29⟩ := join_any own6 HLEN.out (by omega) (by omega) PL.out
        have hbr6 := hb5.trans (hb6.mono hz5)
        clear own6
        have HJ := Lib.hid hJ
        clear hJ
        go_wp2_with fail
        refine C29.mono ?_
        rintro e w7 ⟨rfl, hb7⟩
        go_wp2_with fail
        go_ret
        refine ⟨_, rfl, ?_, (hbL.trans (hbr6.mono hzwL)).trans (hb7.mono (by have := hbr6.size; omega))⟩
        rw [ET.out, if_neg (by intro h; have := HLEN.out; rw [h] at this; simp at this)]
        simp only [bytesOf_app, HJ.out, HM.out]
        simp [bytesOf]
      · have EP2 : Hid (Is.parts ⟨op, a, b, c, n⟩ = regTexts ([a, b, c].take i)) := by show _ = _; rw [EP.out, if_neg hbt, List.append_nil]
        have hbt' : ¬ 0 < bt := hbt
        rw [← EP2.out] at own
        have hlen : (Is.parts ⟨op, a, b, c, n⟩).length = i := by have h := own.1; rw [List.length_map] at h; omega
        have HLEN := Lib.hid hlen
        clear hlen
        by_cases hR0 : i = 0
        · subst hR0
          obtain ⟨pa, pcap, ep, _, _⟩ := row_slice own
          subst ep
          clear own
          go_wp2_with fail
          refine (C16 _ HTO.out).mono ?_
          rintro e w6 ⟨rfl, hb6⟩
          go_wp2_with fail
          go_ret
          refine ⟨_, rfl, ?_, (hbL.trans (hbr.mono hzwL)).trans (hb6.mono (by omega))⟩
          rw [ET.out, if_pos (List.length_eq_zero_iff.1 HLEN.out), HM.out]
        · obtain ⟨g, cap, eV, hg0, hgl⟩ := own.form (by omega)
          subst eV
          have OWN := Lib.hid own
          clear own
          have e1 : ((i : Int) == 0) = false := ne_eq (by omega)
          go_wp2_with fail
          refine (C16 _ HTO.out).mono ?_
          rintro e w6 ⟨rfl, hb6⟩
          have own6 := row_below OWN.out hb6 (Nat.le_refl _)
          obtain ⟨J, hJ, sJ, C29⟩ := join_any own6 HLEN.out (by omega) (by omega) PL.out
          have hbr6 := hbr.trans (hb6.mono hzo)
          clear own6
          have HJ := Lib.hid hJ
          clear hJ
          go_wp2_with fail
          refine C29.mono ?_
          rintro e w7 ⟨rfl, hb7⟩
          go_wp2_with fail
          go_ret
          refine ⟨_, rfl, ?_, (hbL.trans (hbr6.mono hzwL)).trans (hb7.mono (by have := hbr6.size; omega))⟩
          rw [ET.out, if_neg (by intro h; have := HLEN.out; rw [h] at this; simp at this; omega)]
          simp only [bytesOf_app, HJ.out, HM.out]
          simp [bytesOf]
end Go.Proofs.YtmfldcacjpligaaDoor
