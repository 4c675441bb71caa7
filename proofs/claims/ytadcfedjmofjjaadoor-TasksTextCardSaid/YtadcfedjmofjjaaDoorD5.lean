/-
  The table of a text: the walk of the document's Parse.
-/
import Derived.Test.YtadcfedjmofjjaaDoorD4
import Derived.Test.YtadcfedjmofjjaaDoorL4
namespace Go.Proofs.YtadcfedjmofjjaaDoor
open Go.RowKit
section
variable {w : World} {P0 p q B : Nat} {t : Tk.Table} {st : Nat} {wd : List UInt8} {ws : List (List UInt8)} {A : Option Addr} {n c : Nat}
theorem dline_any (inner : Bool) (h : DMem w p q B t st) (hst : st ≤ 3) (hB : B ≤ w.heap.size) (hP : P0 ≤ p ∧ P0 ≤ q) (hr : Reads w w.heap.size 1 A n ((wd :: ws).map strV)) (hnc : n ≤ c) (hl : ws.length ≤ 1000000) (bd : Bd t 1000000) :
    Calls Tryd.prog 25 #[.pointer (some ⟨p, 0, none⟩), .slice A n c, .bool inner, .pointer (some ⟨q, 0, none⟩)] w (DPost w P0 p q B t st inner wd ws) := by
  have hpB := h.1
  rcases Nat.lt_or_ge st 3 with h3 | h3
  · rcases inner with _ | _
    · have h4 : st = 0 ∨ st = 1 ∨ st = 2 := by omega
      rcases h4 with rfl | rfl | rfl
      · exact dline0 h hB hP hr hnc hl
      · exact dline1 h hB hP hr hnc hl
      · exact dline2 h hB hP hr hnc hl
    · exact dline_in h h3 hB (by omega)
  · obtain rfl : st = 3 := by omega
    rcases inner with _ | _
    · exact dtask h hB hP hr bd.1
    · exact dop h hB hP hr hnc hl bd
end
/-- A line without words that has no dot begins with a blank, or is empty. -/
theorem blank_head {x : List UInt8} {b : UInt8} (hw : Tk.words x = []) (hd : Tk.dotted x = false) (hb : x.head? = some b) : b = 32 := by
  unfold Tk.words at hw
  rw [hd] at hw
  cases x with
  | nil => cases hb
  | cons a x =>
    injection hb with hb
    subst hb
    have hw' : Tk.wordsGo (a :: x) [] = [] := hw
    rw [Tk.wordsGo] at hw'
    by_cases h : a = 32
    · exact h
    · rw [if_neg h] at hw'
      exfalso
      have key : ∀ (l cur : List UInt8), cur ≠ [] → Tk.wordsGo l cur ≠ [] := by
        intro l
        induction l with
        | nil => intro cur hc; rw [Tk.wordsGo, if_neg hc]; simp
        | cons b l ih =>
          intro cur hc
          rw [Tk.wordsGo]
          split
          · first | (rw [if_neg hc]; simp) | simp
          · exact ih _ (by simp)
      exact key x _ (by simp) hw'
theorem dotted_head {x : List UInt8} (hd : Tk.dotted x = true) : ∃ y, x = 194 :: 183 :: y := by
  unfold Tk.dotted at hd
  have hd := of_decide_eq_true hd
  match x, hd with
  | a :: b :: y, hd =>
    simp at hd
    obtain ⟨rfl, rfl⟩ := hd
    exact ⟨y, rfl⟩
theorem line_lineT {t : Tk.Table} {st : Nat} {s wd : List UInt8} {ws : List (List UInt8)} (hst : st ≤ 3) (h : Tk.words s = wd :: ws) (hn : ¬ (wd.head? = some 35 ∧ Tk.dotted s = false)) : Tk.line t st s = lineT t st (Tk.inner s) wd ws := by
  rw [line_cons hst h, if_neg hn]
  rfl
/-- What the loop over the lines leaves. -/
def DRel (W0 : World) (p q B : Nat) (s : List UInt8) (k : Nat) (iv : Value) (wr : World) : Prop :=
  ∃ (i : Nat) (t : Tk.Table) (st : Nat), iv = .int .i64 i ∧ i ≤ (Tk.lines s).length ∧ DMem wr p q B t st ∧ st ≤ 3 ∧ Bd t i ∧ Tk.linesRun ((Tk.lines s).drop i) (i + 1) t st = Tk.linesRun (Tk.lines s) 1 Tk.Table.none 0 ∧ Fr p p q B W0 wr ∧ (Tk.lines s).length - i ≤ k
set_option maxRecDepth 100000 in
set_option maxHeartbeats 16000000 in
theorem rparse_any (s : ByteArray) (w : World) (hs : s.size ≤ 900000) : Calls Tryd.prog 10 #[.string s] w (ParsePost w (bytesOf s)) := by
  have hlt := lines_parts (bytesOf s)
  have hpl := parts_len (bytesOf s)
  rw [bytesOf_len] at hpl
  have hKM : (Tk.lines (bytesOf s)).length ≤ 900001 := by
    rw [hlt]
    have h2 : (trim (parts (bytesOf s))).length ≤ (parts (bytesOf s)).length := by unfold trim; split <;> simp
    omega
  have lens : ∀ x ∈ Tk.lines (bytesOf s), x.length ≤ 900000 := by
    intro x hx
    rw [hlt] at hx
    have := parts_mem (l := bytesOf s) (x := x) (trim_mem hx)
    rw [bytesOf_len] at this
    omega
  have LENS := Lib.hid lens
  obtain ⟨K, hK⟩ : ∃ K, K = (Tk.lines (bytesOf s)).length := ⟨_, rfl⟩
  rw [← hK] at hKM
  have HK := Lib.hid hK
  clear hlt hpl lens hK
  obtain ⟨Wa, hWa⟩ : ∃ Wa, Wa = (w.alloc (.cells #[.slice none 0 0, .slice none 0 0, .int .i64 0, .slice none 0 0] 26)).alloc (.cells #[.slice none 0 0, .slice none 0 0, .int .i64 0, .slice none 0 0] 26) := ⟨_, rfl⟩
  have za : Wa.heap.size = w.heap.size + 2 := by rw [hWa]; simp
  have resa : Whole Wa w.heap.size 26 #[.slice none 0 0, .slice none 0 0, .int .i64 0, .slice none 0 0] := by rw [hWa]; exact (Whole.made w 26 _).alloc _
  have pa : Whole Wa (w.heap.size + 1) 26 #[.slice none 0 0, .slice none 0 0, .int .i64 0, .slice none 0 0] := by
    rw [hWa]
    have := Whole.made (w.alloc (.cells #[.slice none 0 0, .slice none 0 0, .int .i64 0, .slice none 0 0] 26)) 26 #[.slice none 0 0, .slice none 0 0, .int .i64 0, .slice none 0 0]
    have e : (w.alloc (.cells #[.slice none 0 0, .slice none 0 0, .int .i64 0, .slice none 0 0] 26)).heap.size = w.heap.size + 1 := by simp
    rw [e] at this
    exact this
  have bwa : Below w.heap.size w Wa := by rw [hWa]; exact ((Below.refl _ _).alloc (Nat.le_refl _) _).alloc (by simp) _
  have HWA := Lib.hid hWa
  have ZA := Lib.hid za
  clear hWa za
  go_enter Tryd.func10, Tryd.ntmps10
  go_wp2_with fail
  rw [← HWA.out]
  refine (lines_any s Wa (by omega)).mono ?_
  rintro e w1 ⟨lv, rfl, ownl, b1⟩
  obtain ⟨AL, cL, hlv, hcL1, hcL2⟩ := row_slice ownl
  rw [← HK.out] at hlv ownl
  subst hlv
  have z1 := b1.size
  obtain ⟨W0, hW0⟩ : ∃ W0, W0 = w1.alloc (.cells #[.int .i64 0] 3) := ⟨_, rfl⟩
  have b0 : Below Wa.heap.size Wa W0 := by rw [hW0]; exact b1.alloc z1 _
  have hz0 : W0.heap.size = w1.heap.size + 1 := by rw [hW0]; simp
  have own0 : W0.ownsRow Wa.heap.size 9 1 (.slice AL K cL) K ((Tk.lines (bytesOf s)).map strV) := by rw [hW0]; exact ownl.alloc _
  have hOWN : ∀ k, (Value.slice AL K cL).ownBlock = some k → Wa.heap.size ≤ k ∧ k < w1.heap.size := fun k hk => ownl.lt k hk
  have hd0 : DMem W0 (w.heap.size + 1) w1.heap.size (w1.heap.size + 1) Tk.Table.none 0 := by
    have := ZA.out
    refine ⟨by omega, by omega, _, _, _, pa.same (b0.block _ (by omega)), ?_, Tab.nil _ _⟩
    rw [hW0]
    exact Whole.made w1 3 _
  have HD0 := Lib.hid hd0
  have HW0 := Lib.hid hW0
  have HZ0 := Lib.hid hz0
  have HOWN := Lib.hid hOWN
  have OWN0 := Lib.hid own0
  clear hd0 hW0 hz0 ownl hOWN own0
  go_wp2_with fail
  rw [← HW0.out]
  go_loopg [8] K (fun k iv wr => DRel W0 (w.heap.size + 1) w1.heap.size (w1.heap.size + 1) (bytesOf s) k iv wr)
  case atStart => exact ⟨0, _, 0, rfl, Nat.zero_le _, HD0.out, by omega, ⟨Nat.le_refl _, fun x hx => by simp [Tk.Table.none] at hx⟩, rfl, Fr.refl _ _ _ _ _, by rw [← HK.out]; omega⟩
  case round =>
    obtain ⟨i, t, st, rfl, hi, hr, hst3, hbd, hrun, hf, hk⟩ := hrel
    have zA := ZA.out
    have hzz := HZ0.out
    have hzf := hf.below.size
    have res2 : Whole wr w.heap.size 26 #[.slice none 0 0, .slice none 0 0, .int .i64 0, .slice none 0 0] := (resa.same (b0.block w.heap.size (by omega))).same (hf.below.block w.heap.size (by omega))
    have bwr : Below w.heap.size w wr := (bwa.trans (b0.mono (by omega))).trans (hf.below.mono (by omega))
    have ownr := row_same OWN0.out fun k hk => hf.block k (by have := (HOWN.out k hk).2; omega) (by have := (HOWN.out k hk).1; omega) (by have := (HOWN.out k hk).2; omega)
    have hzr := bwr.size
    have hKK := HK.out
    by_cases hlt : i < K
    · have hlt' : (i : Int) < K := by omega
      have hiL : i < (Tk.lines (bytesOf s)).length := by omega
      obtain ⟨ad, u, eA, had, hu, hcu⟩ := (Reads.of_own ownr).at_ hlt
      subst eA
      rw [List.getElem?_map, List.getElem?_eq_getElem hiL] at hu
      injection hu with hu
      obtain ⟨x, hx⟩ : ∃ x, x = (Tk.lines (bytesOf s))[i] := ⟨_, rfl⟩
      rw [← hx] at hu
      have hxl : x.length ≤ 900000 := LENS.out x (by rw [hx]; exact List.getElem_mem _)
      obtain ⟨X, hX⟩ : ∃ X : ByteArray, X = ⟨x.toArray⟩ := ⟨_, rfl⟩
      have hXs : X.size = x.length := by rw [hX, size_str]
      have hXl : X.size ≤ 1000000 := by omega
      have hXb : bytesOf X = x := by rw [hX]; rfl
      have cx : wr.cell? (ad.add i) = some (.string X) := by rw [hcu, ← hu, hX]; rfl
      have hlc := linesRun_cons (ls := Tk.lines (bytesOf s)) (i := i + 1) (t := t) (st := st) hiL
      rw [hrun, ← hx] at hlc
      have hbd' : Bd t 1000000 := hbd.more (by omega)
      have hcount := words_count x
      have HLC := Lib.hid hlc
      have HBD := Lib.hid hbd
      have HBD' := Lib.hid hbd'
      have HR := Lib.hid hr
      have HXB := Lib.hid hXb
      have HXS := Lib.hid hXs
      clear hKK hx hu hcu hlc hrun hbd hbd' hr hXb hXs hX ownr
      go_wp2_with fail
      refine (rwords_any X wr hXl).mono ?_
      rintro e w2 ⟨v, rfl, own2, b2⟩
      rw [HXB.out] at own2 ⊢
      have cx2 := (b2.cell (p := ad.add i) (by rw [block_of_add]; exact had)).trans cx
      have f2 := hf.trans (Fr.of (P0 := w.heap.size + 1) (p := w.heap.size + 1) (q := w1.heap.size) (B := w1.heap.size + 1) b2 (by omega) (by omega))
      have bw2 := bwr.trans (b2.mono hzr)
      have hz2 := b2.size
      have hd2 := HR.out.below b2
      have res3 := res2.same (b2.block w.heap.size (by omega))
      have HD2 := Lib.hid hd2
      clear hd2 cx
      rcases hws : Tk.words x with _ | ⟨wd, ws⟩
      · rw [hws] at own2
        obtain ⟨A2, c2, rfl, _, _⟩ := row_slice own2
        have hln := line_nil (t := t) (st := st) hws
        have BH : ∀ b, Tk.dotted x = false → x.head? = some b → b = 32 := fun b h1 h2 => blank_head hws h1 h2
        clear own2 hcount
        rcases hd : Tk.dotted x with _ | _
        · rw [hd] at hln
          have PE := Lib.hid (by have := HLC.out; rw [hln] at this; exact this)
          by_cases h0 : X.size = 0
          · have e0 : ¬ (0 : Int) < X.size := by omega
            clear h0 hd hln hws BH
            go_wp2_with fail
            go_roundg (K - (i + 1))
            case measure => have := HK.out; omega
            case rel => exact ⟨i + 1, t, st, by go_num, by have := HK.out; omega, HD2.out, hst3, HBD.out.more (by omega), PE.out.symm, f2, by rw [← HK.out]; exact Nat.le_refl _⟩
          · have hp0 : 0 < X.size := by omega
            have e0 : (0 : Int) < X.size := by omega
            obtain ⟨cc, hcc⟩ : ∃ cc, cc = X[0]'hp0 := ⟨_, rfl⟩
            have hg0 : (X[0]'hp0).toNat = cc.toNat := by rw [hcc]
            have hc32 : cc = 32 := by
              refine BH cc hd ?_
              rw [← HXB.out, List.head?_eq_getElem?, List.getElem?_eq_getElem (by rw [bytesOf_len]; exact hp0), hcc]
              rfl
            have e1 : ((cc.toNat : Int) != 32) = false := by rw [hc32]; rfl
            have e2 : ((cc.toNat : Int) == 32) = true := by rw [hc32]; rfl
            clear h0 hd hln hws BH hcc hc32
            go_wp2_with fail
            go_roundg (K - (i + 1))
            case measure => have := HK.out; omega
            case rel => exact ⟨i + 1, t, st, by go_num, by have := HK.out; omega, HD2.out, hst3, HBD.out.more (by omega), PE.out.symm, f2, by rw [← HK.out]; exact Nat.le_refl _⟩
        · rw [hd] at hln
          have PE := Lib.hid (parse_bad (s := bytesOf s) (i := i + 1) (by have := HLC.out; rw [hln] at this; exact this))
          obtain ⟨y, hy⟩ := dotted_head hd
          have hp0 : 0 < X.size := by rw [HXS.out, hy]; simp
          have e0 : (0 : Int) < X.size := by omega
          obtain ⟨cc, hcc⟩ : ∃ cc, cc = X[0]'hp0 := ⟨_, rfl⟩
          have hg0 : (X[0]'hp0).toNat = cc.toNat := by rw [hcc]
          have hc194 : cc.toNat = 194 := by
            have h1 : (bytesOf X)[0]'(by rw [bytesOf_len]; exact hp0) = cc := by rw [hcc]; rfl
            have h2 : (bytesOf X)[0]? = some 194 := by rw [HXB.out, hy]; rfl
            rw [List.getElem?_eq_getElem (by rw [bytesOf_len]; exact hp0), h1] at h2
            injection h2 with h2
            rw [h2]
            rfl
          have e1 : ((cc.toNat : Int) != 32) = true := by rw [hc194]; rfl
          have e2 : ((cc.toNat : Int) == 32) = false := by rw [hc194]; rfl
          have e3 : ¬ (cc.toNat : Int) = 32 := by omega
          clear hd hln hws BH hcc hc194 hy
          have r0 := res3.cell 0
          have r1 := res3.cell 1
          have r2 := res3.cell 2
          have r3 := res3.cell 3
          have g0 := res3.frozen 0
          have g1 := res3.frozen 1
          have g2 := res3.frozen 2
          have g3 := res3.frozen 3
          simp at r0 r1 r2 r3
          go_wp2_with fail
          refine bodyPost_ret (v := .tuple #[.agg #[.slice none 0 0, .slice none 0 0, .int .i64 0, .slice none 0 0], .int .i64 (i + 1), .int .i64 3]) (by simp [results, Tryd.results10, go_sem, r0, r1, r2, r3]) rfl ?_
          unfold ParsePost
          rw [PE.out]
          exact ⟨_, _, _, rfl, Tab.nil _ _, ((((bw2).setCell (Nat.le_refl _) _).setCell (Nat.le_refl _) _).setCell (Nat.le_refl _) _).setCell (Nat.le_refl _) _⟩
      · rw [hws] at own2
        obtain ⟨g, c2, rfl, hgl, hgz⟩ := own2.form (by simp)
        obtain ⟨hcc2, hcc3⟩ := row_cap own2
        have hrd := Reads.of_own own2
        obtain ⟨ad3, eA3, had3, hc3⟩ := hrd.head
        injection eA3 with eA3
        subst eA3
        obtain ⟨S, hS⟩ : ∃ S : ByteArray, S = ⟨wd.toArray⟩ := ⟨_, rfl⟩
        have hc3' : w2.cell? ⟨g, 0, none⟩ = some (.string S) := by rw [hc3, hS]; rfl
        have hwne : wd ≠ [] := (words_mem (l := x) (by rw [hws]; exact List.mem_cons_self)).1
        have hsz : 0 < S.size := by rw [hS, size_str]; exact List.length_pos_iff.2 hwne
        have hsz' : (0 : Int) < S.size := by omega
        obtain ⟨cc, hcc⟩ : ∃ cc, cc = S[0]'hsz := ⟨_, rfl⟩
        have hg0 : (S[0]'hsz).toNat = cc.toNat := by rw [hcc]
        have hhd : wd.head? = some cc := by
          rw [List.head?_eq_getElem?, List.getElem?_eq_getElem (List.length_pos_iff.2 hwne), hcc]
          subst hS
          rfl
        have hwl : ws.length ≤ 1000000 := by rw [hws] at hcount; simp at hcount; omega
        obtain ⟨N, hN⟩ : ∃ N, N = (wd :: ws).length := ⟨_, rfl⟩
        rw [← hN] at hcc2 hrd
        rw [← hN]
        have hn1 : 0 < N := by rw [hN]; simp
        have hn0 : (0 : Int) < N := by omega
        have hnz : ((N : Int) == 0) = false := by simp; omega
        have hnz' : ¬ (N : Int) = 0 := by omega
        have HHD := Lib.hid hhd
        have HRD := Lib.hid hrd
        have HWS := Lib.hid hws
        clear own2 hrd hc3 hS hwne hcc hhd hcount hN
        by_cases h35 : cc.toNat = 35 ∧ Tk.dotted x = false
        · obtain ⟨h35, hd⟩ := h35
          have hhc : wd.head? = some 35 := by rw [HHD.out]; congr 1; exact UInt8.toNat_inj.1 h35
          have hln : Tk.line t st x = some (t, st) := by rw [line_cons hst3 hws, if_pos ⟨hhc, hd⟩]
          have PE := Lib.hid (by have := HLC.out; rw [hln] at this; exact this)
          have e1 : ((cc.toNat : Int) == 35) = true := by rw [h35]; rfl
          have HD := Lib.hid hd
          clear h35 hd hln hws hhc
          go_wp2_with fail
          refine (dotted_any X _).mono ?_
          rintro e w' ⟨rfl, rfl⟩
          rw [HXB.out, HD.out]
          go_wp2_with fail
          go_roundg (K - (i + 1))
          case measure => have := HK.out; omega
          case rel => exact ⟨i + 1, t, st, by go_num, by have := HK.out; omega, HD2.out, hst3, HBD.out.more (by omega), PE.out.symm, f2, by rw [← HK.out]; exact Nat.le_refl _⟩
        · have hnn : ¬ (wd.head? = some 35 ∧ Tk.dotted x = false) := by
            rintro ⟨q1, q2⟩
            rw [HHD.out] at q1
            injection q1 with q1
            exact h35 ⟨by rw [q1]; rfl, q2⟩
          have hlt2 := line_lineT (t := t) hst3 hws hnn
          have HLT := Lib.hid hlt2
          have h36 : ((cc.toNat : Int) == 35) = false ∨ (((cc.toNat : Int) == 35) = true ∧ Tk.dotted x = true) := by
            by_cases q : cc.toNat = 35
            · right
              refine ⟨by rw [q]; rfl, ?_⟩
              rcases hq : Tk.dotted x with _ | _
              · exact absurd ⟨q, hq⟩ h35
              · rfl
            · left
              simp
              omega
          clear h35 hnn hlt2 hws
          rcases h36 with e1 | ⟨e1, hd⟩
          all_goals
            first
              | (have HD := Lib.hid hd
                 clear hd
                 go_wp2_with fail
                 refine (dotted_any X _).mono ?_
                 rintro e w' ⟨rfl, rfl⟩
                 rw [HXB.out, HD.out]
                 go_wp2_with fail)
              | go_wp2_with fail
            refine (dline_any (P0 := w.heap.size + 1) (Tk.inner x) HD2.out hst3 (by omega) ⟨Nat.le_refl _, by omega⟩ HRD.out hcc2 hwl HBD'.out).mono ?_
            rintro e w3 ⟨f3, hm⟩
            have f23 := f2.trans f3
            have res4 := res3.same (f3.below.block w.heap.size (by omega))
            have bw3 := bw2.trans (f3.below.mono (by omega))
            have hln : ∀ t' st', Tk.line t st x = some (t', st') → Bd t' (i + 1) ∧ st' ≤ 3 := fun t' st' h => line_bd hst3 HBD.out h
            have HLN := Lib.hid hln
            clear hln
            generalize hat : lineT t st (Tk.inner x) wd ws = at_ at hm
            have hat2 := HLT.out.trans hat
            rcases at_ with _ | ⟨t', st'⟩
            · have hm' : e = .returned (.bool false) := hm
              subst hm'
              have PE := Lib.hid (parse_bad (s := bytesOf s) (i := i + 1) (by have := HLC.out; rw [hat2] at this; exact this))
              clear hm hat hat2
              have r0 := res4.cell 0
              have r1 := res4.cell 1
              have r2 := res4.cell 2
              have r3 := res4.cell 3
              have g0 := res4.frozen 0
              have g1 := res4.frozen 1
              have g2 := res4.frozen 2
              have g3 := res4.frozen 3
              simp at r0 r1 r2 r3
              go_wp2_with fail
              refine bodyPost_ret (v := .tuple #[.agg #[.slice none 0 0, .slice none 0 0, .int .i64 0, .slice none 0 0], .int .i64 (i + 1), .int .i64 3]) (by simp [results, Tryd.results10, go_sem, r0, r1, r2, r3]) rfl ?_
              unfold ParsePost
              rw [PE.out]
              exact ⟨_, _, _, rfl, Tab.nil _ _, ((((bw3).setCell (Nat.le_refl _) _).setCell (Nat.le_refl _) _).setCell (Nat.le_refl _) _).setCell (Nat.le_refl _) _⟩
            · have hm' : e = .returned (.bool true) ∧ DMem w3 (w.heap.size + 1) w1.heap.size (w1.heap.size + 1) t' st' := hm
              obtain ⟨rfl, hm2⟩ := hm'
              have PE := Lib.hid (by have := HLC.out; rw [hat2] at this; exact this)
              obtain ⟨q1, q2⟩ := HLN.out t' st' hat2
              clear hm hat hat2
              go_wp2_with fail
              go_roundg (K - (i + 1))
              case measure => have := HK.out; omega
              case rel => exact ⟨i + 1, t', st', by go_num, by have := HK.out; omega, hm2, q2, q1, PE.out.symm, f23, by rw [← HK.out]; exact Nat.le_refl _⟩
    · have hge : ¬ (i : Int) < K := by omega
      have hrun2 : Tk.linesRun (Tk.lines (bytesOf s)) 1 Tk.Table.none 0 = .inl (t, st) := by
        rw [← hrun, List.drop_of_length_le (by omega)]
        rfl
      obtain ⟨hpB, hqB, V1, V2, V3, hw, hq, ht⟩ := hr
      obtain ⟨A1, n1, hV1, _, _⟩ := ht.len
      obtain ⟨A2, n2, hV2, _, _⟩ := row_slice ht.sems
      obtain ⟨A3, n3, hV3, _, _⟩ := row_slice ht.queues
      subst hV1 hV2 hV3
      have k0 := hw.cell 0
      have k1 := hw.cell 1
      have k2 := hw.cell 2
      have k3 := hw.cell 3
      have kq := hq.cell 0
      simp at k0 k1 k2 k3 kq
      have hpz := hw.lt
      have r0 := res2.cell 0
      have r1 := res2.cell 1
      have r2 := res2.cell 2
      have r3 := res2.cell 3
      have g0 := res2.frozen 0
      have g1 := res2.frozen 1
      have g2 := res2.frozen 2
      have g3 := res2.frozen 3
      simp at r0 r1 r2 r3
      have HT := Lib.hid ht
      have HRUN := Lib.hid hrun2
      clear hKK hrun hrun2 hbd hw hq ht ownr
      by_cases h3 : st < 3
      · have h3' : (st : Int) < 3 := by omega
        have PE := Lib.hid (parse_few HRUN.out h3)
        have HK' : Hid ((Tk.lines (bytesOf s)).length = K) := HK.out.symm
        clear h3
        go_wp2_with fail
        refine bodyPost_ret (v := .tuple #[.agg #[.slice none 0 0, .slice none 0 0, .int .i64 0, .slice none 0 0], .int .i64 (K + 1), .int .i64 3]) (by simp [results, Tryd.results10, go_sem, r0, r1, r2, r3]) rfl ?_
        unfold ParsePost
        rw [PE.out, HK'.out]
        exact ⟨_, _, _, rfl, Tab.nil _ _, (((bwr.setCell (Nat.le_refl _) _).setCell (Nat.le_refl _) _).setCell (Nat.le_refl _) _).setCell (Nat.le_refl _) _⟩
      · have h3' : ¬ (st : Int) < 3 := by omega
        have RD := Lib.hid (HT.out.reads).1
        go_wp2_with fail
        refine (rcheck_any RD.out).mono ?_
        rintro e w2 ⟨rfl, b2⟩
        have res3 := res2.same (b2.block w.heap.size (by omega))
        clear r0 r1 r2 r3 g0 g1 g2 g3
        have r0 := res3.cell 0
        have r1 := res3.cell 1
        have r2 := res3.cell 2
        have r3 := res3.cell 3
        have g0 := res3.frozen 0
        have g1 := res3.frozen 1
        have g2 := res3.frozen 2
        have g3 := res3.frozen 3
        simp at r0 r1 r2 r3
        have bw2 := bwr.trans (b2.mono bwr.size)
        rcases hft : t.fits with _ | _
        · have PE := Lib.hid (parse_not HRUN.out h3 hft)
          rw [chk_no hft]
          clear hft h3
          go_wp2_with fail
          refine bodyPost_ret (v := .tuple #[.agg #[.slice none 0 0, .slice none 0 0, .int .i64 0, .slice none 0 0], .int .i64 0, .int .i64 20]) (by simp [results, Tryd.results10, go_sem, r0, r1, r2, r3]) rfl ?_
          unfold ParsePost
          rw [PE.out]
          exact ⟨_, _, _, rfl, Tab.nil _ _, (((bw2.setCell (Nat.le_refl _) _).setCell (Nat.le_refl _) _).setCell (Nat.le_refl _) _).setCell (Nat.le_refl _) _⟩
        · have PE := Lib.hid (parse_yes HRUN.out h3 hft)
          rw [chk_yes hft]
          have q0 := (b2.cell (p := ⟨w.heap.size + 1, 0, none⟩) hpz).trans k0
          have q1 := (b2.cell (p := ⟨w.heap.size + 1, 1, none⟩) hpz).trans k1
          have q2 := (b2.cell (p := ⟨w.heap.size + 1, 2, none⟩) hpz).trans k2
          have q3 := (b2.cell (p := ⟨w.heap.size + 1, 3, none⟩) hpz).trans k3
          clear hft h3 k0 k1 k2 k3 kq
          go_wp2_with fail
          refine bodyPost_ret (v := .tuple #[.agg #[.slice A1 t.tasks.length n1, .slice A2 t.sems.length n2, .int .i64 t.mutexes, .slice A3 t.queues.length n3], .int .i64 0, .int .i64 0]) (by simp [results, Tryd.results10, go_sem, r0, r1, r2, r3]) rfl ?_
          unfold ParsePost
          rw [PE.out]
          refine ⟨_, _, _, rfl, ?_, (((bw2.setCell (Nat.le_refl _) _).setCell (Nat.le_refl _) _).setCell (Nat.le_refl _) _).setCell (Nat.le_refl _) _⟩
          have htm := (HT.out.below b2 (Nat.le_refl _)).mono (B' := w.heap.size + 1) (by omega)
          exact ((((htm.far (p := ⟨w.heap.size, 0, none⟩) (Nat.lt_succ_self _) _).far (p := ⟨w.heap.size, 1, none⟩) (Nat.lt_succ_self _) _).far (p := ⟨w.heap.size, 2, none⟩) (Nat.lt_succ_self _) _).far (p := ⟨w.heap.size, 3, none⟩) (Nat.lt_succ_self _) _).mono (by omega)
end Go.Proofs.YtadcfedjmofjjaaDoor
