/-
  The walk of the lexer's string.
-/
import Derived.Test.YtoidmljhlekbkaaDoorW3
import Derived.Test.YtoidmljhlekbkaaDoorW4
import Derived.Test.YtoidmljhlekbkaaDoorPlain
import Derived.Test.YtoidmljhlekbkaaDoorBuild
import Derived.Deep.LoopGhost
import Derived.Deep.RegionHeld3
import Derived.Lib.Hide
namespace Go.Proofs.YtoidmljhlekbkaaDoor
open Go.RowKit
theorem Only.lay {bs : List Nat} {a w w' : World} {B : Nat} (h : Only bs a w) (hb : Below B w w') (hB : a.heap.size ≤ B) : Only bs a w' :=
  ⟨hb.os.trans h.os, hb.tape.trans h.tape, hb.output.trans h.output, Nat.le_trans h.size hb.size, fun k hk hn => (hb.block k (by omega)).trans (h.block k hk hn)⟩
theorem builder_only {B b p : Nat} {bs : List Value} {w w' : World} (h : Lib.IsBuilder 78 5 B b bs w) (o : Only [p] w w') (hp : p < B) : Lib.IsBuilder 78 5 B b bs w' := by
  have key : ∀ q, Lib.BuilderAt 78 5 B b q bs w → Lib.BuilderAt 78 5 B b q bs w' := by
    rintro q ⟨hB, v, hb, hown, hne⟩
    exact ⟨hB, v, (o.block b (Whole.lt hb) (by simp; omega)).trans hb, row_same hown fun k hk => o.block k (hown.lt k hk).2 (by have := (hown.lt k hk).1; simp; omega), hne⟩
  exact h.imp (key _) (key _)
theorem builder_drewN {B b : Nat} {bs : List Value} {w : World} (h : Lib.IsBuilder 78 5 B b bs w) (n : Nat) : Lib.IsBuilder 78 5 B b bs (w.drewN n) := h
theorem builder_drew {B b : Nat} {bs : List Value} {w : World} (h : Lib.IsBuilder 78 5 B b bs w) : Lib.IsBuilder 78 5 B b bs w.drew := h
section
variable {w : World} {B T p : Nat} {s : ByteArray} {x : Lx.St} {L O : Value} {D : Option Addr}
/-- What the loop of a string's runes leaves. -/
def TextRel (w0 : World) (b0 BB : Nat) (B T p : Nat) (s : ByteArray) (x z : Lx.St) (L O : Value) (D : Option Addr) (N k : Nat) (wr : World) : Prop :=
  ∃ y b n, Lex wr B T p s y L O D ∧ Fit y ∧ Goes z y ∧ Lib.IsBuilder 78 5 BB BB (Lib.byteCells b) wr ∧ b.length ≤ 4 * y.at_ ∧ Lx.textGo n b y = Lx.textGo N [] z ∧ y.l.length - y.at_ + 1 ≤ n ∧
    Only [p] w0 wr ∧ Whole wr b0 46 #[.int .i64 x.line, .int .i64 x.col] ∧ BB ≤ wr.heap.size ∧ y.l.length - y.at_ ≤ k
theorem text_any (h : Lex w B T p s x L O D) (f : Fit x) (hlt : x.at_ < x.l.length) :
    Calls Tryd.prog 37 #[.pointer (some ⟨p, 0, none⟩)] w
      fun e w' => e = .returned (.tuple #[]) ∧ ∃ O' D', Lex w' B w'.heap.size p s x.text L O' D' ∧ Below B w w' := by
  have c3 := h.cell 3
  have c4 := h.cell 4
  have hp := h.lt
  simp at c3 c4
  have hpn : w.heap.size ∉ [p] := by simp; omega
  have q0 := h.alloc (.cells #[.int .i64 x.line, .int .i64 x.col] 46)
  have u0 := Whole.made w 46 #[.int .i64 x.line, .int .i64 x.col]
  have o0 : Only [p] w (w.alloc (.cells #[.int .i64 x.line, .int .i64 x.col] 46)) := (Only.refl _ _).alloc _
  have hBp := h.hB
  have hTp := h.hT
  have hB0 : B ≤ w.heap.size := by omega
  have hBs : ∀ k ∈ [p], B ≤ k := by simpa using hBp
  have f1 := f.step hlt
  go_enter Tryd.func37, Tryd.ntmps37
  go_wp2_with fail
  refine (step_any q0 f hlt).mono ?_
  rintro e w1 ⟨rfl, h1, o1⟩
  have u1 := u0.only o1 hpn
  have z1 := o1.size
  simp at z1
  have hlt46 : w.heap.size < w1.heap.size := by omega
  go_wp2_with fail
  go_loopg [] (x.step.l.length - x.step.at_) (fun k wr => TextRel w w.heap.size w1.heap.size B T p s x x.step L O D (x.step.l.length - x.step.at_ + 1) k wr)
  case atStart =>
    refine ⟨x.step, [], _, h1.alloc _, f1, Goes.refl _, Or.inl ⟨Nat.le_refl _, .slice none 0 0, Whole.made w1 78 _, World.ownsRow_nil _ _ _ _, by simp [Value.ownBlock]⟩, by simp, rfl, Nat.le_refl _,
      (o0.trans o1).alloc _, u1.alloc _, by simp, Nat.le_refl _⟩
  case round =>
    obtain ⟨y, b, n, hy, fy, gy, iy, ly, ty, ny, oy, by_, zy, ky⟩ := hrel
    obtain ⟨m, rfl⟩ : ∃ m, n = m + 1 := ⟨n - 1, by omega⟩
    have lb := fy.at_
    have lc := fy.len
    by_cases h34 : y.peek 0 = 34
    · have A : Hid (Lx.textGo (x.step.l.length - x.step.at_ + 1) [] x.step = (some b, y)) := by rw [← ty, text_end h34]; exact rfl
      have E : Hid (x.text = y.step.put 3 b 0 x.line x.col) := by
        show Lx.St.text x = _
        unfold Lx.St.text
        simp only
        rw [A.out]
      have e1 : (y.peek 0 != 34) = false := by simp [h34]
      have l2 : y.at_ < y.l.length := Fit.peek_lt (k := 0) (by omega)
      have ho : y.step.out.length ≤ 65536 := by
        have := fy.out
        show y.out.length ≤ 65536
        omega
      clear h34 ty A
      go_wp2_with fail
      refine (rune0 hy fy).mono ?_
      rintro e w' ⟨rfl, n1, rfl⟩
      go_wp2_with fail
      refine (step_any (hy.drewN _) fy l2).mono ?_
      rintro e w2 ⟨rfl, h2, o2⟩
      have i2 := builder_only (builder_drewN iy n1) o2 (by omega)
      have u2 := (by_.drewN n1).only o2 hpn
      have o3 := oy.trans (((Only.refl _ _).drewN n1).trans o2)
      have k0 := u2.cell 0
      have k1 := u2.cell 1
      simp at k0 k1
      have s2 := o2.size
      simp at s2
      have Tm : T ≤ w1.heap.size := by omega
      go_wp2_with fail
      go_region_with (first | (go_at_call 47; refine (Tryd.Builder_String_any w1.heap.size w1.heap.size b _ (builder_drew i2) (by simp; omega)).mono ?_; rintro e w3 ⟨rfl, hb3⟩; have k2 := (hb3.cell (p := ⟨w.heap.size, 0, none⟩) hlt46).trans k0; have k3 := (hb3.cell (p := ⟨w.heap.size, 1, none⟩) hlt46).trans k1) | (go_at_call 20; refine (put_any 3 0 x.line x.col b (h2.drew.below hb3 Tm) ho).mono ?_; rintro e w4 ⟨rfl, O', h4, o4⟩))
      all_goals
        go_wp2_with fail
        go_end0
        rw [E.out]
        exact ⟨rfl, O', D, h4, ((o3.drew.lay hb3 (by omega)).below hB0 hBs).trans o4⟩
    · have e1 : (y.peek 0 != 34) = true := by simp [h34]
      have eb := escaped_bd y 34 fy
      have fe := escaped_fit y 34 (by decide) fy
      have ge := escaped_goes y 34
      by_cases hc : (y.escaped 34).1 < 0
      · have A : Hid (Lx.textGo (x.step.l.length - x.step.at_ + 1) [] x.step = (none, (y.escaped 34).2)) := by rw [← ty, text_bad h34 hc]; exact rfl
        have E : Hid (x.text = (y.escaped 34).2.quote x.line x.col) := by
          show Lx.St.text x = _
          unfold Lx.St.text
          simp only
          rw [A.out]
        clear h34 ty A
        go_wp2_with fail
        refine (rune0 hy fy).mono ?_
        rintro e w' ⟨rfl, n1, rfl⟩
        go_wp2_with fail
        refine (escaped_any 34 (by decide) (hy.drewN _) fy).mono ?_
        rintro e w2 ⟨rfl, h2, o2⟩
        have u2 := (by_.drewN n1).only o2 hpn
        have k0 := u2.cell 0
        have k1 := u2.cell 1
        simp at k0 k1
        go_wp2_with fail
        refine (quote_any x.line x.col h2).mono ?_
        rintro e w3 ⟨rfl, D', h3, o3⟩
        go_wp2_with fail
        (first | go_end0 | refine bodyPost_ret (results_none rfl _ _ _) rfl ?_)
        rw [E.out]
        exact ⟨rfl, O, D', h3, ((oy.trans (((Only.refl _ _).drewN n1).trans o2)).trans o3).below hB0 hBs⟩
      · have A : Hid (Lx.textGo (m + 1) b y = Lx.textGo m (b ++ (Utf8.encode (y.escaped 34).1).data.toList) (y.escaped 34).2) := text_on h34 hc
        have hen := encode_cells (y.escaped 34).1 (by omega) (by omega)
        have hel : (Utf8.encode (y.escaped 34).1).data.toList.length ≤ 4 := by
          have h1 := (Lib.runeCells_le (y.escaped 34).1).2
          rw [← hen, Lib.byteCells_length] at h1
          exact h1
        have hadv : y.at_ < (y.escaped 34).2.at_ := eb.2.2 (by omega)
        have hla := fe.at_
        have hll : (y.escaped 34).2.l.length = y.l.length := by rw [ge.l]
        have hbl : (Lib.byteCells b).length ≤ 262144 := by rw [Lib.byteCells_length]; omega
        have HL := Lib.hid hll
        have HE := Lib.hid hen
        clear h34 hll hen
        go_wp2_with fail
        refine (rune0 hy fy).mono ?_
        rintro e w' ⟨rfl, n1, rfl⟩
        go_wp2_with fail
        refine (escaped_any 34 (by decide) (hy.drewN _) fy).mono ?_
        rintro e w2 ⟨rfl, h2, o2⟩
        have i2 := builder_only (builder_drewN iy n1) o2 (by omega)
        have u2 := (by_.drewN n1).only o2 hpn
        have s2 := o2.size
        simp at s2
        go_wp2_with fail
        refine (writeRune w1.heap.size w1.heap.size _ (y.escaped 34).1 (by omega) (by omega) _ i2 (by omega) (by omega)).mono ?_
        rintro e w3 ⟨⟨nn, rfl⟩, h3, b3⟩
        go_wp2_with fail
        go_roundg ((y.escaped 34).2.l.length - (y.escaped 34).2.at_)
        case measure => have := HL.out; omega
        case rel =>
          refine ⟨(y.escaped 34).2, b ++ (Utf8.encode (y.escaped 34).1).data.toList, m, h2.below b3 (by omega), fe, gy.trans ge, ?_, ?_, A.out.symm.trans ty, by have := HL.out; omega,
            (oy.trans (((Only.refl _ _).drewN n1).trans o2)).lay b3 (by omega), u2.same (b3.block _ (by omega)), Nat.le_trans (by omega) b3.size, Nat.le_refl _⟩
          · rw [Lib.byteCells_append, HE.out]; exact h3
          · rw [List.length_append]; omega
end
end Go.Proofs.YtoidmljhlekbkaaDoor
