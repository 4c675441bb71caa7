/-
  The given Decode, the document's Decode: the walks.
-/
import Derived.Test.YtmfldcacjpligaaDoorW4
import Derived.Test.YtmfldcacjpligaaDoorW5
namespace Go.Proofs.YtmfldcacjpligaaDoor
open Go.RowKit
/-- What a word is, and the error. -/
def decR (n : Int) : Is.Ins × Int := match Is.dec n with
  | some i => (i, 0)
  | none => (⟨0, 0, 0, 0, 0⟩, 5)
theorem decR_some {n : Int} {i : Is.Ins} (h : Is.decW (n % 4294967296) = some i) : decR n = (i, 0) := by unfold decR Is.dec; rw [h]
theorem decR_none {n : Int} (h : Is.decW (n % 4294967296) = none) : decR n = (⟨0, 0, 0, 0, 0⟩, 5) := by unfold decR Is.dec; rw [h]
theorem results_pair {fn : Func} {p q : Tmp} {ty : TypeId} {v : Value} (h : fn.results = #[.cell p ty, .tmp q]) (tmps : Array Value) (w : World) (g : Nat) (t : TypeId) (cs : Array Value) (fr : Nat × Nat) (fs : Array Field)
    (hp : tmps.getD p undef = .pointer (some ⟨g, 0, none⟩)) (hg : w.heap[g]? = some (.cells cs t fr))
    (hu : Tryd.prog.underlying ty = some (.struct fs)) (hi : (Tryd.prog.info? ty).map (·.size) = some cs.size) (hv : Value.tuple #[.agg cs, tmps.getD q undef] = v) :
    (results fn tmps).run Tryd.prog w = .ok v w := by
  have hp' : tmps[p]?.getD undef = .pointer (some ⟨g, 0, none⟩) := by simpa using hp
  subst hv
  simp [results, h, hp', asAddr, run_loadVar_row w g t ty cs fr (.struct fs) hg hu rfl hi]
def DecPost (n : Int) (w : World) (e : Ending) (w' : World) : Prop := e = .returned (.tuple #[insV (decR n).1, .int .i64 (decR n).2]) ∧ Below w.heap.size w w'
theorem dec_post {n : Int} {w w' : World} {i : Is.Ins} {x : Int} (h : decR n = (i, x)) (hb : Below w.heap.size w w') : DecPost n w (.returned (.tuple #[insV i, .int .i64 x])) w' := by
  unfold DecPost
  rw [h]
  exact ⟨rfl, hb⟩
set_option maxRecDepth 100000 in
set_option maxHeartbeats 4000000 in
theorem decode_any (n : Int) (w : World) : Calls Tryd.prog 22 #[.int .i64 n] w (DecPost n w) := by
  have wa := Whole.made w 23 #[.int .i64 0, .int .i64 0, .int .i64 0, .int .i64 0, .int .i64 0]
  have hb1 := ((Below.refl w.heap.size w).alloc (Nat.le_refl _) (.cells #[.int .i64 0, .int .i64 0, .int .i64 0, .int .i64 0, .int .i64 0] 23))
  have DS := fun i (h : Is.decW (n % 4294967296) = some i) => decR_some h
  have DN := fun (h : Is.decW (n % 4294967296) = none) => decR_none h
  obtain ⟨v, ev⟩ : ∃ v, n % 4294967296 = v := ⟨_, rfl⟩
  rw [ev] at DS DN
  have h0 : 0 ≤ v := by omega
  have h1 : v < 4294967296 := by omega
  have HDS := Lib.hid DS
  have HDN := Lib.hid DN
  clear DS DN
  go_enter Tryd.func22, Tryd.ntmps22
  go_wp2_with fail
  refine (fast_any v h0 h1 _).mono ?_
  rintro e w2 ⟨⟨op, a, b, c, m⟩, B, rfl, hd, hb2⟩
  have hb12 := hb1.trans (hb2.mono (by simp))
  have hz2 := hb2.size
  simp at hz2
  have wa2 := wa.same (hb2.block _ (by simp))
  have c0 := wa2.cell 0
  have c1 := wa2.cell 1
  have c2 := wa2.cell 2
  have c3 := wa2.cell 3
  have c4 := wa2.cell 4
  have f0 := wa2.frozen 0
  have f1 := wa2.frozen 1
  have f2 := wa2.frozen 2
  have f3 := wa2.frozen 3
  have f4 := wa2.frozen 4
  simp at c0 c1 c2 c3 c4
  have n0 := World.new_ne w2 ⟨w.heap.size, 0, none⟩ c0
  have n1 := World.new_ne w2 ⟨w.heap.size, 1, none⟩ c1
  have n2 := World.new_ne w2 ⟨w.heap.size, 2, none⟩ c2
  have n3 := World.new_ne w2 ⟨w.heap.size, 3, none⟩ c3
  have n4 := World.new_ne w2 ⟨w.heap.size, 4, none⟩ c4
  have hne : ¬ w.heap.size = w2.heap.size := by omega
  have hlt : w.heap.size < w2.heap.size := by omega
  unfold insV
  rcases B with _ | _
  · have E := Lib.hid (HDN.out hd)
    clear hd
    go_wp2_with fail
    have wf := (((((wa2.put 0 (.int .i64 0)).put 1 (.int .i64 0)).put 2 (.int .i64 0)).put 3 (.int .i64 0)).put 4 (.int .i64 0)).alloc (.cells #[.int .i64 op, .int .i64 a, .int .i64 b, .int .i64 c, .int .i64 m] 23)
    refine bodyPost_ret (v := .tuple #[insV ⟨0, 0, 0, 0, 0⟩, .int .i64 5]) (results_pair rfl _ _ w.heap.size 23 _ (0, 0) _ rfl wf Tryd.underlying23 (by kernel_rfl) rfl) rfl (dec_post E.out ?_)
    first
      | exact (((((hb12.setCell (Nat.le_refl _) _).setCell (Nat.le_refl _) _).setCell (Nat.le_refl _) _).setCell (Nat.le_refl _) _).setCell (Nat.le_refl _) _).alloc (by simp; omega) _
      | exact (((((hb12.alloc (by omega) _).setCell (Nat.le_refl _) _).setCell (Nat.le_refl _) _).setCell (Nat.le_refl _) _).setCell (Nat.le_refl _) _).setCell (Nat.le_refl _) _
  · have E := Lib.hid (HDS.out _ hd)
    clear hd
    go_wp2_with fail
    have wf := (((((wa2.put 0 (.int .i64 op)).put 1 (.int .i64 a)).put 2 (.int .i64 b)).put 3 (.int .i64 c)).put 4 (.int .i64 m)).alloc (.cells #[.int .i64 op, .int .i64 a, .int .i64 b, .int .i64 c, .int .i64 m] 23)
    refine bodyPost_ret (v := .tuple #[insV ⟨op, a, b, c, m⟩, .int .i64 0]) (results_pair rfl _ _ w.heap.size 23 _ (0, 0) _ rfl wf Tryd.underlying23 (by kernel_rfl) rfl) rfl (dec_post E.out ?_)
    first
      | exact (((((hb12.setCell (Nat.le_refl _) _).setCell (Nat.le_refl _) _).setCell (Nat.le_refl _) _).setCell (Nat.le_refl _) _).setCell (Nat.le_refl _) _).alloc (by simp; omega) _
      | exact (((((hb12.alloc (by omega) _).setCell (Nat.le_refl _) _).setCell (Nat.le_refl _) _).setCell (Nat.le_refl _) _).setCell (Nat.le_refl _) _).setCell (Nat.le_refl _) _
/-! The document's. -/
theorem rW_any (n : Int) (w : World) : Calls Tryd.prog 24 #[.int .i64 n] w fun e w' => e = .returned (.int .i64 (n % 4294967296)) ∧ w = w' := by
  have E := Lib.hid (land32 n)
  go_enter Tryd.func24, Tryd.ntmps24
  go_wp2
  go_ret
  exact ⟨ret_int E.out, rfl⟩
theorem rsigned_any (x : Int) (h0 : 0 ≤ x) (h1 : x < 4294967296) (w : World) : Calls Tryd.prog 32 #[.int .i64 x] w fun e w' => e = .returned (.int .i64 (sgn32 x)) ∧ w = w' := by
  have E : bits .and .i64 x 4294967295 = x := by rw [land32]; omega
  by_cases h : 2147483647 < x
  · have ES : Hid (sgn32 x = x - 4294967296) := by show _ = _; unfold sgn32; rw [if_pos (by omega)]
    go_enter Tryd.func32, Tryd.ntmps32
    go_wp2_with fail
    go_ret
    exact ⟨ret_int ES.out.symm, rfl⟩
  · have ES : Hid (sgn32 x = x) := by show _ = _; unfold sgn32; rw [if_neg (by omega)]
    go_enter Tryd.func32, Tryd.ntmps32
    go_wp2_with fail
    go_ret
    exact ⟨ret_int ES.out.symm, rfl⟩
theorem rext16 (v : Int) (_h0 : 0 ≤ v) (_h1 : v < 4294967296) (w : World) : Calls Tryd.prog 33 #[.int .i64 v, .int .i64 16] w fun e w' => e = .returned (.int .i64 (Is.sgn16 (v % 65536) % 4294967296)) ∧ w = w' := by
  have E : bits .and .i64 v 65535 = v % 65536 := land16 v
  obtain ⟨x, ex⟩ : ∃ x, v % 65536 = x := ⟨_, rfl⟩
  have x0 : 0 ≤ x := by omega
  have x1 : x < 65536 := by omega
  rw [ex] at E ⊢
  clear ex
  by_cases h : 32768 ≤ x
  · have e1 : (x / 32768 == 1) = true := beq_iff_eq.2 (by omega)
    have ES : Hid ((x - 65536) % 4294967296 = Is.sgn16 x % 4294967296) := by show _ = _; unfold Is.sgn16; rw [if_pos h]
    go_enter Tryd.func33, Tryd.ntmps33
    go_wp2_with fail
    refine (rW_any _ _).mono ?_
    rintro e w2 ⟨rfl, rfl⟩
    go_wp2_with fail
    go_ret
    exact ⟨ret_int ES.out, rfl⟩
  · have e1 : (x / 32768 == 1) = false := ne_eq (by omega)
    have ES : Hid (x % 4294967296 = Is.sgn16 x % 4294967296) := by show _ = _; unfold Is.sgn16; rw [if_neg h]
    go_enter Tryd.func33, Tryd.ntmps33
    go_wp2_with fail
    refine (rW_any _ _).mono ?_
    rintro e w2 ⟨rfl, rfl⟩
    go_wp2_with fail
    go_ret
    exact ⟨ret_int ES.out, rfl⟩
theorem rext20 (v : Int) (_h0 : 0 ≤ v) (_h1 : v < 4294967296) (w : World) : Calls Tryd.prog 33 #[.int .i64 v, .int .i64 20] w fun e w' => e = .returned (.int .i64 (Is.sgn20 (v % 1048576) % 4294967296)) ∧ w = w' := by
  have E : bits .and .i64 v 1048575 = v % 1048576 := land20 v
  obtain ⟨x, ex⟩ : ∃ x, v % 1048576 = x := ⟨_, rfl⟩
  have x0 : 0 ≤ x := by omega
  have x1 : x < 1048576 := by omega
  rw [ex] at E ⊢
  clear ex
  by_cases h : 524288 ≤ x
  · have e1 : (x / 524288 == 1) = true := beq_iff_eq.2 (by omega)
    have ES : Hid ((x - 1048576) % 4294967296 = Is.sgn20 x % 4294967296) := by show _ = _; unfold Is.sgn20; rw [if_pos h]
    go_enter Tryd.func33, Tryd.ntmps33
    go_wp2_with fail
    refine (rW_any _ _).mono ?_
    rintro e w2 ⟨rfl, rfl⟩
    go_wp2_with fail
    go_ret
    exact ⟨ret_int ES.out, rfl⟩
  · have e1 : (x / 524288 == 1) = false := ne_eq (by omega)
    have ES : Hid (x % 4294967296 = Is.sgn20 x % 4294967296) := by show _ = _; unfold Is.sgn20; rw [if_neg h]
    go_enter Tryd.func33, Tryd.ntmps33
    go_wp2_with fail
    refine (rW_any _ _).mono ?_
    rintro e w2 ⟨rfl, rfl⟩
    go_wp2_with fail
    go_ret
    exact ⟨ret_int ES.out, rfl⟩
theorem sgn_back16 (m : Int) (h : 0 ≤ m) (h1 : m < 65536) : sgn32 (Is.sgn16 m % 4294967296) = Is.sgn16 m := by
  unfold sgn32 Is.sgn16
  split <;> split <;> omega
theorem fields_none {v : Int} (f : Is.form (v / 16777216) = 0) : Is.fieldsOf v = ⟨v / 16777216, v / 1048576 % 16, 0, 0, 0⟩ := by
  unfold Is.fieldsOf
  dsimp only
  rw [f]
  rfl
theorem fields_R {v : Int} (f : Is.form (v / 16777216) = 82) : Is.fieldsOf v = ⟨v / 16777216, v / 1048576 % 16, v / 65536 % 16, v / 4096 % 16, 0⟩ := by
  unfold Is.fieldsOf
  dsimp only
  rw [f, if_pos rfl]
theorem fields_I {v : Int} (f : Is.form (v / 16777216) = 73) : Is.fieldsOf v = ⟨v / 16777216, v / 1048576 % 16, v / 65536 % 16, 0, Is.sgn16 (v % 65536)⟩ := by
  unfold Is.fieldsOf
  dsimp only
  rw [f, if_neg (by decide), if_pos rfl]
theorem fields_U {v : Int} (f : Is.form (v / 16777216) = 85) : Is.fieldsOf v = ⟨v / 16777216, v / 1048576 % 16, v / 65536 % 16, 0, (v % 65536)⟩ := by
  unfold Is.fieldsOf
  dsimp only
  rw [f, if_neg (by decide), if_neg (by decide), if_pos rfl]
theorem fields_H {v : Int} (f : Is.form (v / 16777216) = 72) : Is.fieldsOf v = ⟨v / 16777216, v / 1048576 % 16, v / 65536 % 16, 0, (v % 65536)⟩ := by
  unfold Is.fieldsOf
  dsimp only
  rw [f, if_neg (by decide), if_neg (by decide), if_neg (by decide), if_pos rfl]
theorem fields_L {v : Int} (f : Is.form (v / 16777216) = 76) : Is.fieldsOf v = ⟨v / 16777216, v / 1048576 % 16, 0, 0, (v % 65536)⟩ := by
  unfold Is.fieldsOf
  dsimp only
  rw [f, if_neg (by decide), if_neg (by decide), if_neg (by decide), if_neg (by decide), if_pos rfl]
theorem fields_J {v : Int} (f : Is.form (v / 16777216) = 74) : Is.fieldsOf v = ⟨v / 16777216, v / 1048576 % 16, 0, 0, Is.sgn20 (v % 1048576)⟩ := by
  unfold Is.fieldsOf
  dsimp only
  rw [f, if_neg (by decide), if_neg (by decide), if_neg (by decide), if_neg (by decide), if_neg (by decide), if_pos rfl]
theorem fields_C {v : Int} (f : Is.form (v / 16777216) = 67) : Is.fieldsOf v = ⟨v / 16777216, v / 1048576 % 16, 0, 0, (v % 65536)⟩ := by
  unfold Is.fieldsOf
  dsimp only
  rw [f, if_neg (by decide), if_neg (by decide), if_neg (by decide), if_neg (by decide), if_neg (by decide), if_neg (by decide), if_pos rfl]
theorem fields_N {v : Int} (f : Is.form (v / 16777216) = 78) : Is.fieldsOf v = ⟨v / 16777216, v / 1048576 % 16, 0, 0, 0⟩ := by
  unfold Is.fieldsOf
  dsimp only
  rw [f, if_neg (by decide), if_neg (by decide), if_neg (by decide), if_neg (by decide), if_neg (by decide), if_neg (by decide), if_neg (by decide)]
set_option maxRecDepth 100000 in
set_option maxHeartbeats 4000000 in
theorem rdec_0 (n v : Int) (ev : n % 4294967296 = v) (f : Is.form (v / 16777216) = 0) (w : World) : Calls Tryd.prog 23 #[.int .i64 n] w (DecPost n w) := by
  have h0 : 0 ≤ v := by omega
  have h1 : v < 4294967296 := by omega
  have way := Is.dec_way h0 h1
  rw [fields_none f] at way
  have hb1 := ((Below.refl w.heap.size w).alloc (Nat.le_refl _) (.cells #[.int .i64 0, .int .i64 0, .int .i64 0, .int .i64 0, .int .i64 0] 23))
  have DS := fun i (h : Is.decW (n % 4294967296) = some i) => decR_some h
  have DN := fun (h : Is.decW (n % 4294967296) = none) => decR_none h
  rw [ev] at DS DN
  have HDS := Lib.hid DS
  have HDN := Lib.hid DN
  clear DS DN
  have C24 : ∀ W, Calls Tryd.prog 24 #[.int .i64 n] W fun e w' => e = .returned (.int .i64 v) ∧ W = w' := by
    intro W
    have h := rW_any n W
    rw [ev] at h
    exact h
  clear ev
  obtain ⟨op, eop⟩ : ∃ op, v / 16777216 = op := ⟨_, rfl⟩
  obtain ⟨a, ea⟩ : ∃ a, v / 1048576 % 16 = a := ⟨_, rfl⟩
  obtain ⟨b, eb⟩ : ∃ b, v / 65536 % 16 = b := ⟨_, rfl⟩
  obtain ⟨c, ec⟩ : ∃ c, v / 4096 % 16 = c := ⟨_, rfl⟩
  obtain ⟨lo, elo⟩ : ∃ lo, v % 65536 = lo := ⟨_, rfl⟩
  obtain ⟨l20, e20⟩ : ∃ l20, v % 1048576 = l20 := ⟨_, rfl⟩
  have ga : bits .and .i64 (v / 1048576) 15 = a := by rw [land15, ea]
  have gb : bits .and .i64 (v / 65536) 15 = b := by rw [land15, eb]
  have gc : bits .and .i64 (v / 4096) 15 = c := by rw [land15, ec]
  have gl : bits .and .i64 v 65535 = lo := by rw [land16, elo]
  have rop1 : 0 ≤ op := by omega
  have rop2 : op < 256 := by omega
  rw [eop] at f
  rw [eop, ea] at way
  have hlo0 : 0 ≤ lo := by omega
  have hlo1 : lo < 65536 := by omega
  have h200 : 0 ≤ l20 := by omega
  have h201 : l20 < 1048576 := by omega
  have C17 : ∀ W, Calls Tryd.prog 17 #[.int .i64 op] W fun e w' => e = .returned (.tuple #[.int .u8 0, nameV op]) ∧ W = w' := by
    intro W
    have h := rform_any op W
    rw [f] at h
    exact h
  have WAY := Lib.hid way
  clear way f ea eb ec elo e20
  go_enter Tryd.func23, Tryd.ntmps23
  go_wp2_with fail
  refine (C24 _).mono ?_
  rintro e w2 ⟨rfl, rfl⟩
  go_wp2_with fail
  refine (C17 _).mono ?_
  rintro e w2 ⟨rfl, rfl⟩
  go_wp2_with fail
  refine (renc_any ⟨op, a, 0, 0, 0⟩ _).mono ?_
  rintro e w2 ⟨rfl, hb2⟩
  have hb12 := (hb1.alloc (by simp) (.cells #[.int .i64 op, .int .i64 a, .int .i64 0, .int .i64 0, .int .i64 0] 23)).trans (hb2.mono (by simp; omega))
  have hz2 := hb2.size
  simp at hz2
  have wa2 := ((Whole.made w 23 #[.int .i64 0, .int .i64 0, .int .i64 0, .int .i64 0, .int .i64 0]).alloc (.cells #[.int .i64 op, .int .i64 a, .int .i64 0, .int .i64 0, .int .i64 0] 23)).same (hb2.block _ (by simp; omega))
  have wb2 := (Whole.made (w.alloc (.cells #[.int .i64 0, .int .i64 0, .int .i64 0, .int .i64 0, .int .i64 0] 23)) 23 #[.int .i64 op, .int .i64 a, .int .i64 0, .int .i64 0, .int .i64 0]).same (hb2.block _ (by simp))
  rw [show (w.alloc (.cells #[.int .i64 0, .int .i64 0, .int .i64 0, .int .i64 0, .int .i64 0] 23)).heap.size = w.heap.size + 1 by simp] at wb2
  have c0 := wa2.cell 0
  have c1 := wa2.cell 1
  have c2 := wa2.cell 2
  have c3 := wa2.cell 3
  have c4 := wa2.cell 4
  have f0 := wa2.frozen 0
  have f1 := wa2.frozen 1
  have f2 := wa2.frozen 2
  have f3 := wa2.frozen 3
  have f4 := wa2.frozen 4
  have d0 := wb2.cell 0
  have d1 := wb2.cell 1
  have d2 := wb2.cell 2
  have d3 := wb2.cell 3
  have d4 := wb2.cell 4
  simp at c0 c1 c2 c3 c4 d0 d1 d2 d3 d4
  obtain ⟨I, hI⟩ : ∃ I : Is.Ins, ⟨op, a, 0, 0, 0⟩ = I := ⟨_, rfl⟩
  rw [hI] at WAY ⊢
  have HI := Lib.hid hI
  clear hI wa2 wb2
  obtain ⟨x, hx⟩ : ∃ x, (Is.enc I).1 = x := ⟨_, rfl⟩
  obtain ⟨y, hy⟩ : ∃ y, (Is.enc I).2 = y := ⟨_, rfl⟩
  rw [hx, hy] at WAY ⊢
  clear hx hy
  by_cases hy0 : y = 0
  rotate_left
  · have E : Hid (decR n = (⟨0, 0, 0, 0, 0⟩, 5)) := HDN.out (by rw [WAY.out, if_neg (fun h => hy0 h.1)])
    have ey : (y == 0) = false := ne_eq hy0
    have ey' : (y != 0) = true := by rw [bne_iff_ne]; exact hy0
    clear hy0
    go_wp2_with fail
    refine bodyPost_ret (v := .tuple #[insV ⟨0, 0, 0, 0, 0⟩, .int .i64 5]) (by simp [results, Tryd.results23, go_sem, insV, c0, c1, c2, c3, c4]) rfl (dec_post E.out ?_)
    exact (((((hb12.setCell (Nat.le_refl _) _).setCell (Nat.le_refl _) _).setCell (Nat.le_refl _) _).setCell (Nat.le_refl _) _).setCell (Nat.le_refl _) _)
  subst hy0
  by_cases hxv : x = v
  rotate_left
  · have E : Hid (decR n = (⟨0, 0, 0, 0, 0⟩, 5)) := HDN.out (by rw [WAY.out, if_neg (fun h => hxv h.2)])
    have ex : (x == v) = false := ne_eq hxv
    have ex' : (x != v) = true := by rw [bne_iff_ne]; exact hxv
    clear hxv
    go_wp2_with fail
    refine bodyPost_ret (v := .tuple #[insV ⟨0, 0, 0, 0, 0⟩, .int .i64 5]) (by simp [results, Tryd.results23, go_sem, insV, c0, c1, c2, c3, c4]) rfl (dec_post E.out ?_)
    exact (((((hb12.setCell (Nat.le_refl _) _).setCell (Nat.le_refl _) _).setCell (Nat.le_refl _) _).setCell (Nat.le_refl _) _).setCell (Nat.le_refl _) _)
  subst hxv
  have E : Hid (decR n = (I, 0)) := HDS.out _ (by rw [WAY.out, if_pos ⟨rfl, rfl⟩])
  go_wp2_with fail
  refine bodyPost_ret (v := .tuple #[insV ⟨op, a, 0, 0, 0⟩, .int .i64 0]) (by simp [results, Tryd.results23, go_sem, insV, c0, c1, c2, c3, c4]) rfl (dec_post (E.out.trans (by rw [HI.out])) ?_)
  exact (((((hb12.setCell (Nat.le_refl _) _).setCell (Nat.le_refl _) _).setCell (Nat.le_refl _) _).setCell (Nat.le_refl _) _).setCell (Nat.le_refl _) _)

set_option maxRecDepth 100000 in
set_option maxHeartbeats 4000000 in
theorem rdec_R (n v : Int) (ev : n % 4294967296 = v) (f : Is.form (v / 16777216) = 82) (w : World) : Calls Tryd.prog 23 #[.int .i64 n] w (DecPost n w) := by
  have h0 : 0 ≤ v := by omega
  have h1 : v < 4294967296 := by omega
  have way := Is.dec_way h0 h1
  rw [fields_R f] at way
  have hb1 := ((Below.refl w.heap.size w).alloc (Nat.le_refl _) (.cells #[.int .i64 0, .int .i64 0, .int .i64 0, .int .i64 0, .int .i64 0] 23))
  have DS := fun i (h : Is.decW (n % 4294967296) = some i) => decR_some h
  have DN := fun (h : Is.decW (n % 4294967296) = none) => decR_none h
  rw [ev] at DS DN
  have HDS := Lib.hid DS
  have HDN := Lib.hid DN
  clear DS DN
  have C24 : ∀ W, Calls Tryd.prog 24 #[.int .i64 n] W fun e w' => e = .returned (.int .i64 v) ∧ W = w' := by
    intro W
    have h := rW_any n W
    rw [ev] at h
    exact h
  clear ev
  obtain ⟨op, eop⟩ : ∃ op, v / 16777216 = op := ⟨_, rfl⟩
  obtain ⟨a, ea⟩ : ∃ a, v / 1048576 % 16 = a := ⟨_, rfl⟩
  obtain ⟨b, eb⟩ : ∃ b, v / 65536 % 16 = b := ⟨_, rfl⟩
  obtain ⟨c, ec⟩ : ∃ c, v / 4096 % 16 = c := ⟨_, rfl⟩
  obtain ⟨lo, elo⟩ : ∃ lo, v % 65536 = lo := ⟨_, rfl⟩
  obtain ⟨l20, e20⟩ : ∃ l20, v % 1048576 = l20 := ⟨_, rfl⟩
  have ga : bits .and .i64 (v / 1048576) 15 = a := by rw [land15, ea]
  have gb : bits .and .i64 (v / 65536) 15 = b := by rw [land15, eb]
  have gc : bits .and .i64 (v / 4096) 15 = c := by rw [land15, ec]
  have gl : bits .and .i64 v 65535 = lo := by rw [land16, elo]
  have rop1 : 0 ≤ op := by omega
  have rop2 : op < 256 := by omega
  rw [eop] at f
  rw [eop, ea, eb, ec] at way
  have hlo0 : 0 ≤ lo := by omega
  have hlo1 : lo < 65536 := by omega
  have h200 : 0 ≤ l20 := by omega
  have h201 : l20 < 1048576 := by omega
  have C17 : ∀ W, Calls Tryd.prog 17 #[.int .i64 op] W fun e w' => e = .returned (.tuple #[.int .u8 82, nameV op]) ∧ W = w' := by
    intro W
    have h := rform_any op W
    rw [f] at h
    exact h
  have WAY := Lib.hid way
  clear way f ea eb ec elo e20
  go_enter Tryd.func23, Tryd.ntmps23
  go_wp2_with fail
  refine (C24 _).mono ?_
  rintro e w2 ⟨rfl, rfl⟩
  go_wp2_with fail
  refine (C17 _).mono ?_
  rintro e w2 ⟨rfl, rfl⟩
  go_wp2_with fail
  refine (renc_any ⟨op, a, b, c, 0⟩ _).mono ?_
  rintro e w2 ⟨rfl, hb2⟩
  have hb12 := (hb1.alloc (by simp) (.cells #[.int .i64 op, .int .i64 a, .int .i64 b, .int .i64 c, .int .i64 0] 23)).trans (hb2.mono (by simp; omega))
  have hz2 := hb2.size
  simp at hz2
  have wa2 := ((Whole.made w 23 #[.int .i64 0, .int .i64 0, .int .i64 0, .int .i64 0, .int .i64 0]).alloc (.cells #[.int .i64 op, .int .i64 a, .int .i64 b, .int .i64 c, .int .i64 0] 23)).same (hb2.block _ (by simp; omega))
  have wb2 := (Whole.made (w.alloc (.cells #[.int .i64 0, .int .i64 0, .int .i64 0, .int .i64 0, .int .i64 0] 23)) 23 #[.int .i64 op, .int .i64 a, .int .i64 b, .int .i64 c, .int .i64 0]).same (hb2.block _ (by simp))
  rw [show (w.alloc (.cells #[.int .i64 0, .int .i64 0, .int .i64 0, .int .i64 0, .int .i64 0] 23)).heap.size = w.heap.size + 1 by simp] at wb2
  have c0 := wa2.cell 0
  have c1 := wa2.cell 1
  have c2 := wa2.cell 2
  have c3 := wa2.cell 3
  have c4 := wa2.cell 4
  have f0 := wa2.frozen 0
  have f1 := wa2.frozen 1
  have f2 := wa2.frozen 2
  have f3 := wa2.frozen 3
  have f4 := wa2.frozen 4
  have d0 := wb2.cell 0
  have d1 := wb2.cell 1
  have d2 := wb2.cell 2
  have d3 := wb2.cell 3
  have d4 := wb2.cell 4
  simp at c0 c1 c2 c3 c4 d0 d1 d2 d3 d4
  obtain ⟨I, hI⟩ : ∃ I : Is.Ins, ⟨op, a, b, c, 0⟩ = I := ⟨_, rfl⟩
  rw [hI] at WAY ⊢
  have HI := Lib.hid hI
  clear hI wa2 wb2
  obtain ⟨x, hx⟩ : ∃ x, (Is.enc I).1 = x := ⟨_, rfl⟩
  obtain ⟨y, hy⟩ : ∃ y, (Is.enc I).2 = y := ⟨_, rfl⟩
  rw [hx, hy] at WAY ⊢
  clear hx hy
  by_cases hy0 : y = 0
  rotate_left
  · have E : Hid (decR n = (⟨0, 0, 0, 0, 0⟩, 5)) := HDN.out (by rw [WAY.out, if_neg (fun h => hy0 h.1)])
    have ey : (y == 0) = false := ne_eq hy0
    have ey' : (y != 0) = true := by rw [bne_iff_ne]; exact hy0
    clear hy0
    go_wp2_with fail
    refine bodyPost_ret (v := .tuple #[insV ⟨0, 0, 0, 0, 0⟩, .int .i64 5]) (by simp [results, Tryd.results23, go_sem, insV, c0, c1, c2, c3, c4]) rfl (dec_post E.out ?_)
    exact (((((hb12.setCell (Nat.le_refl _) _).setCell (Nat.le_refl _) _).setCell (Nat.le_refl _) _).setCell (Nat.le_refl _) _).setCell (Nat.le_refl _) _)
  subst hy0
  by_cases hxv : x = v
  rotate_left
  · have E : Hid (decR n = (⟨0, 0, 0, 0, 0⟩, 5)) := HDN.out (by rw [WAY.out, if_neg (fun h => hxv h.2)])
    have ex : (x == v) = false := ne_eq hxv
    have ex' : (x != v) = true := by rw [bne_iff_ne]; exact hxv
    clear hxv
    go_wp2_with fail
    refine bodyPost_ret (v := .tuple #[insV ⟨0, 0, 0, 0, 0⟩, .int .i64 5]) (by simp [results, Tryd.results23, go_sem, insV, c0, c1, c2, c3, c4]) rfl (dec_post E.out ?_)
    exact (((((hb12.setCell (Nat.le_refl _) _).setCell (Nat.le_refl _) _).setCell (Nat.le_refl _) _).setCell (Nat.le_refl _) _).setCell (Nat.le_refl _) _)
  subst hxv
  have E : Hid (decR n = (I, 0)) := HDS.out _ (by rw [WAY.out, if_pos ⟨rfl, rfl⟩])
  go_wp2_with fail
  refine bodyPost_ret (v := .tuple #[insV ⟨op, a, b, c, 0⟩, .int .i64 0]) (by simp [results, Tryd.results23, go_sem, insV, c0, c1, c2, c3, c4]) rfl (dec_post (E.out.trans (by rw [HI.out])) ?_)
  exact (((((hb12.setCell (Nat.le_refl _) _).setCell (Nat.le_refl _) _).setCell (Nat.le_refl _) _).setCell (Nat.le_refl _) _).setCell (Nat.le_refl _) _)

set_option maxRecDepth 100000 in
set_option maxHeartbeats 4000000 in
theorem rdec_I (n v : Int) (ev : n % 4294967296 = v) (f : Is.form (v / 16777216) = 73) (w : World) : Calls Tryd.prog 23 #[.int .i64 n] w (DecPost n w) := by
  have h0 : 0 ≤ v := by omega
  have h1 : v < 4294967296 := by omega
  have way := Is.dec_way h0 h1
  rw [fields_I f] at way
  have hb1 := ((Below.refl w.heap.size w).alloc (Nat.le_refl _) (.cells #[.int .i64 0, .int .i64 0, .int .i64 0, .int .i64 0, .int .i64 0] 23))
  have DS := fun i (h : Is.decW (n % 4294967296) = some i) => decR_some h
  have DN := fun (h : Is.decW (n % 4294967296) = none) => decR_none h
  rw [ev] at DS DN
  have HDS := Lib.hid DS
  have HDN := Lib.hid DN
  clear DS DN
  have C24 : ∀ W, Calls Tryd.prog 24 #[.int .i64 n] W fun e w' => e = .returned (.int .i64 v) ∧ W = w' := by
    intro W
    have h := rW_any n W
    rw [ev] at h
    exact h
  clear ev
  obtain ⟨op, eop⟩ : ∃ op, v / 16777216 = op := ⟨_, rfl⟩
  obtain ⟨a, ea⟩ : ∃ a, v / 1048576 % 16 = a := ⟨_, rfl⟩
  obtain ⟨b, eb⟩ : ∃ b, v / 65536 % 16 = b := ⟨_, rfl⟩
  obtain ⟨c, ec⟩ : ∃ c, v / 4096 % 16 = c := ⟨_, rfl⟩
  obtain ⟨lo, elo⟩ : ∃ lo, v % 65536 = lo := ⟨_, rfl⟩
  obtain ⟨l20, e20⟩ : ∃ l20, v % 1048576 = l20 := ⟨_, rfl⟩
  have ga : bits .and .i64 (v / 1048576) 15 = a := by rw [land15, ea]
  have gb : bits .and .i64 (v / 65536) 15 = b := by rw [land15, eb]
  have gc : bits .and .i64 (v / 4096) 15 = c := by rw [land15, ec]
  have gl : bits .and .i64 v 65535 = lo := by rw [land16, elo]
  have rop1 : 0 ≤ op := by omega
  have rop2 : op < 256 := by omega
  rw [eop] at f
  rw [eop, ea, eb, elo] at way
  have hlo0 : 0 ≤ lo := by omega
  have hlo1 : lo < 65536 := by omega
  have h200 : 0 ≤ l20 := by omega
  have h201 : l20 < 1048576 := by omega
  have C33 : ∀ W, Calls Tryd.prog 33 #[.int .i64 v, .int .i64 16] W fun e w' => e = .returned (.int .i64 (Is.sgn16 lo % 4294967296)) ∧ W = w' := by
    intro W
    have h := rext16 v h0 h1 W
    rw [elo] at h
    exact h
  have C17 : ∀ W, Calls Tryd.prog 17 #[.int .i64 op] W fun e w' => e = .returned (.tuple #[.int .u8 73, nameV op]) ∧ W = w' := by
    intro W
    have h := rform_any op W
    rw [f] at h
    exact h
  have WAY := Lib.hid way
  clear way f ea eb ec elo e20
  go_enter Tryd.func23, Tryd.ntmps23
  go_wp2_with fail
  refine (C24 _).mono ?_
  rintro e w2 ⟨rfl, rfl⟩
  go_wp2_with fail
  refine (C17 _).mono ?_
  rintro e w2 ⟨rfl, rfl⟩
  go_wp2_with fail
  refine (C33 _).mono ?_
  rintro e w2 ⟨rfl, rfl⟩
  go_wp2_with fail
  refine (rsigned_any _ (by omega) (by omega) _).mono ?_
  rintro e w2 ⟨rfl, rfl⟩
  rw [sgn_back16 lo hlo0 hlo1]
  go_wp2_with fail
  refine (renc_any ⟨op, a, b, 0, Is.sgn16 lo⟩ _).mono ?_
  rintro e w2 ⟨rfl, hb2⟩
  have hb12 := (hb1.alloc (by simp) (.cells #[.int .i64 op, .int .i64 a, .int .i64 b, .int .i64 0, .int .i64 (Is.sgn16 lo)] 23)).trans (hb2.mono (by simp; omega))
  have hz2 := hb2.size
  simp at hz2
  have wa2 := ((Whole.made w 23 #[.int .i64 0, .int .i64 0, .int .i64 0, .int .i64 0, .int .i64 0]).alloc (.cells #[.int .i64 op, .int .i64 a, .int .i64 b, .int .i64 0, .int .i64 (Is.sgn16 lo)] 23)).same (hb2.block _ (by simp; omega))
  have wb2 := (Whole.made (w.alloc (.cells #[.int .i64 0, .int .i64 0, .int .i64 0, .int .i64 0, .int .i64 0] 23)) 23 #[.int .i64 op, .int .i64 a, .int .i64 b, .int .i64 0, .int .i64 (Is.sgn16 lo)]).same (hb2.block _ (by simp))
  rw [show (w.alloc (.cells #[.int .i64 0, .int .i64 0, .int .i64 0, .int .i64 0, .int .i64 0] 23)).heap.size = w.heap.size + 1 by simp] at wb2
  have c0 := wa2.cell 0
  have c1 := wa2.cell 1
  have c2 := wa2.cell 2
  have c3 := wa2.cell 3
  have c4 := wa2.cell 4
  have f0 := wa2.frozen 0
  have f1 := wa2.frozen 1
  have f2 := wa2.frozen 2
  have f3 := wa2.frozen 3
  have f4 := wa2.frozen 4
  have d0 := wb2.cell 0
  have d1 := wb2.cell 1
  have d2 := wb2.cell 2
  have d3 := wb2.cell 3
  have d4 := wb2.cell 4
  simp at c0 c1 c2 c3 c4 d0 d1 d2 d3 d4
  obtain ⟨I, hI⟩ : ∃ I : Is.Ins, ⟨op, a, b, 0, Is.sgn16 lo⟩ = I := ⟨_, rfl⟩
  rw [hI] at WAY ⊢
  have HI := Lib.hid hI
  clear hI wa2 wb2
  obtain ⟨x, hx⟩ : ∃ x, (Is.enc I).1 = x := ⟨_, rfl⟩
  obtain ⟨y, hy⟩ : ∃ y, (Is.enc I).2 = y := ⟨_, rfl⟩
  rw [hx, hy] at WAY ⊢
  clear hx hy
  by_cases hy0 : y = 0
  rotate_left
  · have E : Hid (decR n = (⟨0, 0, 0, 0, 0⟩, 5)) := HDN.out (by rw [WAY.out, if_neg (fun h => hy0 h.1)])
    have ey : (y == 0) = false := ne_eq hy0
    have ey' : (y != 0) = true := by rw [bne_iff_ne]; exact hy0
    clear hy0
    go_wp2_with fail
    refine bodyPost_ret (v := .tuple #[insV ⟨0, 0, 0, 0, 0⟩, .int .i64 5]) (by simp [results, Tryd.results23, go_sem, insV, c0, c1, c2, c3, c4]) rfl (dec_post E.out ?_)
    exact (((((hb12.setCell (Nat.le_refl _) _).setCell (Nat.le_refl _) _).setCell (Nat.le_refl _) _).setCell (Nat.le_refl _) _).setCell (Nat.le_refl _) _)
  subst hy0
  by_cases hxv : x = v
  rotate_left
  · have E : Hid (decR n = (⟨0, 0, 0, 0, 0⟩, 5)) := HDN.out (by rw [WAY.out, if_neg (fun h => hxv h.2)])
    have ex : (x == v) = false := ne_eq hxv
    have ex' : (x != v) = true := by rw [bne_iff_ne]; exact hxv
    clear hxv
    go_wp2_with fail
    refine bodyPost_ret (v := .tuple #[insV ⟨0, 0, 0, 0, 0⟩, .int .i64 5]) (by simp [results, Tryd.results23, go_sem, insV, c0, c1, c2, c3, c4]) rfl (dec_post E.out ?_)
    exact (((((hb12.setCell (Nat.le_refl _) _).setCell (Nat.le_refl _) _).setCell (Nat.le_refl _) _).setCell (Nat.le_refl _) _).setCell (Nat.le_refl _) _)
  subst hxv
  have E : Hid (decR n = (I, 0)) := HDS.out _ (by rw [WAY.out, if_pos ⟨rfl, rfl⟩])
  go_wp2_with fail
  refine bodyPost_ret (v := .tuple #[insV ⟨op, a, b, 0, Is.sgn16 lo⟩, .int .i64 0]) (by simp [results, Tryd.results23, go_sem, insV, c0, c1, c2, c3, c4]) rfl (dec_post (E.out.trans (by rw [HI.out])) ?_)
  exact (((((hb12.setCell (Nat.le_refl _) _).setCell (Nat.le_refl _) _).setCell (Nat.le_refl _) _).setCell (Nat.le_refl _) _).setCell (Nat.le_refl _) _)

set_option maxRecDepth 100000 in
set_option maxHeartbeats 4000000 in
theorem rdec_U (n v : Int) (ev : n % 4294967296 = v) (f : Is.form (v / 16777216) = 85) (w : World) : Calls Tryd.prog 23 #[.int .i64 n] w (DecPost n w) := by
  have h0 : 0 ≤ v := by omega
  have h1 : v < 4294967296 := by omega
  have way := Is.dec_way h0 h1
  rw [fields_U f] at way
  have hb1 := ((Below.refl w.heap.size w).alloc (Nat.le_refl _) (.cells #[.int .i64 0, .int .i64 0, .int .i64 0, .int .i64 0, .int .i64 0] 23))
  have DS := fun i (h : Is.decW (n % 4294967296) = some i) => decR_some h
  have DN := fun (h : Is.decW (n % 4294967296) = none) => decR_none h
  rw [ev] at DS DN
  have HDS := Lib.hid DS
  have HDN := Lib.hid DN
  clear DS DN
  have C24 : ∀ W, Calls Tryd.prog 24 #[.int .i64 n] W fun e w' => e = .returned (.int .i64 v) ∧ W = w' := by
    intro W
    have h := rW_any n W
    rw [ev] at h
    exact h
  clear ev
  obtain ⟨op, eop⟩ : ∃ op, v / 16777216 = op := ⟨_, rfl⟩
  obtain ⟨a, ea⟩ : ∃ a, v / 1048576 % 16 = a := ⟨_, rfl⟩
  obtain ⟨b, eb⟩ : ∃ b, v / 65536 % 16 = b := ⟨_, rfl⟩
  obtain ⟨c, ec⟩ : ∃ c, v / 4096 % 16 = c := ⟨_, rfl⟩
  obtain ⟨lo, elo⟩ : ∃ lo, v % 65536 = lo := ⟨_, rfl⟩
  obtain ⟨l20, e20⟩ : ∃ l20, v % 1048576 = l20 := ⟨_, rfl⟩
  have ga : bits .and .i64 (v / 1048576) 15 = a := by rw [land15, ea]
  have gb : bits .and .i64 (v / 65536) 15 = b := by rw [land15, eb]
  have gc : bits .and .i64 (v / 4096) 15 = c := by rw [land15, ec]
  have gl : bits .and .i64 v 65535 = lo := by rw [land16, elo]
  have rop1 : 0 ≤ op := by omega
  have rop2 : op < 256 := by omega
  rw [eop] at f
  rw [eop, ea, eb, elo] at way
  have hlo0 : 0 ≤ lo := by omega
  have hlo1 : lo < 65536 := by omega
  have h200 : 0 ≤ l20 := by omega
  have h201 : l20 < 1048576 := by omega
  have C17 : ∀ W, Calls Tryd.prog 17 #[.int .i64 op] W fun e w' => e = .returned (.tuple #[.int .u8 85, nameV op]) ∧ W = w' := by
    intro W
    have h := rform_any op W
    rw [f] at h
    exact h
  have WAY := Lib.hid way
  clear way f ea eb ec elo e20
  go_enter Tryd.func23, Tryd.ntmps23
  go_wp2_with fail
  refine (C24 _).mono ?_
  rintro e w2 ⟨rfl, rfl⟩
  go_wp2_with fail
  refine (C17 _).mono ?_
  rintro e w2 ⟨rfl, rfl⟩
  go_wp2_with fail
  refine (renc_any ⟨op, a, b, 0, lo⟩ _).mono ?_
  rintro e w2 ⟨rfl, hb2⟩
  have hb12 := (hb1.alloc (by simp) (.cells #[.int .i64 op, .int .i64 a, .int .i64 b, .int .i64 0, .int .i64 lo] 23)).trans (hb2.mono (by simp; omega))
  have hz2 := hb2.size
  simp at hz2
  have wa2 := ((Whole.made w 23 #[.int .i64 0, .int .i64 0, .int .i64 0, .int .i64 0, .int .i64 0]).alloc (.cells #[.int .i64 op, .int .i64 a, .int .i64 b, .int .i64 0, .int .i64 lo] 23)).same (hb2.block _ (by simp; omega))
  have wb2 := (Whole.made (w.alloc (.cells #[.int .i64 0, .int .i64 0, .int .i64 0, .int .i64 0, .int .i64 0] 23)) 23 #[.int .i64 op, .int .i64 a, .int .i64 b, .int .i64 0, .int .i64 lo]).same (hb2.block _ (by simp))
  rw [show (w.alloc (.cells #[.int .i64 0, .int .i64 0, .int .i64 0, .int .i64 0, .int .i64 0] 23)).heap.size = w.heap.size + 1 by simp] at wb2
  have c0 := wa2.cell 0
  have c1 := wa2.cell 1
  have c2 := wa2.cell 2
  have c3 := wa2.cell 3
  have c4 := wa2.cell 4
  have f0 := wa2.frozen 0
  have f1 := wa2.frozen 1
  have f2 := wa2.frozen 2
  have f3 := wa2.frozen 3
  have f4 := wa2.frozen 4
  have d0 := wb2.cell 0
  have d1 := wb2.cell 1
  have d2 := wb2.cell 2
  have d3 := wb2.cell 3
  have d4 := wb2.cell 4
  simp at c0 c1 c2 c3 c4 d0 d1 d2 d3 d4
  obtain ⟨I, hI⟩ : ∃ I : Is.Ins, ⟨op, a, b, 0, lo⟩ = I := ⟨_, rfl⟩
  rw [hI] at WAY ⊢
  have HI := Lib.hid hI
  clear hI wa2 wb2
  obtain ⟨x, hx⟩ : ∃ x, (Is.enc I).1 = x := ⟨_, rfl⟩
  obtain ⟨y, hy⟩ : ∃ y, (Is.enc I).2 = y := ⟨_, rfl⟩
  rw [hx, hy] at WAY ⊢
  clear hx hy
  by_cases hy0 : y = 0
  rotate_left
  · have E : Hid (decR n = (⟨0, 0, 0, 0, 0⟩, 5)) := HDN.out (by rw [WAY.out, if_neg (fun h => hy0 h.1)])
    have ey : (y == 0) = false := ne_eq hy0
    have ey' : (y != 0) = true := by rw [bne_iff_ne]; exact hy0
    clear hy0
    go_wp2_with fail
    refine bodyPost_ret (v := .tuple #[insV ⟨0, 0, 0, 0, 0⟩, .int .i64 5]) (by simp [results, Tryd.results23, go_sem, insV, c0, c1, c2, c3, c4]) rfl (dec_post E.out ?_)
    exact (((((hb12.setCell (Nat.le_refl _) _).setCell (Nat.le_refl _) _).setCell (Nat.le_refl _) _).setCell (Nat.le_refl _) _).setCell (Nat.le_refl _) _)
  subst hy0
  by_cases hxv : x = v
  rotate_left
  · have E : Hid (decR n = (⟨0, 0, 0, 0, 0⟩, 5)) := HDN.out (by rw [WAY.out, if_neg (fun h => hxv h.2)])
    have ex : (x == v) = false := ne_eq hxv
    have ex' : (x != v) = true := by rw [bne_iff_ne]; exact hxv
    clear hxv
    go_wp2_with fail
    refine bodyPost_ret (v := .tuple #[insV ⟨0, 0, 0, 0, 0⟩, .int .i64 5]) (by simp [results, Tryd.results23, go_sem, insV, c0, c1, c2, c3, c4]) rfl (dec_post E.out ?_)
    exact (((((hb12.setCell (Nat.le_refl _) _).setCell (Nat.le_refl _) _).setCell (Nat.le_refl _) _).setCell (Nat.le_refl _) _).setCell (Nat.le_refl _) _)
  subst hxv
  have E : Hid (decR n = (I, 0)) := HDS.out _ (by rw [WAY.out, if_pos ⟨rfl, rfl⟩])
  go_wp2_with fail
  refine bodyPost_ret (v := .tuple #[insV ⟨op, a, b, 0, lo⟩, .int .i64 0]) (by simp [results, Tryd.results23, go_sem, insV, c0, c1, c2, c3, c4]) rfl (dec_post (E.out.trans (by rw [HI.out])) ?_)
  exact (((((hb12.setCell (Nat.le_refl _) _).setCell (Nat.le_refl _) _).setCell (Nat.le_refl _) _).setCell (Nat.le_refl _) _).setCell (Nat.le_refl _) _)

set_option maxRecDepth 100000 in
set_option maxHeartbeats 4000000 in
theorem rdec_H (n v : Int) (ev : n % 4294967296 = v) (f : Is.form (v / 16777216) = 72) (w : World) : Calls Tryd.prog 23 #[.int .i64 n] w (DecPost n w) := by
  have h0 : 0 ≤ v := by omega
  have h1 : v < 4294967296 := by omega
  have way := Is.dec_way h0 h1
  rw [fields_H f] at way
  have hb1 := ((Below.refl w.heap.size w).alloc (Nat.le_refl _) (.cells #[.int .i64 0, .int .i64 0, .int .i64 0, .int .i64 0, .int .i64 0] 23))
  have DS := fun i (h : Is.decW (n % 4294967296) = some i) => decR_some h
  have DN := fun (h : Is.decW (n % 4294967296) = none) => decR_none h
  rw [ev] at DS DN
  have HDS := Lib.hid DS
  have HDN := Lib.hid DN
  clear DS DN
  have C24 : ∀ W, Calls Tryd.prog 24 #[.int .i64 n] W fun e w' => e = .returned (.int .i64 v) ∧ W = w' := by
    intro W
    have h := rW_any n W
    rw [ev] at h
    exact h
  clear ev
  obtain ⟨op, eop⟩ : ∃ op, v / 16777216 = op := ⟨_, rfl⟩
  obtain ⟨a, ea⟩ : ∃ a, v / 1048576 % 16 = a := ⟨_, rfl⟩
  obtain ⟨b, eb⟩ : ∃ b, v / 65536 % 16 = b := ⟨_, rfl⟩
  obtain ⟨c, ec⟩ : ∃ c, v / 4096 % 16 = c := ⟨_, rfl⟩
  obtain ⟨lo, elo⟩ : ∃ lo, v % 65536 = lo := ⟨_, rfl⟩
  obtain ⟨l20, e20⟩ : ∃ l20, v % 1048576 = l20 := ⟨_, rfl⟩
  have ga : bits .and .i64 (v / 1048576) 15 = a := by rw [land15, ea]
  have gb : bits .and .i64 (v / 65536) 15 = b := by rw [land15, eb]
  have gc : bits .and .i64 (v / 4096) 15 = c := by rw [land15, ec]
  have gl : bits .and .i64 v 65535 = lo := by rw [land16, elo]
  have rop1 : 0 ≤ op := by omega
  have rop2 : op < 256 := by omega
  rw [eop] at f
  rw [eop, ea, eb, elo] at way
  have hlo0 : 0 ≤ lo := by omega
  have hlo1 : lo < 65536 := by omega
  have h200 : 0 ≤ l20 := by omega
  have h201 : l20 < 1048576 := by omega
  have C17 : ∀ W, Calls Tryd.prog 17 #[.int .i64 op] W fun e w' => e = .returned (.tuple #[.int .u8 72, nameV op]) ∧ W = w' := by
    intro W
    have h := rform_any op W
    rw [f] at h
    exact h
  have WAY := Lib.hid way
  clear way f ea eb ec elo e20
  go_enter Tryd.func23, Tryd.ntmps23
  go_wp2_with fail
  refine (C24 _).mono ?_
  rintro e w2 ⟨rfl, rfl⟩
  go_wp2_with fail
  refine (C17 _).mono ?_
  rintro e w2 ⟨rfl, rfl⟩
  go_wp2_with fail
  refine (renc_any ⟨op, a, b, 0, lo⟩ _).mono ?_
  rintro e w2 ⟨rfl, hb2⟩
  have hb12 := (hb1.alloc (by simp) (.cells #[.int .i64 op, .int .i64 a, .int .i64 b, .int .i64 0, .int .i64 lo] 23)).trans (hb2.mono (by simp; omega))
  have hz2 := hb2.size
  simp at hz2
  have wa2 := ((Whole.made w 23 #[.int .i64 0, .int .i64 0, .int .i64 0, .int .i64 0, .int .i64 0]).alloc (.cells #[.int .i64 op, .int .i64 a, .int .i64 b, .int .i64 0, .int .i64 lo] 23)).same (hb2.block _ (by simp; omega))
  have wb2 := (Whole.made (w.alloc (.cells #[.int .i64 0, .int .i64 0, .int .i64 0, .int .i64 0, .int .i64 0] 23)) 23 #[.int .i64 op, .int .i64 a, .int .i64 b, .int .i64 0, .int .i64 lo]).same (hb2.block _ (by simp))
  rw [show (w.alloc (.cells #[.int .i64 0, .int .i64 0, .int .i64 0, .int .i64 0, .int .i64 0] 23)).heap.size = w.heap.size + 1 by simp] at wb2
  have c0 := wa2.cell 0
  have c1 := wa2.cell 1
  have c2 := wa2.cell 2
  have c3 := wa2.cell 3
  have c4 := wa2.cell 4
  have f0 := wa2.frozen 0
  have f1 := wa2.frozen 1
  have f2 := wa2.frozen 2
  have f3 := wa2.frozen 3
  have f4 := wa2.frozen 4
  have d0 := wb2.cell 0
  have d1 := wb2.cell 1
  have d2 := wb2.cell 2
  have d3 := wb2.cell 3
  have d4 := wb2.cell 4
  simp at c0 c1 c2 c3 c4 d0 d1 d2 d3 d4
  obtain ⟨I, hI⟩ : ∃ I : Is.Ins, ⟨op, a, b, 0, lo⟩ = I := ⟨_, rfl⟩
  rw [hI] at WAY ⊢
  have HI := Lib.hid hI
  clear hI wa2 wb2
  obtain ⟨x, hx⟩ : ∃ x, (Is.enc I).1 = x := ⟨_, rfl⟩
  obtain ⟨y, hy⟩ : ∃ y, (Is.enc I).2 = y := ⟨_, rfl⟩
  rw [hx, hy] at WAY ⊢
  clear hx hy
  by_cases hy0 : y = 0
  rotate_left
  · have E : Hid (decR n = (⟨0, 0, 0, 0, 0⟩, 5)) := HDN.out (by rw [WAY.out, if_neg (fun h => hy0 h.1)])
    have ey : (y == 0) = false := ne_eq hy0
    have ey' : (y != 0) = true := by rw [bne_iff_ne]; exact hy0
    clear hy0
    go_wp2_with fail
    refine bodyPost_ret (v := .tuple #[insV ⟨0, 0, 0, 0, 0⟩, .int .i64 5]) (by simp [results, Tryd.results23, go_sem, insV, c0, c1, c2, c3, c4]) rfl (dec_post E.out ?_)
    exact (((((hb12.setCell (Nat.le_refl _) _).setCell (Nat.le_refl _) _).setCell (Nat.le_refl _) _).setCell (Nat.le_refl _) _).setCell (Nat.le_refl _) _)
  subst hy0
  by_cases hxv : x = v
  rotate_left
  · have E : Hid (decR n = (⟨0, 0, 0, 0, 0⟩, 5)) := HDN.out (by rw [WAY.out, if_neg (fun h => hxv h.2)])
    have ex : (x == v) = false := ne_eq hxv
    have ex' : (x != v) = true := by rw [bne_iff_ne]; exact hxv
    clear hxv
    go_wp2_with fail
    refine bodyPost_ret (v := .tuple #[insV ⟨0, 0, 0, 0, 0⟩, .int .i64 5]) (by simp [results, Tryd.results23, go_sem, insV, c0, c1, c2, c3, c4]) rfl (dec_post E.out ?_)
    exact (((((hb12.setCell (Nat.le_refl _) _).setCell (Nat.le_refl _) _).setCell (Nat.le_refl _) _).setCell (Nat.le_refl _) _).setCell (Nat.le_refl _) _)
  subst hxv
  have E : Hid (decR n = (I, 0)) := HDS.out _ (by rw [WAY.out, if_pos ⟨rfl, rfl⟩])
  go_wp2_with fail
  refine bodyPost_ret (v := .tuple #[insV ⟨op, a, b, 0, lo⟩, .int .i64 0]) (by simp [results, Tryd.results23, go_sem, insV, c0, c1, c2, c3, c4]) rfl (dec_post (E.out.trans (by rw [HI.out])) ?_)
  exact (((((hb12.setCell (Nat.le_refl _) _).setCell (Nat.le_refl _) _).setCell (Nat.le_refl _) _).setCell (Nat.le_refl _) _).setCell (Nat.le_refl _) _)

set_option maxRecDepth 100000 in
set_option maxHeartbeats 4000000 in
theorem rdec_L (n v : Int) (ev : n % 4294967296 = v) (f : Is.form (v / 16777216) = 76) (w : World) : Calls Tryd.prog 23 #[.int .i64 n] w (DecPost n w) := by
  have h0 : 0 ≤ v := by omega
  have h1 : v < 4294967296 := by omega
  have way := Is.dec_way h0 h1
  rw [fields_L f] at way
  have hb1 := ((Below.refl w.heap.size w).alloc (Nat.le_refl _) (.cells #[.int .i64 0, .int .i64 0, .int .i64 0, .int .i64 0, .int .i64 0] 23))
  have DS := fun i (h : Is.decW (n % 4294967296) = some i) => decR_some h
  have DN := fun (h : Is.decW (n % 4294967296) = none) => decR_none h
  rw [ev] at DS DN
  have HDS := Lib.hid DS
  have HDN := Lib.hid DN
  clear DS DN
  have C24 : ∀ W, Calls Tryd.prog 24 #[.int .i64 n] W fun e w' => e = .returned (.int .i64 v) ∧ W = w' := by
    intro W
    have h := rW_any n W
    rw [ev] at h
    exact h
  clear ev
  obtain ⟨op, eop⟩ : ∃ op, v / 16777216 = op := ⟨_, rfl⟩
  obtain ⟨a, ea⟩ : ∃ a, v / 1048576 % 16 = a := ⟨_, rfl⟩
  obtain ⟨b, eb⟩ : ∃ b, v / 65536 % 16 = b := ⟨_, rfl⟩
  obtain ⟨c, ec⟩ : ∃ c, v / 4096 % 16 = c := ⟨_, rfl⟩
  obtain ⟨lo, elo⟩ : ∃ lo, v % 65536 = lo := ⟨_, rfl⟩
  obtain ⟨l20, e20⟩ : ∃ l20, v % 1048576 = l20 := ⟨_, rfl⟩
  have ga : bits .and .i64 (v / 1048576) 15 = a := by rw [land15, ea]
  have gb : bits .and .i64 (v / 65536) 15 = b := by rw [land15, eb]
  have gc : bits .and .i64 (v / 4096) 15 = c := by rw [land15, ec]
  have gl : bits .and .i64 v 65535 = lo := by rw [land16, elo]
  have rop1 : 0 ≤ op := by omega
  have rop2 : op < 256 := by omega
  rw [eop] at f
  rw [eop, ea, elo] at way
  have hlo0 : 0 ≤ lo := by omega
  have hlo1 : lo < 65536 := by omega
  have h200 : 0 ≤ l20 := by omega
  have h201 : l20 < 1048576 := by omega
  have C17 : ∀ W, Calls Tryd.prog 17 #[.int .i64 op] W fun e w' => e = .returned (.tuple #[.int .u8 76, nameV op]) ∧ W = w' := by
    intro W
    have h := rform_any op W
    rw [f] at h
    exact h
  have WAY := Lib.hid way
  clear way f ea eb ec elo e20
  go_enter Tryd.func23, Tryd.ntmps23
  go_wp2_with fail
  refine (C24 _).mono ?_
  rintro e w2 ⟨rfl, rfl⟩
  go_wp2_with fail
  refine (C17 _).mono ?_
  rintro e w2 ⟨rfl, rfl⟩
  go_wp2_with fail
  refine (renc_any ⟨op, a, 0, 0, lo⟩ _).mono ?_
  rintro e w2 ⟨rfl, hb2⟩
  have hb12 := (hb1.alloc (by simp) (.cells #[.int .i64 op, .int .i64 a, .int .i64 0, .int .i64 0, .int .i64 lo] 23)).trans (hb2.mono (by simp; omega))
  have hz2 := hb2.size
  simp at hz2
  have wa2 := ((Whole.made w 23 #[.int .i64 0, .int .i64 0, .int .i64 0, .int .i64 0, .int .i64 0]).alloc (.cells #[.int .i64 op, .int .i64 a, .int .i64 0, .int .i64 0, .int .i64 lo] 23)).same (hb2.block _ (by simp; omega))
  have wb2 := (Whole.made (w.alloc (.cells #[.int .i64 0, .int .i64 0, .int .i64 0, .int .i64 0, .int .i64 0] 23)) 23 #[.int .i64 op, .int .i64 a, .int .i64 0, .int .i64 0, .int .i64 lo]).same (hb2.block _ (by simp))
  rw [show (w.alloc (.cells #[.int .i64 0, .int .i64 0, .int .i64 0, .int .i64 0, .int .i64 0] 23)).heap.size = w.heap.size + 1 by simp] at wb2
  have c0 := wa2.cell 0
  have c1 := wa2.cell 1
  have c2 := wa2.cell 2
  have c3 := wa2.cell 3
  have c4 := wa2.cell 4
  have f0 := wa2.frozen 0
  have f1 := wa2.frozen 1
  have f2 := wa2.frozen 2
  have f3 := wa2.frozen 3
  have f4 := wa2.frozen 4
  have d0 := wb2.cell 0
  have d1 := wb2.cell 1
  have d2 := wb2.cell 2
  have d3 := wb2.cell 3
  have d4 := wb2.cell 4
  simp at c0 c1 c2 c3 c4 d0 d1 d2 d3 d4
  obtain ⟨I, hI⟩ : ∃ I : Is.Ins, ⟨op, a, 0, 0, lo⟩ = I := ⟨_, rfl⟩
  rw [hI] at WAY ⊢
  have HI := Lib.hid hI
  clear hI wa2 wb2
  obtain ⟨x, hx⟩ : ∃ x, (Is.enc I).1 = x := ⟨_, rfl⟩
  obtain ⟨y, hy⟩ : ∃ y, (Is.enc I).2 = y := ⟨_, rfl⟩
  rw [hx, hy] at WAY ⊢
  clear hx hy
  by_cases hy0 : y = 0
  rotate_left
  · have E : Hid (decR n = (⟨0, 0, 0, 0, 0⟩, 5)) := HDN.out (by rw [WAY.out, if_neg (fun h => hy0 h.1)])
    have ey : (y == 0) = false := ne_eq hy0
    have ey' : (y != 0) = true := by rw [bne_iff_ne]; exact hy0
    clear hy0
    go_wp2_with fail
    refine bodyPost_ret (v := .tuple #[insV ⟨0, 0, 0, 0, 0⟩, .int .i64 5]) (by simp [results, Tryd.results23, go_sem, insV, c0, c1, c2, c3, c4]) rfl (dec_post E.out ?_)
    exact (((((hb12.setCell (Nat.le_refl _) _).setCell (Nat.le_refl _) _).setCell (Nat.le_refl _) _).setCell (Nat.le_refl _) _).setCell (Nat.le_refl _) _)
  subst hy0
  by_cases hxv : x = v
  rotate_left
  · have E : Hid (decR n = (⟨0, 0, 0, 0, 0⟩, 5)) := HDN.out (by rw [WAY.out, if_neg (fun h => hxv h.2)])
    have ex : (x == v) = false := ne_eq hxv
    have ex' : (x != v) = true := by rw [bne_iff_ne]; exact hxv
    clear hxv
    go_wp2_with fail
    refine bodyPost_ret (v := .tuple #[insV ⟨0, 0, 0, 0, 0⟩, .int .i64 5]) (by simp [results, Tryd.results23, go_sem, insV, c0, c1, c2, c3, c4]) rfl (dec_post E.out ?_)
    exact (((((hb12.setCell (Nat.le_refl _) _).setCell (Nat.le_refl _) _).setCell (Nat.le_refl _) _).setCell (Nat.le_refl _) _).setCell (Nat.le_refl _) _)
  subst hxv
  have E : Hid (decR n = (I, 0)) := HDS.out _ (by rw [WAY.out, if_pos ⟨rfl, rfl⟩])
  go_wp2_with fail
  refine bodyPost_ret (v := .tuple #[insV ⟨op, a, 0, 0, lo⟩, .int .i64 0]) (by simp [results, Tryd.results23, go_sem, insV, c0, c1, c2, c3, c4]) rfl (dec_post (E.out.trans (by rw [HI.out])) ?_)
  exact (((((hb12.setCell (Nat.le_refl _) _).setCell (Nat.le_refl _) _).setCell (Nat.le_refl _) _).setCell (Nat.le_refl _) _).setCell (Nat.le_refl _) _)

set_option maxRecDepth 100000 in
set_option maxHeartbeats 4000000 in
theorem rdec_J (n v : Int) (ev : n % 4294967296 = v) (f : Is.form (v / 16777216) = 74) (w : World) : Calls Tryd.prog 23 #[.int .i64 n] w (DecPost n w) := by
  have h0 : 0 ≤ v := by omega
  have h1 : v < 4294967296 := by omega
  have way := Is.dec_way h0 h1
  rw [fields_J f] at way
  have hb1 := ((Below.refl w.heap.size w).alloc (Nat.le_refl _) (.cells #[.int .i64 0, .int .i64 0, .int .i64 0, .int .i64 0, .int .i64 0] 23))
  have DS := fun i (h : Is.decW (n % 4294967296) = some i) => decR_some h
  have DN := fun (h : Is.decW (n % 4294967296) = none) => decR_none h
  rw [ev] at DS DN
  have HDS := Lib.hid DS
  have HDN := Lib.hid DN
  clear DS DN
  have C24 : ∀ W, Calls Tryd.prog 24 #[.int .i64 n] W fun e w' => e = .returned (.int .i64 v) ∧ W = w' := by
    intro W
    have h := rW_any n W
    rw [ev] at h
    exact h
  clear ev
  obtain ⟨op, eop⟩ : ∃ op, v / 16777216 = op := ⟨_, rfl⟩
  obtain ⟨a, ea⟩ : ∃ a, v / 1048576 % 16 = a := ⟨_, rfl⟩
  obtain ⟨b, eb⟩ : ∃ b, v / 65536 % 16 = b := ⟨_, rfl⟩
  obtain ⟨c, ec⟩ : ∃ c, v / 4096 % 16 = c := ⟨_, rfl⟩
  obtain ⟨lo, elo⟩ : ∃ lo, v % 65536 = lo := ⟨_, rfl⟩
  obtain ⟨l20, e20⟩ : ∃ l20, v % 1048576 = l20 := ⟨_, rfl⟩
  have ga : bits .and .i64 (v / 1048576) 15 = a := by rw [land15, ea]
  have gb : bits .and .i64 (v / 65536) 15 = b := by rw [land15, eb]
  have gc : bits .and .i64 (v / 4096) 15 = c := by rw [land15, ec]
  have gl : bits .and .i64 v 65535 = lo := by rw [land16, elo]
  have rop1 : 0 ≤ op := by omega
  have rop2 : op < 256 := by omega
  rw [eop] at f
  rw [eop, ea, e20] at way
  have hlo0 : 0 ≤ lo := by omega
  have hlo1 : lo < 65536 := by omega
  have h200 : 0 ≤ l20 := by omega
  have h201 : l20 < 1048576 := by omega
  have C33 : ∀ W, Calls Tryd.prog 33 #[.int .i64 v, .int .i64 20] W fun e w' => e = .returned (.int .i64 (Is.sgn20 l20 % 4294967296)) ∧ W = w' := by
    intro W
    have h := rext20 v h0 h1 W
    rw [e20] at h
    exact h
  have C17 : ∀ W, Calls Tryd.prog 17 #[.int .i64 op] W fun e w' => e = .returned (.tuple #[.int .u8 74, nameV op]) ∧ W = w' := by
    intro W
    have h := rform_any op W
    rw [f] at h
    exact h
  have WAY := Lib.hid way
  clear way f ea eb ec elo e20
  go_enter Tryd.func23, Tryd.ntmps23
  go_wp2_with fail
  refine (C24 _).mono ?_
  rintro e w2 ⟨rfl, rfl⟩
  go_wp2_with fail
  refine (C17 _).mono ?_
  rintro e w2 ⟨rfl, rfl⟩
  go_wp2_with fail
  refine (C33 _).mono ?_
  rintro e w2 ⟨rfl, rfl⟩
  go_wp2_with fail
  refine (rsigned_any _ (by omega) (by omega) _).mono ?_
  rintro e w2 ⟨rfl, rfl⟩
  rw [sgn_back l20 h200 h201]
  go_wp2_with fail
  refine (renc_any ⟨op, a, 0, 0, Is.sgn20 l20⟩ _).mono ?_
  rintro e w2 ⟨rfl, hb2⟩
  have hb12 := (hb1.alloc (by simp) (.cells #[.int .i64 op, .int .i64 a, .int .i64 0, .int .i64 0, .int .i64 (Is.sgn20 l20)] 23)).trans (hb2.mono (by simp; omega))
  have hz2 := hb2.size
  simp at hz2
  have wa2 := ((Whole.made w 23 #[.int .i64 0, .int .i64 0, .int .i64 0, .int .i64 0, .int .i64 0]).alloc (.cells #[.int .i64 op, .int .i64 a, .int .i64 0, .int .i64 0, .int .i64 (Is.sgn20 l20)] 23)).same (hb2.block _ (by simp; omega))
  have wb2 := (Whole.made (w.alloc (.cells #[.int .i64 0, .int .i64 0, .int .i64 0, .int .i64 0, .int .i64 0] 23)) 23 #[.int .i64 op, .int .i64 a, .int .i64 0, .int .i64 0, .int .i64 (Is.sgn20 l20)]).same (hb2.block _ (by simp))
  rw [show (w.alloc (.cells #[.int .i64 0, .int .i64 0, .int .i64 0, .int .i64 0, .int .i64 0] 23)).heap.size = w.heap.size + 1 by simp] at wb2
  have c0 := wa2.cell 0
  have c1 := wa2.cell 1
  have c2 := wa2.cell 2
  have c3 := wa2.cell 3
  have c4 := wa2.cell 4
  have f0 := wa2.frozen 0
  have f1 := wa2.frozen 1
  have f2 := wa2.frozen 2
  have f3 := wa2.frozen 3
  have f4 := wa2.frozen 4
  have d0 := wb2.cell 0
  have d1 := wb2.cell 1
  have d2 := wb2.cell 2
  have d3 := wb2.cell 3
  have d4 := wb2.cell 4
  simp at c0 c1 c2 c3 c4 d0 d1 d2 d3 d4
  obtain ⟨I, hI⟩ : ∃ I : Is.Ins, ⟨op, a, 0, 0, Is.sgn20 l20⟩ = I := ⟨_, rfl⟩
  rw [hI] at WAY ⊢
  have HI := Lib.hid hI
  clear hI wa2 wb2
  obtain ⟨x, hx⟩ : ∃ x, (Is.enc I).1 = x := ⟨_, rfl⟩
  obtain ⟨y, hy⟩ : ∃ y, (Is.enc I).2 = y := ⟨_, rfl⟩
  rw [hx, hy] at WAY ⊢
  clear hx hy
  by_cases hy0 : y = 0
  rotate_left
  · have E : Hid (decR n = (⟨0, 0, 0, 0, 0⟩, 5)) := HDN.out (by rw [WAY.out, if_neg (fun h => hy0 h.1)])
    have ey : (y == 0) = false := ne_eq hy0
    have ey' : (y != 0) = true := by rw [bne_iff_ne]; exact hy0
    clear hy0
    go_wp2_with fail
    refine bodyPost_ret (v := .tuple #[insV ⟨0, 0, 0, 0, 0⟩, .int .i64 5]) (by simp [results, Tryd.results23, go_sem, insV, c0, c1, c2, c3, c4]) rfl (dec_post E.out ?_)
    exact (((((hb12.setCell (Nat.le_refl _) _).setCell (Nat.le_refl _) _).setCell (Nat.le_refl _) _).setCell (Nat.le_refl _) _).setCell (Nat.le_refl _) _)
  subst hy0
  by_cases hxv : x = v
  rotate_left
  · have E : Hid (decR n = (⟨0, 0, 0, 0, 0⟩, 5)) := HDN.out (by rw [WAY.out, if_neg (fun h => hxv h.2)])
    have ex : (x == v) = false := ne_eq hxv
    have ex' : (x != v) = true := by rw [bne_iff_ne]; exact hxv
    clear hxv
    go_wp2_with fail
    refine bodyPost_ret (v := .tuple #[insV ⟨0, 0, 0, 0, 0⟩, .int .i64 5]) (by simp [results, Tryd.results23, go_sem, insV, c0, c1, c2, c3, c4]) rfl (dec_post E.out ?_)
    exact (((((hb12.setCell (Nat.le_refl _) _).setCell (Nat.le_refl _) _).setCell (Nat.le_refl _) _).setCell (Nat.le_refl _) _).setCell (Nat.le_refl _) _)
  subst hxv
  have E : Hid (decR n = (I, 0)) := HDS.out _ (by rw [WAY.out, if_pos ⟨rfl, rfl⟩])
  go_wp2_with fail
  refine bodyPost_ret (v := .tuple #[insV ⟨op, a, 0, 0, Is.sgn20 l20⟩, .int .i64 0]) (by simp [results, Tryd.results23, go_sem, insV, c0, c1, c2, c3, c4]) rfl (dec_post (E.out.trans (by rw [HI.out])) ?_)
  exact (((((hb12.setCell (Nat.le_refl _) _).setCell (Nat.le_refl _) _).setCell (Nat.le_refl _) _).setCell (Nat.le_refl _) _).setCell (Nat.le_refl _) _)

set_option maxRecDepth 100000 in
set_option maxHeartbeats 4000000 in
theorem rdec_C (n v : Int) (ev : n % 4294967296 = v) (f : Is.form (v / 16777216) = 67) (w : World) : Calls Tryd.prog 23 #[.int .i64 n] w (DecPost n w) := by
  have h0 : 0 ≤ v := by omega
  have h1 : v < 4294967296 := by omega
  have way := Is.dec_way h0 h1
  rw [fields_C f] at way
  have hb1 := ((Below.refl w.heap.size w).alloc (Nat.le_refl _) (.cells #[.int .i64 0, .int .i64 0, .int .i64 0, .int .i64 0, .int .i64 0] 23))
  have DS := fun i (h : Is.decW (n % 4294967296) = some i) => decR_some h
  have DN := fun (h : Is.decW (n % 4294967296) = none) => decR_none h
  rw [ev] at DS DN
  have HDS := Lib.hid DS
  have HDN := Lib.hid DN
  clear DS DN
  have C24 : ∀ W, Calls Tryd.prog 24 #[.int .i64 n] W fun e w' => e = .returned (.int .i64 v) ∧ W = w' := by
    intro W
    have h := rW_any n W
    rw [ev] at h
    exact h
  clear ev
  obtain ⟨op, eop⟩ : ∃ op, v / 16777216 = op := ⟨_, rfl⟩
  obtain ⟨a, ea⟩ : ∃ a, v / 1048576 % 16 = a := ⟨_, rfl⟩
  obtain ⟨b, eb⟩ : ∃ b, v / 65536 % 16 = b := ⟨_, rfl⟩
  obtain ⟨c, ec⟩ : ∃ c, v / 4096 % 16 = c := ⟨_, rfl⟩
  obtain ⟨lo, elo⟩ : ∃ lo, v % 65536 = lo := ⟨_, rfl⟩
  obtain ⟨l20, e20⟩ : ∃ l20, v % 1048576 = l20 := ⟨_, rfl⟩
  have ga : bits .and .i64 (v / 1048576) 15 = a := by rw [land15, ea]
  have gb : bits .and .i64 (v / 65536) 15 = b := by rw [land15, eb]
  have gc : bits .and .i64 (v / 4096) 15 = c := by rw [land15, ec]
  have gl : bits .and .i64 v 65535 = lo := by rw [land16, elo]
  have rop1 : 0 ≤ op := by omega
  have rop2 : op < 256 := by omega
  rw [eop] at f
  rw [eop, ea, elo] at way
  have hlo0 : 0 ≤ lo := by omega
  have hlo1 : lo < 65536 := by omega
  have h200 : 0 ≤ l20 := by omega
  have h201 : l20 < 1048576 := by omega
  have C17 : ∀ W, Calls Tryd.prog 17 #[.int .i64 op] W fun e w' => e = .returned (.tuple #[.int .u8 67, nameV op]) ∧ W = w' := by
    intro W
    have h := rform_any op W
    rw [f] at h
    exact h
  have WAY := Lib.hid way
  clear way f ea eb ec elo e20
  go_enter Tryd.func23, Tryd.ntmps23
  go_wp2_with fail
  refine (C24 _).mono ?_
  rintro e w2 ⟨rfl, rfl⟩
  go_wp2_with fail
  refine (C17 _).mono ?_
  rintro e w2 ⟨rfl, rfl⟩
  go_wp2_with fail
  refine (renc_any ⟨op, a, 0, 0, lo⟩ _).mono ?_
  rintro e w2 ⟨rfl, hb2⟩
  have hb12 := (hb1.alloc (by simp) (.cells #[.int .i64 op, .int .i64 a, .int .i64 0, .int .i64 0, .int .i64 lo] 23)).trans (hb2.mono (by simp; omega))
  have hz2 := hb2.size
  simp at hz2
  have wa2 := ((Whole.made w 23 #[.int .i64 0, .int .i64 0, .int .i64 0, .int .i64 0, .int .i64 0]).alloc (.cells #[.int .i64 op, .int .i64 a, .int .i64 0, .int .i64 0, .int .i64 lo] 23)).same (hb2.block _ (by simp; omega))
  have wb2 := (Whole.made (w.alloc (.cells #[.int .i64 0, .int .i64 0, .int .i64 0, .int .i64 0, .int .i64 0] 23)) 23 #[.int .i64 op, .int .i64 a, .int .i64 0, .int .i64 0, .int .i64 lo]).same (hb2.block _ (by simp))
  rw [show (w.alloc (.cells #[.int .i64 0, .int .i64 0, .int .i64 0, .int .i64 0, .int .i64 0] 23)).heap.size = w.heap.size + 1 by simp] at wb2
  have c0 := wa2.cell 0
  have c1 := wa2.cell 1
  have c2 := wa2.cell 2
  have c3 := wa2.cell 3
  have c4 := wa2.cell 4
  have f0 := wa2.frozen 0
  have f1 := wa2.frozen 1
  have f2 := wa2.frozen 2
  have f3 := wa2.frozen 3
  have f4 := wa2.frozen 4
  have d0 := wb2.cell 0
  have d1 := wb2.cell 1
  have d2 := wb2.cell 2
  have d3 := wb2.cell 3
  have d4 := wb2.cell 4
  simp at c0 c1 c2 c3 c4 d0 d1 d2 d3 d4
  obtain ⟨I, hI⟩ : ∃ I : Is.Ins, ⟨op, a, 0, 0, lo⟩ = I := ⟨_, rfl⟩
  rw [hI] at WAY ⊢
  have HI := Lib.hid hI
  clear hI wa2 wb2
  obtain ⟨x, hx⟩ : ∃ x, (Is.enc I).1 = x := ⟨_, rfl⟩
  obtain ⟨y, hy⟩ : ∃ y, (Is.enc I).2 = y := ⟨_, rfl⟩
  rw [hx, hy] at WAY ⊢
  clear hx hy
  by_cases hy0 : y = 0
  rotate_left
  · have E : Hid (decR n = (⟨0, 0, 0, 0, 0⟩, 5)) := HDN.out (by rw [WAY.out, if_neg (fun h => hy0 h.1)])
    have ey : (y == 0) = false := ne_eq hy0
    have ey' : (y != 0) = true := by rw [bne_iff_ne]; exact hy0
    clear hy0
    go_wp2_with fail
    refine bodyPost_ret (v := .tuple #[insV ⟨0, 0, 0, 0, 0⟩, .int .i64 5]) (by simp [results, Tryd.results23, go_sem, insV, c0, c1, c2, c3, c4]) rfl (dec_post E.out ?_)
    exact (((((hb12.setCell (Nat.le_refl _) _).setCell (Nat.le_refl _) _).setCell (Nat.le_refl _) _).setCell (Nat.le_refl _) _).setCell (Nat.le_refl _) _)
  subst hy0
  by_cases hxv : x = v
  rotate_left
  · have E : Hid (decR n = (⟨0, 0, 0, 0, 0⟩, 5)) := HDN.out (by rw [WAY.out, if_neg (fun h => hxv h.2)])
    have ex : (x == v) = false := ne_eq hxv
    have ex' : (x != v) = true := by rw [bne_iff_ne]; exact hxv
    clear hxv
    go_wp2_with fail
    refine bodyPost_ret (v := .tuple #[insV ⟨0, 0, 0, 0, 0⟩, .int .i64 5]) (by simp [results, Tryd.results23, go_sem, insV, c0, c1, c2, c3, c4]) rfl (dec_post E.out ?_)
    exact (((((hb12.setCell (Nat.le_refl _) _).setCell (Nat.le_refl _) _).setCell (Nat.le_refl _) _).setCell (Nat.le_refl _) _).setCell (Nat.le_refl _) _)
  subst hxv
  have E : Hid (decR n = (I, 0)) := HDS.out _ (by rw [WAY.out, if_pos ⟨rfl, rfl⟩])
  go_wp2_with fail
  refine bodyPost_ret (v := .tuple #[insV ⟨op, a, 0, 0, lo⟩, .int .i64 0]) (by simp [results, Tryd.results23, go_sem, insV, c0, c1, c2, c3, c4]) rfl (dec_post (E.out.trans (by rw [HI.out])) ?_)
  exact (((((hb12.setCell (Nat.le_refl _) _).setCell (Nat.le_refl _) _).setCell (Nat.le_refl _) _).setCell (Nat.le_refl _) _).setCell (Nat.le_refl _) _)

set_option maxRecDepth 100000 in
set_option maxHeartbeats 4000000 in
theorem rdec_N (n v : Int) (ev : n % 4294967296 = v) (f : Is.form (v / 16777216) = 78) (w : World) : Calls Tryd.prog 23 #[.int .i64 n] w (DecPost n w) := by
  have h0 : 0 ≤ v := by omega
  have h1 : v < 4294967296 := by omega
  have way := Is.dec_way h0 h1
  rw [fields_N f] at way
  have hb1 := ((Below.refl w.heap.size w).alloc (Nat.le_refl _) (.cells #[.int .i64 0, .int .i64 0, .int .i64 0, .int .i64 0, .int .i64 0] 23))
  have DS := fun i (h : Is.decW (n % 4294967296) = some i) => decR_some h
  have DN := fun (h : Is.decW (n % 4294967296) = none) => decR_none h
  rw [ev] at DS DN
  have HDS := Lib.hid DS
  have HDN := Lib.hid DN
  clear DS DN
  have C24 : ∀ W, Calls Tryd.prog 24 #[.int .i64 n] W fun e w' => e = .returned (.int .i64 v) ∧ W = w' := by
    intro W
    have h := rW_any n W
    rw [ev] at h
    exact h
  clear ev
  obtain ⟨op, eop⟩ : ∃ op, v / 16777216 = op := ⟨_, rfl⟩
  obtain ⟨a, ea⟩ : ∃ a, v / 1048576 % 16 = a := ⟨_, rfl⟩
  obtain ⟨b, eb⟩ : ∃ b, v / 65536 % 16 = b := ⟨_, rfl⟩
  obtain ⟨c, ec⟩ : ∃ c, v / 4096 % 16 = c := ⟨_, rfl⟩
  obtain ⟨lo, elo⟩ : ∃ lo, v % 65536 = lo := ⟨_, rfl⟩
  obtain ⟨l20, e20⟩ : ∃ l20, v % 1048576 = l20 := ⟨_, rfl⟩
  have ga : bits .and .i64 (v / 1048576) 15 = a := by rw [land15, ea]
  have gb : bits .and .i64 (v / 65536) 15 = b := by rw [land15, eb]
  have gc : bits .and .i64 (v / 4096) 15 = c := by rw [land15, ec]
  have gl : bits .and .i64 v 65535 = lo := by rw [land16, elo]
  have rop1 : 0 ≤ op := by omega
  have rop2 : op < 256 := by omega
  rw [eop] at f
  rw [eop, ea] at way
  have hlo0 : 0 ≤ lo := by omega
  have hlo1 : lo < 65536 := by omega
  have h200 : 0 ≤ l20 := by omega
  have h201 : l20 < 1048576 := by omega
  have C17 : ∀ W, Calls Tryd.prog 17 #[.int .i64 op] W fun e w' => e = .returned (.tuple #[.int .u8 78, nameV op]) ∧ W = w' := by
    intro W
    have h := rform_any op W
    rw [f] at h
    exact h
  have WAY := Lib.hid way
  clear way f ea eb ec elo e20
  go_enter Tryd.func23, Tryd.ntmps23
  go_wp2_with fail
  refine (C24 _).mono ?_
  rintro e w2 ⟨rfl, rfl⟩
  go_wp2_with fail
  refine (C17 _).mono ?_
  rintro e w2 ⟨rfl, rfl⟩
  go_wp2_with fail
  refine (renc_any ⟨op, a, 0, 0, 0⟩ _).mono ?_
  rintro e w2 ⟨rfl, hb2⟩
  have hb12 := (hb1.alloc (by simp) (.cells #[.int .i64 op, .int .i64 a, .int .i64 0, .int .i64 0, .int .i64 0] 23)).trans (hb2.mono (by simp; omega))
  have hz2 := hb2.size
  simp at hz2
  have wa2 := ((Whole.made w 23 #[.int .i64 0, .int .i64 0, .int .i64 0, .int .i64 0, .int .i64 0]).alloc (.cells #[.int .i64 op, .int .i64 a, .int .i64 0, .int .i64 0, .int .i64 0] 23)).same (hb2.block _ (by simp; omega))
  have wb2 := (Whole.made (w.alloc (.cells #[.int .i64 0, .int .i64 0, .int .i64 0, .int .i64 0, .int .i64 0] 23)) 23 #[.int .i64 op, .int .i64 a, .int .i64 0, .int .i64 0, .int .i64 0]).same (hb2.block _ (by simp))
  rw [show (w.alloc (.cells #[.int .i64 0, .int .i64 0, .int .i64 0, .int .i64 0, .int .i64 0] 23)).heap.size = w.heap.size + 1 by simp] at wb2
  have c0 := wa2.cell 0
  have c1 := wa2.cell 1
  have c2 := wa2.cell 2
  have c3 := wa2.cell 3
  have c4 := wa2.cell 4
  have f0 := wa2.frozen 0
  have f1 := wa2.frozen 1
  have f2 := wa2.frozen 2
  have f3 := wa2.frozen 3
  have f4 := wa2.frozen 4
  have d0 := wb2.cell 0
  have d1 := wb2.cell 1
  have d2 := wb2.cell 2
  have d3 := wb2.cell 3
  have d4 := wb2.cell 4
  simp at c0 c1 c2 c3 c4 d0 d1 d2 d3 d4
  obtain ⟨I, hI⟩ : ∃ I : Is.Ins, ⟨op, a, 0, 0, 0⟩ = I := ⟨_, rfl⟩
  rw [hI] at WAY ⊢
  have HI := Lib.hid hI
  clear hI wa2 wb2
  obtain ⟨x, hx⟩ : ∃ x, (Is.enc I).1 = x := ⟨_, rfl⟩
  obtain ⟨y, hy⟩ : ∃ y, (Is.enc I).2 = y := ⟨_, rfl⟩
  rw [hx, hy] at WAY ⊢
  clear hx hy
  by_cases hy0 : y = 0
  rotate_left
  · have E : Hid (decR n = (⟨0, 0, 0, 0, 0⟩, 5)) := HDN.out (by rw [WAY.out, if_neg (fun h => hy0 h.1)])
    have ey : (y == 0) = false := ne_eq hy0
    have ey' : (y != 0) = true := by rw [bne_iff_ne]; exact hy0
    clear hy0
    go_wp2_with fail
    refine bodyPost_ret (v := .tuple #[insV ⟨0, 0, 0, 0, 0⟩, .int .i64 5]) (by simp [results, Tryd.results23, go_sem, insV, c0, c1, c2, c3, c4]) rfl (dec_post E.out ?_)
    exact (((((hb12.setCell (Nat.le_refl _) _).setCell (Nat.le_refl _) _).setCell (Nat.le_refl _) _).setCell (Nat.le_refl _) _).setCell (Nat.le_refl _) _)
  subst hy0
  by_cases hxv : x = v
  rotate_left
  · have E : Hid (decR n = (⟨0, 0, 0, 0, 0⟩, 5)) := HDN.out (by rw [WAY.out, if_neg (fun h => hxv h.2)])
    have ex : (x == v) = false := ne_eq hxv
    have ex' : (x != v) = true := by rw [bne_iff_ne]; exact hxv
    clear hxv
    go_wp2_with fail
    refine bodyPost_ret (v := .tuple #[insV ⟨0, 0, 0, 0, 0⟩, .int .i64 5]) (by simp [results, Tryd.results23, go_sem, insV, c0, c1, c2, c3, c4]) rfl (dec_post E.out ?_)
    exact (((((hb12.setCell (Nat.le_refl _) _).setCell (Nat.le_refl _) _).setCell (Nat.le_refl _) _).setCell (Nat.le_refl _) _).setCell (Nat.le_refl _) _)
  subst hxv
  have E : Hid (decR n = (I, 0)) := HDS.out _ (by rw [WAY.out, if_pos ⟨rfl, rfl⟩])
  go_wp2_with fail
  refine bodyPost_ret (v := .tuple #[insV ⟨op, a, 0, 0, 0⟩, .int .i64 0]) (by simp [results, Tryd.results23, go_sem, insV, c0, c1, c2, c3, c4]) rfl (dec_post (E.out.trans (by rw [HI.out])) ?_)
  exact (((((hb12.setCell (Nat.le_refl _) _).setCell (Nat.le_refl _) _).setCell (Nat.le_refl _) _).setCell (Nat.le_refl _) _).setCell (Nat.le_refl _) _)

theorem rdec_any (n : Int) (w : World) : Calls Tryd.prog 23 #[.int .i64 n] w (DecPost n w) := by
  rcases Is.form_cases (n % 4294967296 / 16777216) with f | f | f | f | f | f | f | f | f
  · exact rdec_0 n _ rfl f w
  · exact rdec_R n _ rfl f w
  · exact rdec_I n _ rfl f w
  · exact rdec_U n _ rfl f w
  · exact rdec_H n _ rfl f w
  · exact rdec_L n _ rfl f w
  · exact rdec_J n _ rfl f w
  · exact rdec_C n _ rfl f w
  · exact rdec_N n _ rfl f w
end Go.Proofs.YtmfldcacjpligaaDoor
