/-
  A task woken: the walk of wake.
-/
import Derived.Test.YtncbgnpoffolcaaM1
import Derived.Deep.RegionHeld3
import Derived.Deep.Cut
/-! A task woken: the walk of wake. -/
namespace Go.Proofs.Ytncbgnpoffolcaa
open Go.RowKit
theorem line_sem (g : Nat) (w : World) : Calls Try.prog 101 #[.pointer (some ⟨g, 0, none⟩)] w fun e w' => e = .returned (.pointer (some ⟨g, 1, none⟩)) ∧ w = w' := by
  go_enter Try.func101, Try.ntmps101
  go_wp2_with fail
  go_ret
  exact ⟨rfl, rfl⟩
theorem line_mutex (g : Nat) (w : World) : Calls Try.prog 102 #[.pointer (some ⟨g, 0, none⟩)] w fun e w' => e = .returned (.pointer (some ⟨g, 1, none⟩)) ∧ w = w' := by
  go_enter Try.func102, Try.ntmps102
  go_wp2_with fail
  go_ret
  exact ⟨rfl, rfl⟩
theorem line_full (g : Nat) (w : World) : Calls Try.prog 103 #[.pointer (some ⟨g, 2, none⟩)] w fun e w' => e = .returned (.pointer (some ⟨g, 2, none⟩)) ∧ w = w' := by
  go_enter Try.func103, Try.ntmps103
  go_wp2_with fail
  go_ret
  exact ⟨rfl, rfl⟩
theorem line_empty (g : Nat) (w : World) : Calls Try.prog 104 #[.pointer (some ⟨g, 3, none⟩)] w fun e w' => e = .returned (.pointer (some ⟨g, 3, none⟩)) ∧ w = w' := by
  go_enter Try.func104, Try.ntmps104
  go_wp2_with fail
  go_ret
  exact ⟨rfl, rfl⟩
section
variable {L : Lay} {i : Nat}
theorem on_sem (h : i < 8) : L.on (some (32 + i)) = .iface 80 (.pointer (some ⟨L.b (.s i), 0, none⟩)) := by
  unfold Lay.on
  simp only []
  rw [if_pos (by omega), Nat.add_sub_cancel_left]
  rfl
theorem on_mutex (h : i < 8) : L.on (some (40 + i)) = .iface 83 (.pointer (some ⟨L.b (.m i), 0, none⟩)) := by
  unfold Lay.on
  simp only []
  rw [if_neg (by omega), if_pos (by omega), Nat.add_sub_cancel_left]
  rfl
theorem on_full (h : i < 8) : L.on (some (56 + i)) = .iface 126 (.pointer (some ⟨L.b (.q i), 2, none⟩)) := by
  unfold Lay.on
  simp only []
  rw [if_neg (by omega), if_neg (by omega), if_pos (by omega), Nat.add_sub_cancel_left]
  rfl
theorem on_empty (h : i < 8) : L.on (some (64 + i)) = .iface 127 (.pointer (some ⟨L.b (.q i), 3, none⟩)) := by
  unfold Lay.on
  simp only []
  rw [if_neg (by omega), if_neg (by omega), if_neg (by omega), Nat.add_sub_cancel_left]
  rfl
end
theorem method_sem (a : Addr) (w : World) : (method 245 80 (.pointer (some a)) "trunnion/kern.line").run Try.prog w = .ok (101, .pointer (some a)) w := by kernel_rfl
theorem method_mutex (a : Addr) (w : World) : (method 245 83 (.pointer (some a)) "trunnion/kern.line").run Try.prog w = .ok (102, .pointer (some a)) w := by kernel_rfl
theorem method_full (a : Addr) (w : World) : (method 245 126 (.pointer (some a)) "trunnion/kern.line").run Try.prog w = .ok (103, .pointer (some a)) w := by kernel_rfl
theorem method_empty (a : Addr) (w : World) : (method 245 127 (.pointer (some a)) "trunnion/kern.line").run Try.prog w = .ok (104, .pointer (some a)) w := by kernel_rfl
theorem holder_sem {i : Nat} (h : i < 8) : holder (32 + i) = .s i ∧ holdAt (32 + i) = 1 := ⟨by unfold holder; rw [if_neg (by omega), if_pos (by omega)]; congr 1; omega, by unfold holdAt; rw [if_neg (by omega), if_pos (by omega)]⟩
theorem holder_mutex {i : Nat} (h : i < 8) : holder (40 + i) = .m i ∧ holdAt (40 + i) = 1 := ⟨by unfold holder; rw [if_neg (by omega), if_neg (by omega), if_pos (by omega)]; congr 1; omega, by unfold holdAt; rw [if_neg (by omega), if_pos (by omega)]⟩
theorem holder_full {i : Nat} (h : i < 8) : holder (56 + i) = .q i ∧ holdAt (56 + i) = 2 := ⟨by unfold holder; rw [if_neg (by omega), if_neg (by omega), if_neg (by omega), if_neg (by omega), if_pos (by omega)]; congr 1; omega, by unfold holdAt; rw [if_neg (by omega), if_neg (by omega), if_pos (by omega)]⟩
theorem holder_empty {i : Nat} (h : i < 8) : holder (64 + i) = .q i ∧ holdAt (64 + i) = 3 := ⟨by unfold holder; rw [if_neg (by omega), if_neg (by omega), if_neg (by omega), if_neg (by omega), if_neg (by omega)]; congr 1; omega, by unfold holdAt; rw [if_neg (by omega), if_neg (by omega), if_neg (by omega)]⟩
theorem own_or {L : Lay} {c : Part} {g' : Option Nat} {n b : Nat} (hb : g' = some b) (hg : (g' = if L.nil c then none else some (L.b c)) ∨ ∃ x, g' = some x ∧ n ≤ x) : (L.nil c = false ∧ b = L.b c) ∨ n ≤ b := by
  rcases hg with h | ⟨x, h, hx⟩
  · rw [hb] at h
    cases hn : L.nil c with
    | true => rw [hn, if_pos rfl] at h; cases h
    | false => rw [hn] at h; exact .inl ⟨rfl, by simpa using h⟩
  · rw [hb] at h
    obtain rfl := Option.some.inj h
    exact .inr hx
theorem LHead.keep {w w' : World} {v : Value} {xs : List Int} {g : Option Nat} (h : LHead w v xs g) (hs : ∀ b, b < w.heap.size → w'.heap[b]? = w.heap[b]?) : LHead w' v xs g := by
  rcases h with ⟨h1, h2, h3⟩ | ⟨b, off, cap, h1, h2, h3⟩
  · exact .inl ⟨h1, h2, h3⟩
  · refine .inr ⟨b, off, cap, h1, h2, ?_⟩
    obtain ⟨cur, hb, rest⟩ := h3
    exact ⟨cur, (hs b (Array.getElem?_eq_some_iff.1 hb).1).trans hb, rest⟩
theorem wakeBelow {w W4 w5 : World} {B gk p : Nat} {o : Obj} {gl : Option Nat} {v : Value} (h : Below B w W4) (hB : B ≤ W4.heap.size) (hg : ((W4.alloc o).drew).grownBy w5 gl) (hl : ∀ b, gl = some b → B ≤ b) (hk : B ≤ gk) : Below B w (w5.setCell ⟨gk, 4 + p, none⟩ v) :=
  (((h.alloc hB o).drew).grown hg (by simp; omega) hl).setCell (p := ⟨gk, 4 + p, none⟩) hk _
set_option maxRecDepth 100000 in
set_option maxHeartbeats 8000000 in
theorem wake_near {w : World} {B M : Nat} {k : Kn.K} {L : Lay} {m : Nat} (answer : Int) (h : KM w B k L) (hf : Fine k M) (hM : M ≤ 1000000) (hm : m < k.tasks.length) (hB : B ≤ w.heap.size) (hon : ∀ x, (kT k m).on = some x → OnOk k x) :
    Calls Try.prog 55 #[L.ptr .ker 0, .int .i64 m, .int .i64 answer] w fun e w' => e = .returned (.tuple #[]) ∧ ∃ L', KM w' B (k.wake m answer) L' ∧ Sam L L' ∧ Below B w w' ∧ Near w.heap.size k L (k.wake m answer) L' ∧ ∀ g, Out w k L g → w'.heap[g]? = w.heap[g]? := by
  obtain ⟨p0, p1⟩ := hf.prio m hm
  obtain ⟨p, hp⟩ := Int.eq_ofNat_of_zero_le p0
  have hp32 : p < 32 := by omega
  have h0 := h.tasksHead (by omega)
  have h1 := h.taskPtr hm
  have h2 : w.cell? ⟨L.b (.t m), 7, none⟩ = some (L.on (kT k m).on) := (h.task hm).cell 7
  have im : (m : Int) < k.tasks.length := by omega
  have im0 : (0 : Int) ≤ m := by omega
  have ip : (p : Int) < 32 := by omega
  have hmax := hf.tasks
  have HK := Lib.hid h
  have HF := Lib.hid hf
  have HP := Lib.hid hp
  unfold Lay.ptr
  rcases hq : (kT k m).on with _ | x
  · have EW : Hid (k.wake m answer = (k.setT m fun t => { t with state := 0, answer := answer, on := none, left := 0 }).setL p (· ++ [(m : Int)])) := by
      show _ = _
      unfold Kn.K.wake
      rw [show (k.t m).on = none from hq]
      simp only []
      show Kn.K.setL _ ((kT _ m).prio).toNat _ = _
      rw [kT_set hm]
      show Kn.K.setL _ ((kT k m).prio).toNat _ = _
      rw [hp]
      rfl
    rw [hq] at h2
    have h2' : w.cell? ⟨L.b (.t m), 7, none⟩ = some .nilIface := h2
    clear h2 h hf hp hq p0 p1
    go_enter Try.func55, Try.ntmps55
    go_upto_region 4 with fail
    have HS := Lib.hid (Sam.refl L)
    have HB0 := Lib.hid (Below.refl B w)
    have hm1 : m < k.tasks.length := hm
    have ebt : L.b (.t m) = L.b (.t m) := HS.out (.t m) rfl
    have ebk : L.b .ker = L.b .ker := HS.out .ker rfl
    have wt := HK.out.task hm1
    rw [ebt] at wt
    have t2 : w.cell? ⟨L.b (.t m), 2, none⟩ = some (.int .i64 (kT k m).prio) := wt.cell 2
    rw [HP.out] at t2
    have t3 : w.cell? ⟨L.b (.t m), 3, none⟩ = some (.int .i64 (kT k m).state) := wt.cell 3
    have t5 : w.cell? ⟨L.b (.t m), 5, none⟩ = some (.int .i64 (kT k m).answer) := wt.cell 5
    have t7 : w.cell? ⟨L.b (.t m), 7, none⟩ = some (L.on (kT k m).on) := wt.cell 7
    have t8 : w.cell? ⟨L.b (.t m), 8, none⟩ = some (.int .i64 (kT k m).left) := wt.cell 8
    have f3 := wt.frozen 3
    have f5 := wt.frozen 5
    have f7 := wt.frozen 7
    have f8 := wt.frozen 8
    have hlen1 := HF.out.len p
    have WT := Lib.hid wt
    clear wt
    go_upto_region 5 with fail
    obtain ⟨W4, hW4⟩ : ∃ W4, W4 = (((w.setCell ⟨L.b (.t m), 3, none⟩ (.int .i64 0)).setCell ⟨L.b (.t m), 5, none⟩ (.int .i64 answer)).setCell ⟨L.b (.t m), 7, none⟩ .nilIface).setCell ⟨L.b (.t m), 8, none⟩ (.int .i64 0) := ⟨_, rfl⟩
    rw [← hW4]
    have hz4 : Hid (W4.heap.size = w.heap.size) := by show _ = _; rw [hW4]; simp only [World.size_setCell]
    have hK4 : Hid (KM W4 B (k.setT m fun t => { t with state := 0, answer := answer, on := none, left := 0 }) L) := by
      show KM _ _ _ _
      refine HK.out.setTask hm1 rfl rfl (fun g hg _ => ?_) ?_
      · rw [ebt] at hg
        rw [hW4, Below.heap_setCell _ _ _ _ hg, Below.heap_setCell _ _ _ _ hg, Below.heap_setCell _ _ _ _ hg, Below.heap_setCell _ _ _ _ hg]
      · rw [ebt, hW4]
        have hq4 := (((WT.out.put 3 (.int .i64 0)).put 5 (.int .i64 answer)).put 7 .nilIface).put 8 (.int .i64 0)
        have e4 : taskCells (k.setT m fun t => { t with state := 0, answer := answer, on := none, left := 0 }) L m = ((((taskCells k L m).setIfInBounds 3 (.int .i64 0)).setIfInBounds 5 (.int .i64 answer)).setIfInBounds 7 .nilIface).setIfInBounds 8 (.int .i64 0) := by
          unfold taskCells
          rw [kT_set hm1]
          rfl
        rw [e4]
        exact hq4
    have hlowT := HK.out.low (.t m) hm
    have hB4 : Below B w W4 := by rw [hW4]; exact (((HB0.out.setCell (p := ⟨L.b (.t m), 3, none⟩) hlowT _).setCell (p := ⟨L.b (.t m), 5, none⟩) hlowT _).setCell (p := ⟨L.b (.t m), 7, none⟩) hlowT _).setCell (p := ⟨L.b (.t m), 8, none⟩) hlowT _
    have hBW4 : B ≤ W4.heap.size := by have := HB0.out.size; have := hz4.out; omega
    have c42 : W4.cell? ⟨L.b (.t m), 2, none⟩ = some (.int .i64 p) := by
      have q := (hK4.out.task (i := m) (by rw [setT_len]; exact hm1)).cell 2
      rw [ebt] at q
      rw [q]
      show some (Value.int .i64 (kT (k.setT m _) m).prio) = _
      rw [kT_set hm1]
      show some (Value.int .i64 (kT k m).prio) = _
      rw [HP.out]
    have c43 := hK4.out.row hp32
    rw [ebk] at c43
    have c44 : W4.frozen? ⟨L.b .ker, 4 + p, none⟩ = false := by have := hK4.out.ker.frozen (4 + p); rw [ebk] at this; exact this
    have hltT : L.b (.t m) < W4.heap.size := by have := hK4.out.lt (c := .t m) (by simp [Part.live, setT_len]; exact hm1); rw [ebt] at this; exact this
    have hltK : L.b .ker < W4.heap.size := by have := hK4.out.lt (c := .ker) trivial; rw [ebk] at this; exact this
    obtain ⟨gl, hgl⟩ : ∃ gl, gl = (if L.nil (.l p) then none else some (L.b (.l p))) := ⟨_, rfl⟩
    have hLH := hK4.out.head (x := p) (by omega)
    rw [← hgl] at hLH
    have hgis : ∀ b (g5 : Option Nat), g5 = some b → (g5 = gl ∨ ∃ x, g5 = some x ∧ ((W4.alloc (.cells #[.int .i64 m] 3)).drew).heap.size ≤ x) → (L.nil (.l p) = false ∧ b = L.b (.l p)) ∨ ((W4.alloc (.cells #[.int .i64 m] 3)).drew).heap.size ≤ b := by
      intro b g5 hb hg
      rcases hg with hg | ⟨x, hg, hx⟩
      · rw [hb, hgl] at hg
        cases hn : L.nil (.l p) with
        | true => rw [hn, if_pos rfl] at hg; cases hg
        | false => rw [hn] at hg; exact .inl ⟨rfl, by simpa using hg⟩
      · rw [hb] at hg
        obtain rfl := Option.some.inj hg
        exact .inr hx
    have hgnot : ∀ b, (L.nil (.l p) = false → b ≠ L.b (.l p)) → gl ≠ some b := by
      intro b hne e
      rw [hgl] at e
      cases hn : L.nil (.l p) with
      | true => rw [hn, if_pos rfl] at e; cases e
      | false => rw [hn] at e; exact hne hn (by simpa using e.symm)
    have hneT : gl ≠ some (L.b (.t m)) := hgnot _ fun hn e => by
      have := hK4.out.apart (.t m) (.l p) (by simp [Part.live, setT_len]; exact hm1) ⟨by omega, hn⟩ (by rw [ebt]; exact e)
      cases this
    have hneK : gl ≠ some (L.b .ker) := hgnot _ fun hn e => by
      have := hK4.out.apart .ker (.l p) trivial ⟨by omega, hn⟩ (by rw [ebk]; exact e)
      cases this
    have HLA : Hid (LHead ((W4.alloc (.cells #[.int .i64 m] 3)).drew) (L.hd (.l p) ((k.setT m fun t => { t with state := 0, answer := answer, on := none, left := 0 }).l p).length) ((k.setT m fun t => { t with state := 0, answer := answer, on := none, left := 0 }).l p) gl) := hLH.keep fun b hb => Below.heap_alloc W4 _ b hb
    have hlen5 : ((k.setT m fun t => { t with state := 0, answer := answer, on := none, left := 0 }).l p).length ≤ 1000000 := by show (k.l p).length ≤ 1000000; omega
    have hnew : ((W4.alloc (.cells #[.int .i64 m] 3)).drew).cell? ⟨W4.heap.size, 0, none⟩ = some (.int .i64 m) := (Whole.made W4 3 #[.int .i64 m]).cell 0
    generalize hVV : L.hd (.l p) ((k.setT m fun t => { t with state := 0, answer := answer, on := none, left := 0 }).l p).length = VV at *
    have c42a : ((W4.alloc (.cells #[.int .i64 m] 3)).drew).cell? ⟨L.b (.t m), 2, none⟩ = some (.int .i64 p) := (World.cell?_alloc_lt W4 _ ⟨L.b (.t m), 2, none⟩ hltT).trans c42
    have c43a : ((W4.alloc (.cells #[.int .i64 m] 3)).drew).cell? ⟨L.b .ker, 4 + p, none⟩ = some VV := (World.cell?_alloc_lt W4 _ ⟨L.b .ker, 4 + p, none⟩ hltK).trans c43
    have c44a : ((W4.alloc (.cells #[.int .i64 m] 3)).drew).frozen? ⟨L.b .ker, 4 + p, none⟩ = false := (World.frozen?_of_block (a := ⟨L.b .ker, 4 + p, none⟩) (Below.heap_alloc W4 _ _ hltK)).trans c44
    have hkt : L.b .ker ≠ L.b (.t m) := fun e => by cases HK.out.apart .ker (.t m) trivial hm e
    have hkt' : L.b (.t m) ≠ L.b .ker := fun e => hkt e.symm
    have HO4 : Hid (∀ g, Out w k L g → Out W4 ((k.setT m fun t => { t with state := 0, answer := answer, on := none, left := 0 })) L g ∧ W4.heap[g]? = w.heap[g]?) := fun g hg => by
      have hne : g ≠ L.b (.t m) := fun e => hg.2 (.t m) hm e.symm
      refine ⟨⟨by rw [hz4.out]; exact hg.1, fun c hc => hg.2 c ((setT_live hm rfl c).1 hc)⟩, ?_⟩
      rw [hW4, Below.heap_setCell _ _ _ _ hne, Below.heap_setCell _ _ _ _ hne, Below.heap_setCell _ _ _ _ hne, Below.heap_setCell _ _ _ _ hne]
    have HN4 : Hid (Near w.heap.size k L ((k.setT m fun t => { t with state := 0, answer := answer, on := none, left := 0 })) L) := setT_near hm rfl
    have HZ4 : Hid (w.heap.size ≤ W4.heap.size) := by show _ ≤ _; rw [hz4.out]; exact Nat.le_refl _
    have HB4 := Lib.hid hB4
    clear hB4 hLH hVV hW4 t2 t3 t5 t7 t8 f3 f5 f7 f8
    refine wp_region_held_drew (S := fun w' => w'.cell? ⟨L.b (.t m), 2, none⟩ = some (.int .i64 p)) (by kernel_rfl) ?_ (fun hHeld => ?_)
    · (try dsimp only)
      go_keep
    refine wpAnyH_take (i := 0) (v := ?_) rfl (by kernel_rfl) (by kernel_rfl) (by kernel_rfl) (fun _ _ _ h => h) (Or.inl ⟨by rfl, ?_⟩) (by assumption) ?_
    rotate_left
    · intro w hSw
      (try dsimp only at hSw)
      go_simp
      with_reducible rfl
    try simp only [Act.put, List.setIfInBounds_toArray]
    refine wpAnyH_take (i := 1) (v := ?_) rfl (by kernel_rfl) (by kernel_rfl) (by kernel_rfl) (fun _ _ _ h => h) (Or.inl ⟨by rfl, ?_⟩) (by assumption) ?_
    rotate_left
    · intro w hSw
      (try dsimp only at hSw)
      go_simp
      with_reducible rfl
    try simp only [Act.put]
    refine wpAnyH_take (i := 2) (v := ?_) rfl (by kernel_rfl) (by kernel_rfl) (by kernel_rfl) (fun _ _ _ h => h) (Or.inl ⟨by rfl, ?_⟩) (by assumption) ?_
    rotate_left
    · intro w hSw
      (try dsimp only at hSw)
      go_simp
      with_reducible rfl
    try simp only [Act.put]
    refine wpAnyH_take (i := 3) (v := ?_) rfl (by kernel_rfl) (by kernel_rfl) (by kernel_rfl) (fun _ _ _ h => h) (Or.inl ⟨by rfl, ?_⟩) (by assumption) ?_
    rotate_left
    · intro w hSw
      (try dsimp only at hSw)
      go_simp
      with_reducible rfl
    try simp only [Act.put]
    refine wpAnyH_take (i := 4) (v := ?_) rfl (by kernel_rfl) (by kernel_rfl) (by kernel_rfl) (fun _ _ _ h => h) (Or.inl ⟨by rfl, ?_⟩) (by assumption) ?_
    rotate_left
    · intro w hSw
      (try dsimp only at hSw)
      go_simp
      with_reducible rfl
    try simp only [Act.put]
    refine wpAnyH_take (i := 5) (v := ?_) rfl (by kernel_rfl) (by kernel_rfl) (by kernel_rfl) (fun _ _ _ h => h) (Or.inl ⟨by rfl, ?_⟩) (by assumption) ?_
    rotate_left
    · intro w hSw
      (try dsimp only at hSw)
      go_simp
      with_reducible rfl
    try simp only [Act.put]
    refine wpAnyH_take (i := 6) (v := ?_) rfl (by kernel_rfl) (by kernel_rfl) (by kernel_rfl) (fun _ _ _ h => h) (Or.inl ⟨by rfl, ?_⟩) (by assumption) ?_
    rotate_left
    · intro w hSw
      (try dsimp only at hSw)
      go_simp
      with_reducible rfl
    try simp only [Act.put]
    refine wpAnyH_take (i := 7) (v := ?_) rfl (by kernel_rfl) (by kernel_rfl) (by kernel_rfl) (fun _ _ _ h => h) (Or.inl ⟨by rfl, ?_⟩) (by assumption) ?_
    rotate_left
    · intro w hSw
      (try dsimp only at hSw)
      go_simp
      with_reducible rfl
    try simp only [Act.put]
    refine wpAnyH_take (i := 8) (v := ?_) rfl (by kernel_rfl) (by kernel_rfl) (by kernel_rfl) (fun _ _ _ h => h) (Or.inl ⟨by rfl, ?_⟩) (by assumption) ?_
    rotate_left
    · intro w hSw
      (try dsimp only at hSw)
      go_simp
      with_reducible rfl
    try simp only [Act.put]
    refine wpAnyH_take (i := 9) (v := ?_) rfl (by kernel_rfl) (by kernel_rfl) (by kernel_rfl) (fun _ _ _ h => h) (Or.inl ⟨by rfl, ?_⟩) (by assumption) ?_
    rotate_left
    · intro w hSw
      (try dsimp only at hSw)
      go_simp
      with_reducible rfl
    try simp only [Act.put]
    refine wpAnyH_take (i := 10) (v := ?_) rfl (by kernel_rfl) (by kernel_rfl) (by kernel_rfl) (fun _ _ _ h => h) (Or.inl ⟨by rfl, ?_⟩) (by assumption) ?_
    rotate_left
    · intro w hSw
      (try dsimp only at hSw)
      go_simp
      with_reducible rfl
    try simp only [Act.put]
    refine wpAnyH_take (i := 11) (v := ?_) rfl (by kernel_rfl) (by kernel_rfl) (by kernel_rfl) (fun _ _ _ h => h) (Or.inl ⟨by rfl, ?_⟩) (by assumption) ?_
    rotate_left
    · intro w hSw
      (try dsimp only at hSw)
      go_simp
      with_reducible rfl
    try simp only [Act.put]
    refine wpAnyH_take (i := 12) (v := ?_) rfl (by kernel_rfl) (by kernel_rfl) (by kernel_rfl) (fun _ _ _ h => h) (Or.inl ⟨by rfl, ?_⟩) (by assumption) ?_
    rotate_left
    · intro w hSw
      (try dsimp only at hSw)
      go_simp
      with_reducible rfl
    try simp only [Act.put]
    refine wpAnyH_take (i := 14) (v := ?_) rfl (by kernel_rfl) (by kernel_rfl) (by kernel_rfl) (fun _ _ _ h => h) (Or.inl ⟨by rfl, ?_⟩) (by assumption) ?_
    rotate_left
    · intro w hSw
      (try dsimp only at hSw)
      go_simp
      with_reducible rfl
    try simp only [Act.put]
    refine wpAnyH_take (i := 17) (v := ?_) rfl (by kernel_rfl) (by kernel_rfl) (by kernel_rfl) (fun _ _ _ h => h) (Or.inl ⟨by rfl, ?_⟩) (by assumption) ?_
    rotate_left
    · intro w hSw
      (try dsimp only at hSw)
      go_simp
      with_reducible rfl
    try simp only [Act.put]
    refine wpAnyH_take (i := 18) (v := ?_) rfl (by kernel_rfl) (by kernel_rfl) (by kernel_rfl) (fun _ _ _ h => h) (Or.inl ⟨by rfl, ?_⟩) (by assumption) ?_
    rotate_left
    · intro w hSw
      (try dsimp only at hSw)
      go_simp
      with_reducible rfl
    try simp only [Act.put]
    refine wpAnyH_ready (rs := [13, 15]) (by kernel_rfl) (by simp) ?_
    refine AllReadyH.cons rfl (fun K hK => ?_) ?_
    · go_simp
      refine hK.out _ _ ?_ (fun hHeld => ?_)
      · (try dsimp only)
        go_keep
      clear hK K
      try simp only [Act.put, List.setIfInBounds_toArray, List.set_cons_zero, List.set_cons_succ]
      refine wpAnyH_ready (rs := [15]) (by kernel_rfl) (by simp) ?_
      refine AllReadyH.cons rfl (fun K hK => ?_) ?_
      · go_simp
        refine hK.out _ _ ?_ (fun hHeld => ?_)
        · (try dsimp only)
          go_keep
        clear hK K
        try simp only [Act.put, List.setIfInBounds_toArray, List.set_cons_zero, List.set_cons_succ]
        refine wpAnyH_ready (rs := [16]) (by kernel_rfl) (by simp) ?_
        refine AllReadyH.cons rfl (fun K hK => ?_) ?_
        · (refine step_append_list rfl _ _ rfl (by rfl) HLA.out hlen5 (m : Int) ⟨W4.heap.size, 0, none⟩ 1 (by rfl) (by exact hnew) ?_; intro v' w5 hap; obtain ⟨g5, hv5, hg5, hs5, hgr5⟩ := hap; obtain ⟨A5, c5, e5⟩ := hv5.slice; subst e5; have z1 : w5.cell? ⟨L.b (.t m), 2, none⟩ = some (.int .i64 p) := (World.cell?_of_block (a := ⟨L.b (.t m), 2, none⟩) (hs5 _ (by simp; omega) hneT)).trans c42a; have z2 := (World.cell?_of_block (a := ⟨L.b .ker, 4 + p, none⟩) (hs5 _ (by simp; omega) hneK)).trans c43a; have z3 := (World.frozen?_of_block (a := ⟨L.b .ker, 4 + p, none⟩) (hs5 _ (by simp; omega) hneK)).trans c44a)
          refine hK.out _ _ ?_ (fun hHeld => ?_)
          · (try dsimp only)
            go_keep
          clear hK K
          try simp only [Act.put, List.setIfInBounds_toArray]
          refine wpAnyH_take (i := 19) (v := ?_) rfl (by kernel_rfl) (by kernel_rfl) (by kernel_rfl) (fun _ _ _ h => h) (Or.inl ⟨by rfl, ?_⟩) (by assumption) ?_
          rotate_left
          · intro w hSw
            (try dsimp only at hSw)
            go_simp
            with_reducible rfl
          try simp only [Act.put]
          refine wpAnyH_ready (rs := [20]) (by kernel_rfl) (by simp) ?_
          refine AllReadyH.cons rfl (fun K hK => ?_) ?_
          · go_simp
            refine hK.out _ _ ?_ (fun hHeld => ?_)
            · (try dsimp only)
              go_keep
            clear hK K
            try simp only [Act.put, List.setIfInBounds_toArray, List.set_cons_zero, List.set_cons_succ]
            refine wpAnyH_done (by kernel_rfl) ?_ _
            go_wp2_with fail
            go_end0
            obtain ⟨L', k5, s5, n5⟩ := (hK4.out.below (((Below.refl W4.heap.size W4).alloc (Nat.le_refl _) (.cells #[.int .i64 m] 3)).drew)).putListN (f := (· ++ [(m : Int)])) (show p < 72 by omega) (by rw [(holder_row hp32).1]; trivial) hv5 (fun b hb hne => hs5 b hb (hgnot b hne)) (fun b hb => hgis b _ hb hg5) (by simp; omega)
            rw [(holder_row hp32).1, (holder_row hp32).2] at k5
            try rw [ebk] at k5
            rw [List.length_append, List.length_singleton] at k5
            rw [EW.out]
            exact ⟨rfl, L', k5, HS.out.trans s5, wakeBelow HB4.out hBW4 hgr5 (fun b hb => by rw [hgl] at hb; split at hb; cases hb; obtain rfl := Option.some.inj hb; rename_i hn; exact HK.out.low (.l p) ⟨by omega, by simpa using hn⟩) (HK.out.low .ker trivial), HN4.out.trans n5 (by have := HZ4.out; simp; omega), fun g hg => by
              obtain ⟨og, fg⟩ := HO4.out g hg
              exact (Below.heap_setCell _ _ _ _ (fun e => hg.2 .ker trivial e.symm)).trans ((hs5 g (by have := og.1; simp; omega) (hgnot g (fun hn e => og.2 (.l p) ⟨by omega, hn⟩ e.symm))).trans ((Below.heap_alloc W4 _ g og.1).trans fg))⟩
          exact AllReadyH.nil
        exact AllReadyH.nil
      exact AllReadyH.nil
    refine AllReadyH.cons rfl (fun K hK => ?_) ?_
    · go_simp
      refine hK.out _ _ ?_ (fun hHeld => ?_)
      · (try dsimp only)
        go_keep
      clear hK K
      try simp only [Act.put, List.setIfInBounds_toArray, List.set_cons_zero, List.set_cons_succ]
      refine wpAnyH_ready (rs := [13]) (by kernel_rfl) (by simp) ?_
      refine AllReadyH.cons rfl (fun K hK => ?_) ?_
      · go_simp
        refine hK.out _ _ ?_ (fun hHeld => ?_)
        · (try dsimp only)
          go_keep
        clear hK K
        try simp only [Act.put, List.setIfInBounds_toArray, List.set_cons_zero, List.set_cons_succ]
        refine wpAnyH_ready (rs := [16]) (by kernel_rfl) (by simp) ?_
        refine AllReadyH.cons rfl (fun K hK => ?_) ?_
        · (refine step_append_list rfl _ _ rfl (by rfl) HLA.out hlen5 (m : Int) ⟨W4.heap.size, 0, none⟩ 1 (by rfl) (by exact hnew) ?_; intro v' w5 hap; obtain ⟨g5, hv5, hg5, hs5, hgr5⟩ := hap; obtain ⟨A5, c5, e5⟩ := hv5.slice; subst e5; have z1 : w5.cell? ⟨L.b (.t m), 2, none⟩ = some (.int .i64 p) := (World.cell?_of_block (a := ⟨L.b (.t m), 2, none⟩) (hs5 _ (by simp; omega) hneT)).trans c42a; have z2 := (World.cell?_of_block (a := ⟨L.b .ker, 4 + p, none⟩) (hs5 _ (by simp; omega) hneK)).trans c43a; have z3 := (World.frozen?_of_block (a := ⟨L.b .ker, 4 + p, none⟩) (hs5 _ (by simp; omega) hneK)).trans c44a)
          refine hK.out _ _ ?_ (fun hHeld => ?_)
          · (try dsimp only)
            go_keep
          clear hK K
          try simp only [Act.put, List.setIfInBounds_toArray]
          refine wpAnyH_take (i := 19) (v := ?_) rfl (by kernel_rfl) (by kernel_rfl) (by kernel_rfl) (fun _ _ _ h => h) (Or.inl ⟨by rfl, ?_⟩) (by assumption) ?_
          rotate_left
          · intro w hSw
            (try dsimp only at hSw)
            go_simp
            with_reducible rfl
          try simp only [Act.put]
          refine wpAnyH_ready (rs := [20]) (by kernel_rfl) (by simp) ?_
          refine AllReadyH.cons rfl (fun K hK => ?_) ?_
          · go_simp
            refine hK.out _ _ ?_ (fun hHeld => ?_)
            · (try dsimp only)
              go_keep
            clear hK K
            try simp only [Act.put, List.setIfInBounds_toArray, List.set_cons_zero, List.set_cons_succ]
            refine wpAnyH_done (by kernel_rfl) ?_ _
            go_wp2_with fail
            go_end0
            obtain ⟨L', k5, s5, n5⟩ := (hK4.out.below (((Below.refl W4.heap.size W4).alloc (Nat.le_refl _) (.cells #[.int .i64 m] 3)).drew)).putListN (f := (· ++ [(m : Int)])) (show p < 72 by omega) (by rw [(holder_row hp32).1]; trivial) hv5 (fun b hb hne => hs5 b hb (hgnot b hne)) (fun b hb => hgis b _ hb hg5) (by simp; omega)
            rw [(holder_row hp32).1, (holder_row hp32).2] at k5
            try rw [ebk] at k5
            rw [List.length_append, List.length_singleton] at k5
            rw [EW.out]
            exact ⟨rfl, L', k5, HS.out.trans s5, wakeBelow HB4.out hBW4 hgr5 (fun b hb => by rw [hgl] at hb; split at hb; cases hb; obtain rfl := Option.some.inj hb; rename_i hn; exact HK.out.low (.l p) ⟨by omega, by simpa using hn⟩) (HK.out.low .ker trivial), HN4.out.trans n5 (by have := HZ4.out; simp; omega), fun g hg => by
              obtain ⟨og, fg⟩ := HO4.out g hg
              exact (Below.heap_setCell _ _ _ _ (fun e => hg.2 .ker trivial e.symm)).trans ((hs5 g (by have := og.1; simp; omega) (hgnot g (fun hn e => og.2 (.l p) ⟨by omega, hn⟩ e.symm))).trans ((Below.heap_alloc W4 _ g og.1).trans fg))⟩
          exact AllReadyH.nil
        exact AllReadyH.nil
      exact AllReadyH.nil
    exact AllReadyH.nil
  · rcases hon x hq with ⟨i, rfl, hi⟩ | ⟨i, rfl, hi⟩ | ⟨i, rfl, hi⟩ | ⟨i, rfl, hi⟩
    · have hi8 : i < 8 := by have := h.few; omega
      have EW : Hid (k.wake m answer = ((k.setL (32 + i) (·.erase (m : Int))).setT m fun t => { t with state := 0, answer := answer, on := none, left := 0 }).setL p (· ++ [(m : Int)])) := by
        show _ = _
        unfold Kn.K.wake
        rw [show (k.t m).on = some (32 + i) from hq]
        simp only []
        show Kn.K.setL _ ((kT _ m).prio).toNat _ = _
        rw [kT_set (k := k.setL (32 + i) (·.erase (m : Int))) hm]
        show Kn.K.setL _ ((kT k m).prio).toNat _ = _
        rw [hp]
        rfl
      obtain ⟨q1, q2⟩ := holder_sem hi8
      rw [hq, on_sem hi8] at h2
      obtain ⟨hd1, hd2⟩ := h.headCell (x := 32 + i) (by omega) (by rw [q1]; exact hi)
      rw [q1, q2] at hd1 hd2
      have HW := Lib.hid (without_any (w := w) (m : Int) (h.head (x := 32 + i) (by omega)) (by have := hf.len (32 + i); omega))
      have hmt := method_sem ⟨L.b (.s i), 0, none⟩
      have hlt := h.lt (c := .s i) hi
      have hlowS := h.low (.s i) hi
      generalize hVx : L.hd (.l (32 + i)) (k.l (32 + i)).length = Vx at *
      clear h hf hp hq p0 p1 hon
      go_enter Try.func55, Try.ntmps55
      go_wp2_with fail
      refine (line_sem _ _).mono ?_
      rintro e w1 ⟨rfl, rfl⟩
      go_wp2_with fail
      refine HW.out.mono ?_
      rintro e w1 ⟨v', g', rfl, hv', hg', hb'⟩
      obtain ⟨A', c', e'⟩ := hv'.slice
      subst e'
      have y1 := (hb'.cell (p := ⟨L.b (.s i), 1, none⟩) hlt).trans hd1
      have y2 := (World.frozen?_of_block (a := ⟨L.b (.s i), 1, none⟩) (hb'.block _ hlt)).trans hd2
      go_upto_region 4 with fail
      obtain ⟨L1, hk1, hs1, hn1⟩ := HK.out.putListN (f := (·.erase (m : Int))) (x := 32 + i) (by omega) (by rw [q1]; exact hi) hv' (fun b hb _ => hb'.block b hb) (fun b hb => own_or hb hg') hB
      rw [q1, q2] at hk1
      have hbw : Below B w (w1.setCell ⟨L.b (.s i), 1, none⟩ (.slice A' ((k.l (32 + i)).erase (m : Int)).length c')) := ((Below.refl B w).trans (hb'.mono hB)).setCell hlowS _
      have HN1 := Lib.hid hn1
      have hf1 : ∀ g, Out w k L g → (w1.setCell ⟨L.b (.s i), 1, none⟩ (.slice A' ((k.l (32 + i)).erase (m : Int)).length c')).heap[g]? = w.heap[g]? := fun g hg => (Below.heap_setCell _ _ _ _ (fun e => hg.2 (.s i) hi e.symm)).trans (hb'.block g hg.1)
      obtain ⟨W, hWW⟩ : ∃ W, W = w1.setCell ⟨L.b (.s i), 1, none⟩ (.slice A' ((k.l (32 + i)).erase (m : Int)).length c') := ⟨_, rfl⟩
      rw [← hWW] at hk1 hbw hf1 ⊢
      have HF1 := Lib.hid hf1
      have HK1 := Lib.hid hk1
      have HS1 := Lib.hid hs1
      have HB1 := Lib.hid hbw
      clear hk1 hs1 hn1 hf1 hbw hWW y1 y2 hv' hg' hb' HW hVx hd1 hd2
      have hm1 : m < (k.setL (32 + i) (·.erase (m : Int))).tasks.length := hm
      have ebt : L1.b (.t m) = L.b (.t m) := HS1.out (.t m) rfl
      have ebk : L1.b .ker = L.b .ker := HS1.out .ker rfl
      have wt := HK1.out.task hm1
      rw [ebt] at wt
      have t2 : W.cell? ⟨L.b (.t m), 2, none⟩ = some (.int .i64 (kT k m).prio) := wt.cell 2
      rw [HP.out] at t2
      have t3 : W.cell? ⟨L.b (.t m), 3, none⟩ = some (.int .i64 (kT k m).state) := wt.cell 3
      have t5 : W.cell? ⟨L.b (.t m), 5, none⟩ = some (.int .i64 (kT k m).answer) := wt.cell 5
      have t7 : W.cell? ⟨L.b (.t m), 7, none⟩ = some (L1.on (kT k m).on) := wt.cell 7
      have t8 : W.cell? ⟨L.b (.t m), 8, none⟩ = some (.int .i64 (kT k m).left) := wt.cell 8
      have f3 := wt.frozen 3
      have f5 := wt.frozen 5
      have f7 := wt.frozen 7
      have f8 := wt.frozen 8
      have hlen1 := HF.out.len p
      have WT := Lib.hid wt
      clear wt
      go_upto_region 5 with fail
      obtain ⟨W4, hW4⟩ : ∃ W4, W4 = (((W.setCell ⟨L.b (.t m), 3, none⟩ (.int .i64 0)).setCell ⟨L.b (.t m), 5, none⟩ (.int .i64 answer)).setCell ⟨L.b (.t m), 7, none⟩ .nilIface).setCell ⟨L.b (.t m), 8, none⟩ (.int .i64 0) := ⟨_, rfl⟩
      rw [← hW4]
      have hz4 : Hid (W4.heap.size = W.heap.size) := by show _ = _; rw [hW4]; simp only [World.size_setCell]
      have hK4 : Hid (KM W4 B ((k.setL (32 + i) (·.erase (m : Int))).setT m fun t => { t with state := 0, answer := answer, on := none, left := 0 }) L1) := by
        show KM _ _ _ _
        refine HK1.out.setTask hm1 rfl rfl (fun g hg _ => ?_) ?_
        · rw [ebt] at hg
          rw [hW4, Below.heap_setCell _ _ _ _ hg, Below.heap_setCell _ _ _ _ hg, Below.heap_setCell _ _ _ _ hg, Below.heap_setCell _ _ _ _ hg]
        · rw [ebt, hW4]
          have hq4 := (((WT.out.put 3 (.int .i64 0)).put 5 (.int .i64 answer)).put 7 .nilIface).put 8 (.int .i64 0)
          have e4 : taskCells ((k.setL (32 + i) (·.erase (m : Int))).setT m fun t => { t with state := 0, answer := answer, on := none, left := 0 }) L1 m = ((((taskCells (k.setL (32 + i) (·.erase (m : Int))) L1 m).setIfInBounds 3 (.int .i64 0)).setIfInBounds 5 (.int .i64 answer)).setIfInBounds 7 .nilIface).setIfInBounds 8 (.int .i64 0) := by
            unfold taskCells
            rw [kT_set hm1]
            rfl
          rw [e4]
          exact hq4
      have hlowT := HK.out.low (.t m) hm
      have hB4 : Below B w W4 := by rw [hW4]; exact (((HB1.out.setCell (p := ⟨L.b (.t m), 3, none⟩) hlowT _).setCell (p := ⟨L.b (.t m), 5, none⟩) hlowT _).setCell (p := ⟨L.b (.t m), 7, none⟩) hlowT _).setCell (p := ⟨L.b (.t m), 8, none⟩) hlowT _
      have hBW4 : B ≤ W4.heap.size := by have := HB1.out.size; have := hz4.out; omega
      have c42 : W4.cell? ⟨L.b (.t m), 2, none⟩ = some (.int .i64 p) := by
        have q := (hK4.out.task (i := m) (by rw [setT_len]; exact hm1)).cell 2
        rw [ebt] at q
        rw [q]
        show some (Value.int .i64 (kT ((k.setL (32 + i) (·.erase (m : Int))).setT m _) m).prio) = _
        rw [kT_set hm1]
        show some (Value.int .i64 (kT k m).prio) = _
        rw [HP.out]
      have c43 := hK4.out.row hp32
      rw [ebk] at c43
      have c44 : W4.frozen? ⟨L.b .ker, 4 + p, none⟩ = false := by have := hK4.out.ker.frozen (4 + p); rw [ebk] at this; exact this
      have hltT : L.b (.t m) < W4.heap.size := by have := hK4.out.lt (c := .t m) (by simp [Part.live, setT_len]; exact hm1); rw [ebt] at this; exact this
      have hltK : L.b .ker < W4.heap.size := by have := hK4.out.lt (c := .ker) trivial; rw [ebk] at this; exact this
      obtain ⟨gl, hgl⟩ : ∃ gl, gl = (if L1.nil (.l p) then none else some (L1.b (.l p))) := ⟨_, rfl⟩
      have hLH := hK4.out.head (x := p) (by omega)
      rw [← hgl] at hLH
      have hgis : ∀ b (g5 : Option Nat), g5 = some b → (g5 = gl ∨ ∃ x, g5 = some x ∧ ((W4.alloc (.cells #[.int .i64 m] 3)).drew).heap.size ≤ x) → (L1.nil (.l p) = false ∧ b = L1.b (.l p)) ∨ ((W4.alloc (.cells #[.int .i64 m] 3)).drew).heap.size ≤ b := by
        intro b g5 hb hg
        rcases hg with hg | ⟨x, hg, hx⟩
        · rw [hb, hgl] at hg
          cases hn : L1.nil (.l p) with
          | true => rw [hn, if_pos rfl] at hg; cases hg
          | false => rw [hn] at hg; exact .inl ⟨rfl, by simpa using hg⟩
        · rw [hb] at hg
          obtain rfl := Option.some.inj hg
          exact .inr hx
      have hgnot : ∀ b, (L1.nil (.l p) = false → b ≠ L1.b (.l p)) → gl ≠ some b := by
        intro b hne e
        rw [hgl] at e
        cases hn : L1.nil (.l p) with
        | true => rw [hn, if_pos rfl] at e; cases e
        | false => rw [hn] at e; exact hne hn (by simpa using e.symm)
      have hneT : gl ≠ some (L.b (.t m)) := hgnot _ fun hn e => by
        have := hK4.out.apart (.t m) (.l p) (by simp [Part.live, setT_len]; exact hm1) ⟨by omega, hn⟩ (by rw [ebt]; exact e)
        cases this
      have hneK : gl ≠ some (L.b .ker) := hgnot _ fun hn e => by
        have := hK4.out.apart .ker (.l p) trivial ⟨by omega, hn⟩ (by rw [ebk]; exact e)
        cases this
      have HLA : Hid (LHead ((W4.alloc (.cells #[.int .i64 m] 3)).drew) (L1.hd (.l p) (((k.setL (32 + i) (·.erase (m : Int))).setT m fun t => { t with state := 0, answer := answer, on := none, left := 0 }).l p).length) (((k.setL (32 + i) (·.erase (m : Int))).setT m fun t => { t with state := 0, answer := answer, on := none, left := 0 }).l p) gl) := hLH.keep fun b hb => Below.heap_alloc W4 _ b hb
      have hlen5 : (((k.setL (32 + i) (·.erase (m : Int))).setT m fun t => { t with state := 0, answer := answer, on := none, left := 0 }).l p).length ≤ 1000000 := by show ((k.setL (32 + i) _).l p).length ≤ 1000000; rw [setL_other (by omega)]; omega
      have hnew : ((W4.alloc (.cells #[.int .i64 m] 3)).drew).cell? ⟨W4.heap.size, 0, none⟩ = some (.int .i64 m) := (Whole.made W4 3 #[.int .i64 m]).cell 0
      generalize hVV : L1.hd (.l p) (((k.setL (32 + i) (·.erase (m : Int))).setT m fun t => { t with state := 0, answer := answer, on := none, left := 0 }).l p).length = VV at *
      have c42a : ((W4.alloc (.cells #[.int .i64 m] 3)).drew).cell? ⟨L.b (.t m), 2, none⟩ = some (.int .i64 p) := (World.cell?_alloc_lt W4 _ ⟨L.b (.t m), 2, none⟩ hltT).trans c42
      have c43a : ((W4.alloc (.cells #[.int .i64 m] 3)).drew).cell? ⟨L.b .ker, 4 + p, none⟩ = some VV := (World.cell?_alloc_lt W4 _ ⟨L.b .ker, 4 + p, none⟩ hltK).trans c43
      have c44a : ((W4.alloc (.cells #[.int .i64 m] 3)).drew).frozen? ⟨L.b .ker, 4 + p, none⟩ = false := (World.frozen?_of_block (a := ⟨L.b .ker, 4 + p, none⟩) (Below.heap_alloc W4 _ _ hltK)).trans c44
      have hkt : L.b .ker ≠ L.b (.t m) := fun e => by cases HK.out.apart .ker (.t m) trivial hm e
      have hkt' : L.b (.t m) ≠ L.b .ker := fun e => hkt e.symm
      have HO4 : Hid (∀ g, Out w k L g → Out W4 (((k.setL (32 + i) (·.erase (m : Int))).setT m fun t => { t with state := 0, answer := answer, on := none, left := 0 })) L1 g ∧ W4.heap[g]? = w.heap[g]?) := fun g hg => by
        have hne : g ≠ L.b (.t m) := fun e => hg.2 (.t m) hm e.symm
        refine ⟨Out.near (w' := W4) hg (HN1.out.trans (setT_near (N := w.heap.size) hm1 rfl) (Nat.le_refl _)) (by rw [hz4.out]; exact HB1.out.size), ?_⟩
        rw [hW4, Below.heap_setCell _ _ _ _ hne, Below.heap_setCell _ _ _ _ hne, Below.heap_setCell _ _ _ _ hne, Below.heap_setCell _ _ _ _ hne]
        exact HF1.out g hg
      have HN4 : Hid (Near w.heap.size k L (((k.setL (32 + i) (·.erase (m : Int))).setT m fun t => { t with state := 0, answer := answer, on := none, left := 0 })) L1) := HN1.out.trans (setT_near (N := w.heap.size) hm1 rfl) (Nat.le_refl _)
      have HZ4 : Hid (w.heap.size ≤ W4.heap.size) := by show _ ≤ _; rw [hz4.out]; exact HB1.out.size
      have HB4 := Lib.hid hB4
      clear hB4 hLH hVV hW4 t2 t3 t5 t7 t8 f3 f5 f7 f8
      refine wp_region_held_drew (S := fun w' => w'.cell? ⟨L.b (.t m), 2, none⟩ = some (.int .i64 p)) (by kernel_rfl) ?_ (fun hHeld => ?_)
      · (try dsimp only)
        go_keep
      refine wpAnyH_take (i := 0) (v := ?_) rfl (by kernel_rfl) (by kernel_rfl) (by kernel_rfl) (fun _ _ _ h => h) (Or.inl ⟨by rfl, ?_⟩) (by assumption) ?_
      rotate_left
      · intro w hSw
        (try dsimp only at hSw)
        go_simp
        with_reducible rfl
      try simp only [Act.put, List.setIfInBounds_toArray]
      refine wpAnyH_take (i := 1) (v := ?_) rfl (by kernel_rfl) (by kernel_rfl) (by kernel_rfl) (fun _ _ _ h => h) (Or.inl ⟨by rfl, ?_⟩) (by assumption) ?_
      rotate_left
      · intro w hSw
        (try dsimp only at hSw)
        go_simp
        with_reducible rfl
      try simp only [Act.put]
      refine wpAnyH_take (i := 2) (v := ?_) rfl (by kernel_rfl) (by kernel_rfl) (by kernel_rfl) (fun _ _ _ h => h) (Or.inl ⟨by rfl, ?_⟩) (by assumption) ?_
      rotate_left
      · intro w hSw
        (try dsimp only at hSw)
        go_simp
        with_reducible rfl
      try simp only [Act.put]
      refine wpAnyH_take (i := 3) (v := ?_) rfl (by kernel_rfl) (by kernel_rfl) (by kernel_rfl) (fun _ _ _ h => h) (Or.inl ⟨by rfl, ?_⟩) (by assumption) ?_
      rotate_left
      · intro w hSw
        (try dsimp only at hSw)
        go_simp
        with_reducible rfl
      try simp only [Act.put]
      refine wpAnyH_take (i := 4) (v := ?_) rfl (by kernel_rfl) (by kernel_rfl) (by kernel_rfl) (fun _ _ _ h => h) (Or.inl ⟨by rfl, ?_⟩) (by assumption) ?_
      rotate_left
      · intro w hSw
        (try dsimp only at hSw)
        go_simp
        with_reducible rfl
      try simp only [Act.put]
      refine wpAnyH_take (i := 5) (v := ?_) rfl (by kernel_rfl) (by kernel_rfl) (by kernel_rfl) (fun _ _ _ h => h) (Or.inl ⟨by rfl, ?_⟩) (by assumption) ?_
      rotate_left
      · intro w hSw
        (try dsimp only at hSw)
        go_simp
        with_reducible rfl
      try simp only [Act.put]
      refine wpAnyH_take (i := 6) (v := ?_) rfl (by kernel_rfl) (by kernel_rfl) (by kernel_rfl) (fun _ _ _ h => h) (Or.inl ⟨by rfl, ?_⟩) (by assumption) ?_
      rotate_left
      · intro w hSw
        (try dsimp only at hSw)
        go_simp
        with_reducible rfl
      try simp only [Act.put]
      refine wpAnyH_take (i := 7) (v := ?_) rfl (by kernel_rfl) (by kernel_rfl) (by kernel_rfl) (fun _ _ _ h => h) (Or.inl ⟨by rfl, ?_⟩) (by assumption) ?_
      rotate_left
      · intro w hSw
        (try dsimp only at hSw)
        go_simp
        with_reducible rfl
      try simp only [Act.put]
      refine wpAnyH_take (i := 8) (v := ?_) rfl (by kernel_rfl) (by kernel_rfl) (by kernel_rfl) (fun _ _ _ h => h) (Or.inl ⟨by rfl, ?_⟩) (by assumption) ?_
      rotate_left
      · intro w hSw
        (try dsimp only at hSw)
        go_simp
        with_reducible rfl
      try simp only [Act.put]
      refine wpAnyH_take (i := 9) (v := ?_) rfl (by kernel_rfl) (by kernel_rfl) (by kernel_rfl) (fun _ _ _ h => h) (Or.inl ⟨by rfl, ?_⟩) (by assumption) ?_
      rotate_left
      · intro w hSw
        (try dsimp only at hSw)
        go_simp
        with_reducible rfl
      try simp only [Act.put]
      refine wpAnyH_take (i := 10) (v := ?_) rfl (by kernel_rfl) (by kernel_rfl) (by kernel_rfl) (fun _ _ _ h => h) (Or.inl ⟨by rfl, ?_⟩) (by assumption) ?_
      rotate_left
      · intro w hSw
        (try dsimp only at hSw)
        go_simp
        with_reducible rfl
      try simp only [Act.put]
      refine wpAnyH_take (i := 11) (v := ?_) rfl (by kernel_rfl) (by kernel_rfl) (by kernel_rfl) (fun _ _ _ h => h) (Or.inl ⟨by rfl, ?_⟩) (by assumption) ?_
      rotate_left
      · intro w hSw
        (try dsimp only at hSw)
        go_simp
        with_reducible rfl
      try simp only [Act.put]
      refine wpAnyH_take (i := 12) (v := ?_) rfl (by kernel_rfl) (by kernel_rfl) (by kernel_rfl) (fun _ _ _ h => h) (Or.inl ⟨by rfl, ?_⟩) (by assumption) ?_
      rotate_left
      · intro w hSw
        (try dsimp only at hSw)
        go_simp
        with_reducible rfl
      try simp only [Act.put]
      refine wpAnyH_take (i := 14) (v := ?_) rfl (by kernel_rfl) (by kernel_rfl) (by kernel_rfl) (fun _ _ _ h => h) (Or.inl ⟨by rfl, ?_⟩) (by assumption) ?_
      rotate_left
      · intro w hSw
        (try dsimp only at hSw)
        go_simp
        with_reducible rfl
      try simp only [Act.put]
      refine wpAnyH_take (i := 17) (v := ?_) rfl (by kernel_rfl) (by kernel_rfl) (by kernel_rfl) (fun _ _ _ h => h) (Or.inl ⟨by rfl, ?_⟩) (by assumption) ?_
      rotate_left
      · intro w hSw
        (try dsimp only at hSw)
        go_simp
        with_reducible rfl
      try simp only [Act.put]
      refine wpAnyH_take (i := 18) (v := ?_) rfl (by kernel_rfl) (by kernel_rfl) (by kernel_rfl) (fun _ _ _ h => h) (Or.inl ⟨by rfl, ?_⟩) (by assumption) ?_
      rotate_left
      · intro w hSw
        (try dsimp only at hSw)
        go_simp
        with_reducible rfl
      try simp only [Act.put]
      refine wpAnyH_ready (rs := [13, 15]) (by kernel_rfl) (by simp) ?_
      refine AllReadyH.cons rfl (fun K hK => ?_) ?_
      · go_simp
        refine hK.out _ _ ?_ (fun hHeld => ?_)
        · (try dsimp only)
          go_keep
        clear hK K
        try simp only [Act.put, List.setIfInBounds_toArray, List.set_cons_zero, List.set_cons_succ]
        refine wpAnyH_ready (rs := [15]) (by kernel_rfl) (by simp) ?_
        refine AllReadyH.cons rfl (fun K hK => ?_) ?_
        · go_simp
          refine hK.out _ _ ?_ (fun hHeld => ?_)
          · (try dsimp only)
            go_keep
          clear hK K
          try simp only [Act.put, List.setIfInBounds_toArray, List.set_cons_zero, List.set_cons_succ]
          refine wpAnyH_ready (rs := [16]) (by kernel_rfl) (by simp) ?_
          refine AllReadyH.cons rfl (fun K hK => ?_) ?_
          · (refine step_append_list rfl _ _ rfl (by rfl) HLA.out hlen5 (m : Int) ⟨W4.heap.size, 0, none⟩ 1 (by rfl) (by exact hnew) ?_; intro v' w5 hap; obtain ⟨g5, hv5, hg5, hs5, hgr5⟩ := hap; obtain ⟨A5, c5, e5⟩ := hv5.slice; subst e5; have z1 : w5.cell? ⟨L.b (.t m), 2, none⟩ = some (.int .i64 p) := (World.cell?_of_block (a := ⟨L.b (.t m), 2, none⟩) (hs5 _ (by simp; omega) hneT)).trans c42a; have z2 := (World.cell?_of_block (a := ⟨L.b .ker, 4 + p, none⟩) (hs5 _ (by simp; omega) hneK)).trans c43a; have z3 := (World.frozen?_of_block (a := ⟨L.b .ker, 4 + p, none⟩) (hs5 _ (by simp; omega) hneK)).trans c44a)
            refine hK.out _ _ ?_ (fun hHeld => ?_)
            · (try dsimp only)
              go_keep
            clear hK K
            try simp only [Act.put, List.setIfInBounds_toArray]
            refine wpAnyH_take (i := 19) (v := ?_) rfl (by kernel_rfl) (by kernel_rfl) (by kernel_rfl) (fun _ _ _ h => h) (Or.inl ⟨by rfl, ?_⟩) (by assumption) ?_
            rotate_left
            · intro w hSw
              (try dsimp only at hSw)
              go_simp
              with_reducible rfl
            try simp only [Act.put]
            refine wpAnyH_ready (rs := [20]) (by kernel_rfl) (by simp) ?_
            refine AllReadyH.cons rfl (fun K hK => ?_) ?_
            · go_simp
              refine hK.out _ _ ?_ (fun hHeld => ?_)
              · (try dsimp only)
                go_keep
              clear hK K
              try simp only [Act.put, List.setIfInBounds_toArray, List.set_cons_zero, List.set_cons_succ]
              refine wpAnyH_done (by kernel_rfl) ?_ _
              go_wp2_with fail
              go_end0
              obtain ⟨L', k5, s5, n5⟩ := (hK4.out.below (((Below.refl W4.heap.size W4).alloc (Nat.le_refl _) (.cells #[.int .i64 m] 3)).drew)).putListN (f := (· ++ [(m : Int)])) (show p < 72 by omega) (by rw [(holder_row hp32).1]; trivial) hv5 (fun b hb hne => hs5 b hb (hgnot b hne)) (fun b hb => hgis b _ hb hg5) (by simp; omega)
              rw [(holder_row hp32).1, (holder_row hp32).2] at k5
              try rw [ebk] at k5
              rw [List.length_append, List.length_singleton] at k5
              rw [EW.out]
              exact ⟨rfl, L', k5, HS1.out.trans s5, wakeBelow HB4.out hBW4 hgr5 (fun b hb => by rw [hgl] at hb; split at hb; cases hb; obtain rfl := Option.some.inj hb; rename_i hn; exact HK1.out.low (.l p) ⟨by omega, by simpa using hn⟩) (HK.out.low .ker trivial), HN4.out.trans n5 (by have := HZ4.out; simp; omega), fun g hg => by
                obtain ⟨og, fg⟩ := HO4.out g hg
                exact (Below.heap_setCell _ _ _ _ (fun e => hg.2 .ker trivial e.symm)).trans ((hs5 g (by have := og.1; simp; omega) (hgnot g (fun hn e => og.2 (.l p) ⟨by omega, hn⟩ e.symm))).trans ((Below.heap_alloc W4 _ g og.1).trans fg))⟩
            exact AllReadyH.nil
          exact AllReadyH.nil
        exact AllReadyH.nil
      refine AllReadyH.cons rfl (fun K hK => ?_) ?_
      · go_simp
        refine hK.out _ _ ?_ (fun hHeld => ?_)
        · (try dsimp only)
          go_keep
        clear hK K
        try simp only [Act.put, List.setIfInBounds_toArray, List.set_cons_zero, List.set_cons_succ]
        refine wpAnyH_ready (rs := [13]) (by kernel_rfl) (by simp) ?_
        refine AllReadyH.cons rfl (fun K hK => ?_) ?_
        · go_simp
          refine hK.out _ _ ?_ (fun hHeld => ?_)
          · (try dsimp only)
            go_keep
          clear hK K
          try simp only [Act.put, List.setIfInBounds_toArray, List.set_cons_zero, List.set_cons_succ]
          refine wpAnyH_ready (rs := [16]) (by kernel_rfl) (by simp) ?_
          refine AllReadyH.cons rfl (fun K hK => ?_) ?_
          · (refine step_append_list rfl _ _ rfl (by rfl) HLA.out hlen5 (m : Int) ⟨W4.heap.size, 0, none⟩ 1 (by rfl) (by exact hnew) ?_; intro v' w5 hap; obtain ⟨g5, hv5, hg5, hs5, hgr5⟩ := hap; obtain ⟨A5, c5, e5⟩ := hv5.slice; subst e5; have z1 : w5.cell? ⟨L.b (.t m), 2, none⟩ = some (.int .i64 p) := (World.cell?_of_block (a := ⟨L.b (.t m), 2, none⟩) (hs5 _ (by simp; omega) hneT)).trans c42a; have z2 := (World.cell?_of_block (a := ⟨L.b .ker, 4 + p, none⟩) (hs5 _ (by simp; omega) hneK)).trans c43a; have z3 := (World.frozen?_of_block (a := ⟨L.b .ker, 4 + p, none⟩) (hs5 _ (by simp; omega) hneK)).trans c44a)
            refine hK.out _ _ ?_ (fun hHeld => ?_)
            · (try dsimp only)
              go_keep
            clear hK K
            try simp only [Act.put, List.setIfInBounds_toArray]
            refine wpAnyH_take (i := 19) (v := ?_) rfl (by kernel_rfl) (by kernel_rfl) (by kernel_rfl) (fun _ _ _ h => h) (Or.inl ⟨by rfl, ?_⟩) (by assumption) ?_
            rotate_left
            · intro w hSw
              (try dsimp only at hSw)
              go_simp
              with_reducible rfl
            try simp only [Act.put]
            refine wpAnyH_ready (rs := [20]) (by kernel_rfl) (by simp) ?_
            refine AllReadyH.cons rfl (fun K hK => ?_) ?_
            · go_simp
              refine hK.out _ _ ?_ (fun hHeld => ?_)
              · (try dsimp only)
                go_keep
              clear hK K
              try simp only [Act.put, List.setIfInBounds_toArray, List.set_cons_zero, List.set_cons_succ]
              refine wpAnyH_done (by kernel_rfl) ?_ _
              go_wp2_with fail
              go_end0
              obtain ⟨L', k5, s5, n5⟩ := (hK4.out.below (((Below.refl W4.heap.size W4).alloc (Nat.le_refl _) (.cells #[.int .i64 m] 3)).drew)).putListN (f := (· ++ [(m : Int)])) (show p < 72 by omega) (by rw [(holder_row hp32).1]; trivial) hv5 (fun b hb hne => hs5 b hb (hgnot b hne)) (fun b hb => hgis b _ hb hg5) (by simp; omega)
              rw [(holder_row hp32).1, (holder_row hp32).2] at k5
              try rw [ebk] at k5
              rw [List.length_append, List.length_singleton] at k5
              rw [EW.out]
              exact ⟨rfl, L', k5, HS1.out.trans s5, wakeBelow HB4.out hBW4 hgr5 (fun b hb => by rw [hgl] at hb; split at hb; cases hb; obtain rfl := Option.some.inj hb; rename_i hn; exact HK1.out.low (.l p) ⟨by omega, by simpa using hn⟩) (HK.out.low .ker trivial), HN4.out.trans n5 (by have := HZ4.out; simp; omega), fun g hg => by
                obtain ⟨og, fg⟩ := HO4.out g hg
                exact (Below.heap_setCell _ _ _ _ (fun e => hg.2 .ker trivial e.symm)).trans ((hs5 g (by have := og.1; simp; omega) (hgnot g (fun hn e => og.2 (.l p) ⟨by omega, hn⟩ e.symm))).trans ((Below.heap_alloc W4 _ g og.1).trans fg))⟩
            exact AllReadyH.nil
          exact AllReadyH.nil
        exact AllReadyH.nil
      exact AllReadyH.nil
    · have hi8 : i < 8 := by have := h.few; omega
      have EW : Hid (k.wake m answer = ((k.setL (40 + i) (·.erase (m : Int))).setT m fun t => { t with state := 0, answer := answer, on := none, left := 0 }).setL p (· ++ [(m : Int)])) := by
        show _ = _
        unfold Kn.K.wake
        rw [show (k.t m).on = some (40 + i) from hq]
        simp only []
        show Kn.K.setL _ ((kT _ m).prio).toNat _ = _
        rw [kT_set (k := k.setL (40 + i) (·.erase (m : Int))) hm]
        show Kn.K.setL _ ((kT k m).prio).toNat _ = _
        rw [hp]
        rfl
      obtain ⟨q1, q2⟩ := holder_mutex hi8
      rw [hq, on_mutex hi8] at h2
      obtain ⟨hd1, hd2⟩ := h.headCell (x := 40 + i) (by omega) (by rw [q1]; exact hi)
      rw [q1, q2] at hd1 hd2
      have HW := Lib.hid (without_any (w := w) (m : Int) (h.head (x := 40 + i) (by omega)) (by have := hf.len (40 + i); omega))
      have hmt := method_mutex ⟨L.b (.m i), 0, none⟩
      have hlt := h.lt (c := .m i) hi
      have hlowS := h.low (.m i) hi
      generalize hVx : L.hd (.l (40 + i)) (k.l (40 + i)).length = Vx at *
      clear h hf hp hq p0 p1 hon
      go_enter Try.func55, Try.ntmps55
      go_wp2_with fail
      refine (line_mutex _ _).mono ?_
      rintro e w1 ⟨rfl, rfl⟩
      go_wp2_with fail
      refine HW.out.mono ?_
      rintro e w1 ⟨v', g', rfl, hv', hg', hb'⟩
      obtain ⟨A', c', e'⟩ := hv'.slice
      subst e'
      have y1 := (hb'.cell (p := ⟨L.b (.m i), 1, none⟩) hlt).trans hd1
      have y2 := (World.frozen?_of_block (a := ⟨L.b (.m i), 1, none⟩) (hb'.block _ hlt)).trans hd2
      go_upto_region 4 with fail
      obtain ⟨L1, hk1, hs1, hn1⟩ := HK.out.putListN (f := (·.erase (m : Int))) (x := 40 + i) (by omega) (by rw [q1]; exact hi) hv' (fun b hb _ => hb'.block b hb) (fun b hb => own_or hb hg') hB
      rw [q1, q2] at hk1
      have hbw : Below B w (w1.setCell ⟨L.b (.m i), 1, none⟩ (.slice A' ((k.l (40 + i)).erase (m : Int)).length c')) := ((Below.refl B w).trans (hb'.mono hB)).setCell hlowS _
      have HN1 := Lib.hid hn1
      have hf1 : ∀ g, Out w k L g → (w1.setCell ⟨L.b (.m i), 1, none⟩ (.slice A' ((k.l (40 + i)).erase (m : Int)).length c')).heap[g]? = w.heap[g]? := fun g hg => (Below.heap_setCell _ _ _ _ (fun e => hg.2 (.m i) hi e.symm)).trans (hb'.block g hg.1)
      obtain ⟨W, hWW⟩ : ∃ W, W = w1.setCell ⟨L.b (.m i), 1, none⟩ (.slice A' ((k.l (40 + i)).erase (m : Int)).length c') := ⟨_, rfl⟩
      rw [← hWW] at hk1 hbw hf1 ⊢
      have HF1 := Lib.hid hf1
      have HK1 := Lib.hid hk1
      have HS1 := Lib.hid hs1
      have HB1 := Lib.hid hbw
      clear hk1 hs1 hn1 hf1 hbw hWW y1 y2 hv' hg' hb' HW hVx hd1 hd2
      have hm1 : m < (k.setL (40 + i) (·.erase (m : Int))).tasks.length := hm
      have ebt : L1.b (.t m) = L.b (.t m) := HS1.out (.t m) rfl
      have ebk : L1.b .ker = L.b .ker := HS1.out .ker rfl
      have wt := HK1.out.task hm1
      rw [ebt] at wt
      have t2 : W.cell? ⟨L.b (.t m), 2, none⟩ = some (.int .i64 (kT k m).prio) := wt.cell 2
      rw [HP.out] at t2
      have t3 : W.cell? ⟨L.b (.t m), 3, none⟩ = some (.int .i64 (kT k m).state) := wt.cell 3
      have t5 : W.cell? ⟨L.b (.t m), 5, none⟩ = some (.int .i64 (kT k m).answer) := wt.cell 5
      have t7 : W.cell? ⟨L.b (.t m), 7, none⟩ = some (L1.on (kT k m).on) := wt.cell 7
      have t8 : W.cell? ⟨L.b (.t m), 8, none⟩ = some (.int .i64 (kT k m).left) := wt.cell 8
      have f3 := wt.frozen 3
      have f5 := wt.frozen 5
      have f7 := wt.frozen 7
      have f8 := wt.frozen 8
      have hlen1 := HF.out.len p
      have WT := Lib.hid wt
      clear wt
      go_upto_region 5 with fail
      obtain ⟨W4, hW4⟩ : ∃ W4, W4 = (((W.setCell ⟨L.b (.t m), 3, none⟩ (.int .i64 0)).setCell ⟨L.b (.t m), 5, none⟩ (.int .i64 answer)).setCell ⟨L.b (.t m), 7, none⟩ .nilIface).setCell ⟨L.b (.t m), 8, none⟩ (.int .i64 0) := ⟨_, rfl⟩
      rw [← hW4]
      have hz4 : Hid (W4.heap.size = W.heap.size) := by show _ = _; rw [hW4]; simp only [World.size_setCell]
      have hK4 : Hid (KM W4 B ((k.setL (40 + i) (·.erase (m : Int))).setT m fun t => { t with state := 0, answer := answer, on := none, left := 0 }) L1) := by
        show KM _ _ _ _
        refine HK1.out.setTask hm1 rfl rfl (fun g hg _ => ?_) ?_
        · rw [ebt] at hg
          rw [hW4, Below.heap_setCell _ _ _ _ hg, Below.heap_setCell _ _ _ _ hg, Below.heap_setCell _ _ _ _ hg, Below.heap_setCell _ _ _ _ hg]
        · rw [ebt, hW4]
          have hq4 := (((WT.out.put 3 (.int .i64 0)).put 5 (.int .i64 answer)).put 7 .nilIface).put 8 (.int .i64 0)
          have e4 : taskCells ((k.setL (40 + i) (·.erase (m : Int))).setT m fun t => { t with state := 0, answer := answer, on := none, left := 0 }) L1 m = ((((taskCells (k.setL (40 + i) (·.erase (m : Int))) L1 m).setIfInBounds 3 (.int .i64 0)).setIfInBounds 5 (.int .i64 answer)).setIfInBounds 7 .nilIface).setIfInBounds 8 (.int .i64 0) := by
            unfold taskCells
            rw [kT_set hm1]
            rfl
          rw [e4]
          exact hq4
      have hlowT := HK.out.low (.t m) hm
      have hB4 : Below B w W4 := by rw [hW4]; exact (((HB1.out.setCell (p := ⟨L.b (.t m), 3, none⟩) hlowT _).setCell (p := ⟨L.b (.t m), 5, none⟩) hlowT _).setCell (p := ⟨L.b (.t m), 7, none⟩) hlowT _).setCell (p := ⟨L.b (.t m), 8, none⟩) hlowT _
      have hBW4 : B ≤ W4.heap.size := by have := HB1.out.size; have := hz4.out; omega
      have c42 : W4.cell? ⟨L.b (.t m), 2, none⟩ = some (.int .i64 p) := by
        have q := (hK4.out.task (i := m) (by rw [setT_len]; exact hm1)).cell 2
        rw [ebt] at q
        rw [q]
        show some (Value.int .i64 (kT ((k.setL (40 + i) (·.erase (m : Int))).setT m _) m).prio) = _
        rw [kT_set hm1]
        show some (Value.int .i64 (kT k m).prio) = _
        rw [HP.out]
      have c43 := hK4.out.row hp32
      rw [ebk] at c43
      have c44 : W4.frozen? ⟨L.b .ker, 4 + p, none⟩ = false := by have := hK4.out.ker.frozen (4 + p); rw [ebk] at this; exact this
      have hltT : L.b (.t m) < W4.heap.size := by have := hK4.out.lt (c := .t m) (by simp [Part.live, setT_len]; exact hm1); rw [ebt] at this; exact this
      have hltK : L.b .ker < W4.heap.size := by have := hK4.out.lt (c := .ker) trivial; rw [ebk] at this; exact this
      obtain ⟨gl, hgl⟩ : ∃ gl, gl = (if L1.nil (.l p) then none else some (L1.b (.l p))) := ⟨_, rfl⟩
      have hLH := hK4.out.head (x := p) (by omega)
      rw [← hgl] at hLH
      have hgis : ∀ b (g5 : Option Nat), g5 = some b → (g5 = gl ∨ ∃ x, g5 = some x ∧ ((W4.alloc (.cells #[.int .i64 m] 3)).drew).heap.size ≤ x) → (L1.nil (.l p) = false ∧ b = L1.b (.l p)) ∨ ((W4.alloc (.cells #[.int .i64 m] 3)).drew).heap.size ≤ b := by
        intro b g5 hb hg
        rcases hg with hg | ⟨x, hg, hx⟩
        · rw [hb, hgl] at hg
          cases hn : L1.nil (.l p) with
          | true => rw [hn, if_pos rfl] at hg; cases hg
          | false => rw [hn] at hg; exact .inl ⟨rfl, by simpa using hg⟩
        · rw [hb] at hg
          obtain rfl := Option.some.inj hg
          exact .inr hx
      have hgnot : ∀ b, (L1.nil (.l p) = false → b ≠ L1.b (.l p)) → gl ≠ some b := by
        intro b hne e
        rw [hgl] at e
        cases hn : L1.nil (.l p) with
        | true => rw [hn, if_pos rfl] at e; cases e
        | false => rw [hn] at e; exact hne hn (by simpa using e.symm)
      have hneT : gl ≠ some (L.b (.t m)) := hgnot _ fun hn e => by
        have := hK4.out.apart (.t m) (.l p) (by simp [Part.live, setT_len]; exact hm1) ⟨by omega, hn⟩ (by rw [ebt]; exact e)
        cases this
      have hneK : gl ≠ some (L.b .ker) := hgnot _ fun hn e => by
        have := hK4.out.apart .ker (.l p) trivial ⟨by omega, hn⟩ (by rw [ebk]; exact e)
        cases this
      have HLA : Hid (LHead ((W4.alloc (.cells #[.int .i64 m] 3)).drew) (L1.hd (.l p) (((k.setL (40 + i) (·.erase (m : Int))).setT m fun t => { t with state := 0, answer := answer, on := none, left := 0 }).l p).length) (((k.setL (40 + i) (·.erase (m : Int))).setT m fun t => { t with state := 0, answer := answer, on := none, left := 0 }).l p) gl) := hLH.keep fun b hb => Below.heap_alloc W4 _ b hb
      have hlen5 : (((k.setL (40 + i) (·.erase (m : Int))).setT m fun t => { t with state := 0, answer := answer, on := none, left := 0 }).l p).length ≤ 1000000 := by show ((k.setL (40 + i) _).l p).length ≤ 1000000; rw [setL_other (by omega)]; omega
      have hnew : ((W4.alloc (.cells #[.int .i64 m] 3)).drew).cell? ⟨W4.heap.size, 0, none⟩ = some (.int .i64 m) := (Whole.made W4 3 #[.int .i64 m]).cell 0
      generalize hVV : L1.hd (.l p) (((k.setL (40 + i) (·.erase (m : Int))).setT m fun t => { t with state := 0, answer := answer, on := none, left := 0 }).l p).length = VV at *
      have c42a : ((W4.alloc (.cells #[.int .i64 m] 3)).drew).cell? ⟨L.b (.t m), 2, none⟩ = some (.int .i64 p) := (World.cell?_alloc_lt W4 _ ⟨L.b (.t m), 2, none⟩ hltT).trans c42
      have c43a : ((W4.alloc (.cells #[.int .i64 m] 3)).drew).cell? ⟨L.b .ker, 4 + p, none⟩ = some VV := (World.cell?_alloc_lt W4 _ ⟨L.b .ker, 4 + p, none⟩ hltK).trans c43
      have c44a : ((W4.alloc (.cells #[.int .i64 m] 3)).drew).frozen? ⟨L.b .ker, 4 + p, none⟩ = false := (World.frozen?_of_block (a := ⟨L.b .ker, 4 + p, none⟩) (Below.heap_alloc W4 _ _ hltK)).trans c44
      have hkt : L.b .ker ≠ L.b (.t m) := fun e => by cases HK.out.apart .ker (.t m) trivial hm e
      have hkt' : L.b (.t m) ≠ L.b .ker := fun e => hkt e.symm
      have HO4 : Hid (∀ g, Out w k L g → Out W4 (((k.setL (40 + i) (·.erase (m : Int))).setT m fun t => { t with state := 0, answer := answer, on := none, left := 0 })) L1 g ∧ W4.heap[g]? = w.heap[g]?) := fun g hg => by
        have hne : g ≠ L.b (.t m) := fun e => hg.2 (.t m) hm e.symm
        refine ⟨Out.near (w' := W4) hg (HN1.out.trans (setT_near (N := w.heap.size) hm1 rfl) (Nat.le_refl _)) (by rw [hz4.out]; exact HB1.out.size), ?_⟩
        rw [hW4, Below.heap_setCell _ _ _ _ hne, Below.heap_setCell _ _ _ _ hne, Below.heap_setCell _ _ _ _ hne, Below.heap_setCell _ _ _ _ hne]
        exact HF1.out g hg
      have HN4 : Hid (Near w.heap.size k L (((k.setL (40 + i) (·.erase (m : Int))).setT m fun t => { t with state := 0, answer := answer, on := none, left := 0 })) L1) := HN1.out.trans (setT_near (N := w.heap.size) hm1 rfl) (Nat.le_refl _)
      have HZ4 : Hid (w.heap.size ≤ W4.heap.size) := by show _ ≤ _; rw [hz4.out]; exact HB1.out.size
      have HB4 := Lib.hid hB4
      clear hB4 hLH hVV hW4 t2 t3 t5 t7 t8 f3 f5 f7 f8
      refine wp_region_held_drew (S := fun w' => w'.cell? ⟨L.b (.t m), 2, none⟩ = some (.int .i64 p)) (by kernel_rfl) ?_ (fun hHeld => ?_)
      · (try dsimp only)
        go_keep
      refine wpAnyH_take (i := 0) (v := ?_) rfl (by kernel_rfl) (by kernel_rfl) (by kernel_rfl) (fun _ _ _ h => h) (Or.inl ⟨by rfl, ?_⟩) (by assumption) ?_
      rotate_left
      · intro w hSw
        (try dsimp only at hSw)
        go_simp
        with_reducible rfl
      try simp only [Act.put, List.setIfInBounds_toArray]
      refine wpAnyH_take (i := 1) (v := ?_) rfl (by kernel_rfl) (by kernel_rfl) (by kernel_rfl) (fun _ _ _ h => h) (Or.inl ⟨by rfl, ?_⟩) (by assumption) ?_
      rotate_left
      · intro w hSw
        (try dsimp only at hSw)
        go_simp
        with_reducible rfl
      try simp only [Act.put]
      refine wpAnyH_take (i := 2) (v := ?_) rfl (by kernel_rfl) (by kernel_rfl) (by kernel_rfl) (fun _ _ _ h => h) (Or.inl ⟨by rfl, ?_⟩) (by assumption) ?_
      rotate_left
      · intro w hSw
        (try dsimp only at hSw)
        go_simp
        with_reducible rfl
      try simp only [Act.put]
      refine wpAnyH_take (i := 3) (v := ?_) rfl (by kernel_rfl) (by kernel_rfl) (by kernel_rfl) (fun _ _ _ h => h) (Or.inl ⟨by rfl, ?_⟩) (by assumption) ?_
      rotate_left
      · intro w hSw
        (try dsimp only at hSw)
        go_simp
        with_reducible rfl
      try simp only [Act.put]
      refine wpAnyH_take (i := 4) (v := ?_) rfl (by kernel_rfl) (by kernel_rfl) (by kernel_rfl) (fun _ _ _ h => h) (Or.inl ⟨by rfl, ?_⟩) (by assumption) ?_
      rotate_left
      · intro w hSw
        (try dsimp only at hSw)
        go_simp
        with_reducible rfl
      try simp only [Act.put]
      refine wpAnyH_take (i := 5) (v := ?_) rfl (by kernel_rfl) (by kernel_rfl) (by kernel_rfl) (fun _ _ _ h => h) (Or.inl ⟨by rfl, ?_⟩) (by assumption) ?_
      rotate_left
      · intro w hSw
        (try dsimp only at hSw)
        go_simp
        with_reducible rfl
      try simp only [Act.put]
      refine wpAnyH_take (i := 6) (v := ?_) rfl (by kernel_rfl) (by kernel_rfl) (by kernel_rfl) (fun _ _ _ h => h) (Or.inl ⟨by rfl, ?_⟩) (by assumption) ?_
      rotate_left
      · intro w hSw
        (try dsimp only at hSw)
        go_simp
        with_reducible rfl
      try simp only [Act.put]
      refine wpAnyH_take (i := 7) (v := ?_) rfl (by kernel_rfl) (by kernel_rfl) (by kernel_rfl) (fun _ _ _ h => h) (Or.inl ⟨by rfl, ?_⟩) (by assumption) ?_
      rotate_left
      · intro w hSw
        (try dsimp only at hSw)
        go_simp
        with_reducible rfl
      try simp only [Act.put]
      refine wpAnyH_take (i := 8) (v := ?_) rfl (by kernel_rfl) (by kernel_rfl) (by kernel_rfl) (fun _ _ _ h => h) (Or.inl ⟨by rfl, ?_⟩) (by assumption) ?_
      rotate_left
      · intro w hSw
        (try dsimp only at hSw)
        go_simp
        with_reducible rfl
      try simp only [Act.put]
      refine wpAnyH_take (i := 9) (v := ?_) rfl (by kernel_rfl) (by kernel_rfl) (by kernel_rfl) (fun _ _ _ h => h) (Or.inl ⟨by rfl, ?_⟩) (by assumption) ?_
      rotate_left
      · intro w hSw
        (try dsimp only at hSw)
        go_simp
        with_reducible rfl
      try simp only [Act.put]
      refine wpAnyH_take (i := 10) (v := ?_) rfl (by kernel_rfl) (by kernel_rfl) (by kernel_rfl) (fun _ _ _ h => h) (Or.inl ⟨by rfl, ?_⟩) (by assumption) ?_
      rotate_left
      · intro w hSw
        (try dsimp only at hSw)
        go_simp
        with_reducible rfl
      try simp only [Act.put]
      refine wpAnyH_take (i := 11) (v := ?_) rfl (by kernel_rfl) (by kernel_rfl) (by kernel_rfl) (fun _ _ _ h => h) (Or.inl ⟨by rfl, ?_⟩) (by assumption) ?_
      rotate_left
      · intro w hSw
        (try dsimp only at hSw)
        go_simp
        with_reducible rfl
      try simp only [Act.put]
      refine wpAnyH_take (i := 12) (v := ?_) rfl (by kernel_rfl) (by kernel_rfl) (by kernel_rfl) (fun _ _ _ h => h) (Or.inl ⟨by rfl, ?_⟩) (by assumption) ?_
      rotate_left
      · intro w hSw
        (try dsimp only at hSw)
        go_simp
        with_reducible rfl
      try simp only [Act.put]
      refine wpAnyH_take (i := 14) (v := ?_) rfl (by kernel_rfl) (by kernel_rfl) (by kernel_rfl) (fun _ _ _ h => h) (Or.inl ⟨by rfl, ?_⟩) (by assumption) ?_
      rotate_left
      · intro w hSw
        (try dsimp only at hSw)
        go_simp
        with_reducible rfl
      try simp only [Act.put]
      refine wpAnyH_take (i := 17) (v := ?_) rfl (by kernel_rfl) (by kernel_rfl) (by kernel_rfl) (fun _ _ _ h => h) (Or.inl ⟨by rfl, ?_⟩) (by assumption) ?_
      rotate_left
      · intro w hSw
        (try dsimp only at hSw)
        go_simp
        with_reducible rfl
      try simp only [Act.put]
      refine wpAnyH_take (i := 18) (v := ?_) rfl (by kernel_rfl) (by kernel_rfl) (by kernel_rfl) (fun _ _ _ h => h) (Or.inl ⟨by rfl, ?_⟩) (by assumption) ?_
      rotate_left
      · intro w hSw
        (try dsimp only at hSw)
        go_simp
        with_reducible rfl
      try simp only [Act.put]
      refine wpAnyH_ready (rs := [13, 15]) (by kernel_rfl) (by simp) ?_
      refine AllReadyH.cons rfl (fun K hK => ?_) ?_
      · go_simp
        refine hK.out _ _ ?_ (fun hHeld => ?_)
        · (try dsimp only)
          go_keep
        clear hK K
        try simp only [Act.put, List.setIfInBounds_toArray, List.set_cons_zero, List.set_cons_succ]
        refine wpAnyH_ready (rs := [15]) (by kernel_rfl) (by simp) ?_
        refine AllReadyH.cons rfl (fun K hK => ?_) ?_
        · go_simp
          refine hK.out _ _ ?_ (fun hHeld => ?_)
          · (try dsimp only)
            go_keep
          clear hK K
          try simp only [Act.put, List.setIfInBounds_toArray, List.set_cons_zero, List.set_cons_succ]
          refine wpAnyH_ready (rs := [16]) (by kernel_rfl) (by simp) ?_
          refine AllReadyH.cons rfl (fun K hK => ?_) ?_
          · (refine step_append_list rfl _ _ rfl (by rfl) HLA.out hlen5 (m : Int) ⟨W4.heap.size, 0, none⟩ 1 (by rfl) (by exact hnew) ?_; intro v' w5 hap; obtain ⟨g5, hv5, hg5, hs5, hgr5⟩ := hap; obtain ⟨A5, c5, e5⟩ := hv5.slice; subst e5; have z1 : w5.cell? ⟨L.b (.t m), 2, none⟩ = some (.int .i64 p) := (World.cell?_of_block (a := ⟨L.b (.t m), 2, none⟩) (hs5 _ (by simp; omega) hneT)).trans c42a; have z2 := (World.cell?_of_block (a := ⟨L.b .ker, 4 + p, none⟩) (hs5 _ (by simp; omega) hneK)).trans c43a; have z3 := (World.frozen?_of_block (a := ⟨L.b .ker, 4 + p, none⟩) (hs5 _ (by simp; omega) hneK)).trans c44a)
            refine hK.out _ _ ?_ (fun hHeld => ?_)
            · (try dsimp only)
              go_keep
            clear hK K
            try simp only [Act.put, List.setIfInBounds_toArray]
            refine wpAnyH_take (i := 19) (v := ?_) rfl (by kernel_rfl) (by kernel_rfl) (by kernel_rfl) (fun _ _ _ h => h) (Or.inl ⟨by rfl, ?_⟩) (by assumption) ?_
            rotate_left
            · intro w hSw
              (try dsimp only at hSw)
              go_simp
              with_reducible rfl
            try simp only [Act.put]
            refine wpAnyH_ready (rs := [20]) (by kernel_rfl) (by simp) ?_
            refine AllReadyH.cons rfl (fun K hK => ?_) ?_
            · go_simp
              refine hK.out _ _ ?_ (fun hHeld => ?_)
              · (try dsimp only)
                go_keep
              clear hK K
              try simp only [Act.put, List.setIfInBounds_toArray, List.set_cons_zero, List.set_cons_succ]
              refine wpAnyH_done (by kernel_rfl) ?_ _
              go_wp2_with fail
              go_end0
              obtain ⟨L', k5, s5, n5⟩ := (hK4.out.below (((Below.refl W4.heap.size W4).alloc (Nat.le_refl _) (.cells #[.int .i64 m] 3)).drew)).putListN (f := (· ++ [(m : Int)])) (show p < 72 by omega) (by rw [(holder_row hp32).1]; trivial) hv5 (fun b hb hne => hs5 b hb (hgnot b hne)) (fun b hb => hgis b _ hb hg5) (by simp; omega)
              rw [(holder_row hp32).1, (holder_row hp32).2] at k5
              try rw [ebk] at k5
              rw [List.length_append, List.length_singleton] at k5
              rw [EW.out]
              exact ⟨rfl, L', k5, HS1.out.trans s5, wakeBelow HB4.out hBW4 hgr5 (fun b hb => by rw [hgl] at hb; split at hb; cases hb; obtain rfl := Option.some.inj hb; rename_i hn; exact HK1.out.low (.l p) ⟨by omega, by simpa using hn⟩) (HK.out.low .ker trivial), HN4.out.trans n5 (by have := HZ4.out; simp; omega), fun g hg => by
                obtain ⟨og, fg⟩ := HO4.out g hg
                exact (Below.heap_setCell _ _ _ _ (fun e => hg.2 .ker trivial e.symm)).trans ((hs5 g (by have := og.1; simp; omega) (hgnot g (fun hn e => og.2 (.l p) ⟨by omega, hn⟩ e.symm))).trans ((Below.heap_alloc W4 _ g og.1).trans fg))⟩
            exact AllReadyH.nil
          exact AllReadyH.nil
        exact AllReadyH.nil
      refine AllReadyH.cons rfl (fun K hK => ?_) ?_
      · go_simp
        refine hK.out _ _ ?_ (fun hHeld => ?_)
        · (try dsimp only)
          go_keep
        clear hK K
        try simp only [Act.put, List.setIfInBounds_toArray, List.set_cons_zero, List.set_cons_succ]
        refine wpAnyH_ready (rs := [13]) (by kernel_rfl) (by simp) ?_
        refine AllReadyH.cons rfl (fun K hK => ?_) ?_
        · go_simp
          refine hK.out _ _ ?_ (fun hHeld => ?_)
          · (try dsimp only)
            go_keep
          clear hK K
          try simp only [Act.put, List.setIfInBounds_toArray, List.set_cons_zero, List.set_cons_succ]
          refine wpAnyH_ready (rs := [16]) (by kernel_rfl) (by simp) ?_
          refine AllReadyH.cons rfl (fun K hK => ?_) ?_
          · (refine step_append_list rfl _ _ rfl (by rfl) HLA.out hlen5 (m : Int) ⟨W4.heap.size, 0, none⟩ 1 (by rfl) (by exact hnew) ?_; intro v' w5 hap; obtain ⟨g5, hv5, hg5, hs5, hgr5⟩ := hap; obtain ⟨A5, c5, e5⟩ := hv5.slice; subst e5; have z1 : w5.cell? ⟨L.b (.t m), 2, none⟩ = some (.int .i64 p) := (World.cell?_of_block (a := ⟨L.b (.t m), 2, none⟩) (hs5 _ (by simp; omega) hneT)).trans c42a; have z2 := (World.cell?_of_block (a := ⟨L.b .ker, 4 + p, none⟩) (hs5 _ (by simp; omega) hneK)).trans c43a; have z3 := (World.frozen?_of_block (a := ⟨L.b .ker, 4 + p, none⟩) (hs5 _ (by simp; omega) hneK)).trans c44a)
            refine hK.out _ _ ?_ (fun hHeld => ?_)
            · (try dsimp only)
              go_keep
            clear hK K
            try simp only [Act.put, List.setIfInBounds_toArray]
            refine wpAnyH_take (i := 19) (v := ?_) rfl (by kernel_rfl) (by kernel_rfl) (by kernel_rfl) (fun _ _ _ h => h) (Or.inl ⟨by rfl, ?_⟩) (by assumption) ?_
            rotate_left
            · intro w hSw
              (try dsimp only at hSw)
              go_simp
              with_reducible rfl
            try simp only [Act.put]
            refine wpAnyH_ready (rs := [20]) (by kernel_rfl) (by simp) ?_
            refine AllReadyH.cons rfl (fun K hK => ?_) ?_
            · go_simp
              refine hK.out _ _ ?_ (fun hHeld => ?_)
              · (try dsimp only)
                go_keep
              clear hK K
              try simp only [Act.put, List.setIfInBounds_toArray, List.set_cons_zero, List.set_cons_succ]
              refine wpAnyH_done (by kernel_rfl) ?_ _
              go_wp2_with fail
              go_end0
              obtain ⟨L', k5, s5, n5⟩ := (hK4.out.below (((Below.refl W4.heap.size W4).alloc (Nat.le_refl _) (.cells #[.int .i64 m] 3)).drew)).putListN (f := (· ++ [(m : Int)])) (show p < 72 by omega) (by rw [(holder_row hp32).1]; trivial) hv5 (fun b hb hne => hs5 b hb (hgnot b hne)) (fun b hb => hgis b _ hb hg5) (by simp; omega)
              rw [(holder_row hp32).1, (holder_row hp32).2] at k5
              try rw [ebk] at k5
              rw [List.length_append, List.length_singleton] at k5
              rw [EW.out]
              exact ⟨rfl, L', k5, HS1.out.trans s5, wakeBelow HB4.out hBW4 hgr5 (fun b hb => by rw [hgl] at hb; split at hb; cases hb; obtain rfl := Option.some.inj hb; rename_i hn; exact HK1.out.low (.l p) ⟨by omega, by simpa using hn⟩) (HK.out.low .ker trivial), HN4.out.trans n5 (by have := HZ4.out; simp; omega), fun g hg => by
                obtain ⟨og, fg⟩ := HO4.out g hg
                exact (Below.heap_setCell _ _ _ _ (fun e => hg.2 .ker trivial e.symm)).trans ((hs5 g (by have := og.1; simp; omega) (hgnot g (fun hn e => og.2 (.l p) ⟨by omega, hn⟩ e.symm))).trans ((Below.heap_alloc W4 _ g og.1).trans fg))⟩
            exact AllReadyH.nil
          exact AllReadyH.nil
        exact AllReadyH.nil
      exact AllReadyH.nil
    · have hi8 : i < 8 := by have := h.few; omega
      have EW : Hid (k.wake m answer = ((k.setL (56 + i) (·.erase (m : Int))).setT m fun t => { t with state := 0, answer := answer, on := none, left := 0 }).setL p (· ++ [(m : Int)])) := by
        show _ = _
        unfold Kn.K.wake
        rw [show (k.t m).on = some (56 + i) from hq]
        simp only []
        show Kn.K.setL _ ((kT _ m).prio).toNat _ = _
        rw [kT_set (k := k.setL (56 + i) (·.erase (m : Int))) hm]
        show Kn.K.setL _ ((kT k m).prio).toNat _ = _
        rw [hp]
        rfl
      obtain ⟨q1, q2⟩ := holder_full hi8
      rw [hq, on_full hi8] at h2
      obtain ⟨hd1, hd2⟩ := h.headCell (x := 56 + i) (by omega) (by rw [q1]; exact hi)
      rw [q1, q2] at hd1 hd2
      have HW := Lib.hid (without_any (w := w) (m : Int) (h.head (x := 56 + i) (by omega)) (by have := hf.len (56 + i); omega))
      have hmt := method_full ⟨L.b (.q i), 2, none⟩
      have hlt := h.lt (c := .q i) hi
      have hlowS := h.low (.q i) hi
      generalize hVx : L.hd (.l (56 + i)) (k.l (56 + i)).length = Vx at *
      clear h hf hp hq p0 p1 hon
      go_enter Try.func55, Try.ntmps55
      go_wp2_with fail
      refine (line_full _ _).mono ?_
      rintro e w1 ⟨rfl, rfl⟩
      go_wp2_with fail
      refine HW.out.mono ?_
      rintro e w1 ⟨v', g', rfl, hv', hg', hb'⟩
      obtain ⟨A', c', e'⟩ := hv'.slice
      subst e'
      have y1 := (hb'.cell (p := ⟨L.b (.q i), 2, none⟩) hlt).trans hd1
      have y2 := (World.frozen?_of_block (a := ⟨L.b (.q i), 2, none⟩) (hb'.block _ hlt)).trans hd2
      go_upto_region 4 with fail
      obtain ⟨L1, hk1, hs1, hn1⟩ := HK.out.putListN (f := (·.erase (m : Int))) (x := 56 + i) (by omega) (by rw [q1]; exact hi) hv' (fun b hb _ => hb'.block b hb) (fun b hb => own_or hb hg') hB
      rw [q1, q2] at hk1
      have hbw : Below B w (w1.setCell ⟨L.b (.q i), 2, none⟩ (.slice A' ((k.l (56 + i)).erase (m : Int)).length c')) := ((Below.refl B w).trans (hb'.mono hB)).setCell hlowS _
      have HN1 := Lib.hid hn1
      have hf1 : ∀ g, Out w k L g → (w1.setCell ⟨L.b (.q i), 2, none⟩ (.slice A' ((k.l (56 + i)).erase (m : Int)).length c')).heap[g]? = w.heap[g]? := fun g hg => (Below.heap_setCell _ _ _ _ (fun e => hg.2 (.q i) hi e.symm)).trans (hb'.block g hg.1)
      obtain ⟨W, hWW⟩ : ∃ W, W = w1.setCell ⟨L.b (.q i), 2, none⟩ (.slice A' ((k.l (56 + i)).erase (m : Int)).length c') := ⟨_, rfl⟩
      rw [← hWW] at hk1 hbw hf1 ⊢
      have HF1 := Lib.hid hf1
      have HK1 := Lib.hid hk1
      have HS1 := Lib.hid hs1
      have HB1 := Lib.hid hbw
      clear hk1 hs1 hn1 hf1 hbw hWW y1 y2 hv' hg' hb' HW hVx hd1 hd2
      have hm1 : m < (k.setL (56 + i) (·.erase (m : Int))).tasks.length := hm
      have ebt : L1.b (.t m) = L.b (.t m) := HS1.out (.t m) rfl
      have ebk : L1.b .ker = L.b .ker := HS1.out .ker rfl
      have wt := HK1.out.task hm1
      rw [ebt] at wt
      have t2 : W.cell? ⟨L.b (.t m), 2, none⟩ = some (.int .i64 (kT k m).prio) := wt.cell 2
      rw [HP.out] at t2
      have t3 : W.cell? ⟨L.b (.t m), 3, none⟩ = some (.int .i64 (kT k m).state) := wt.cell 3
      have t5 : W.cell? ⟨L.b (.t m), 5, none⟩ = some (.int .i64 (kT k m).answer) := wt.cell 5
      have t7 : W.cell? ⟨L.b (.t m), 7, none⟩ = some (L1.on (kT k m).on) := wt.cell 7
      have t8 : W.cell? ⟨L.b (.t m), 8, none⟩ = some (.int .i64 (kT k m).left) := wt.cell 8
      have f3 := wt.frozen 3
      have f5 := wt.frozen 5
      have f7 := wt.frozen 7
      have f8 := wt.frozen 8
      have hlen1 := HF.out.len p
      have WT := Lib.hid wt
      clear wt
      go_upto_region 5 with fail
      obtain ⟨W4, hW4⟩ : ∃ W4, W4 = (((W.setCell ⟨L.b (.t m), 3, none⟩ (.int .i64 0)).setCell ⟨L.b (.t m), 5, none⟩ (.int .i64 answer)).setCell ⟨L.b (.t m), 7, none⟩ .nilIface).setCell ⟨L.b (.t m), 8, none⟩ (.int .i64 0) := ⟨_, rfl⟩
      rw [← hW4]
      have hz4 : Hid (W4.heap.size = W.heap.size) := by show _ = _; rw [hW4]; simp only [World.size_setCell]
      have hK4 : Hid (KM W4 B ((k.setL (56 + i) (·.erase (m : Int))).setT m fun t => { t with state := 0, answer := answer, on := none, left := 0 }) L1) := by
        show KM _ _ _ _
        refine HK1.out.setTask hm1 rfl rfl (fun g hg _ => ?_) ?_
        · rw [ebt] at hg
          rw [hW4, Below.heap_setCell _ _ _ _ hg, Below.heap_setCell _ _ _ _ hg, Below.heap_setCell _ _ _ _ hg, Below.heap_setCell _ _ _ _ hg]
        · rw [ebt, hW4]
          have hq4 := (((WT.out.put 3 (.int .i64 0)).put 5 (.int .i64 answer)).put 7 .nilIface).put 8 (.int .i64 0)
          have e4 : taskCells ((k.setL (56 + i) (·.erase (m : Int))).setT m fun t => { t with state := 0, answer := answer, on := none, left := 0 }) L1 m = ((((taskCells (k.setL (56 + i) (·.erase (m : Int))) L1 m).setIfInBounds 3 (.int .i64 0)).setIfInBounds 5 (.int .i64 answer)).setIfInBounds 7 .nilIface).setIfInBounds 8 (.int .i64 0) := by
            unfold taskCells
            rw [kT_set hm1]
            rfl
          rw [e4]
          exact hq4
      have hlowT := HK.out.low (.t m) hm
      have hB4 : Below B w W4 := by rw [hW4]; exact (((HB1.out.setCell (p := ⟨L.b (.t m), 3, none⟩) hlowT _).setCell (p := ⟨L.b (.t m), 5, none⟩) hlowT _).setCell (p := ⟨L.b (.t m), 7, none⟩) hlowT _).setCell (p := ⟨L.b (.t m), 8, none⟩) hlowT _
      have hBW4 : B ≤ W4.heap.size := by have := HB1.out.size; have := hz4.out; omega
      have c42 : W4.cell? ⟨L.b (.t m), 2, none⟩ = some (.int .i64 p) := by
        have q := (hK4.out.task (i := m) (by rw [setT_len]; exact hm1)).cell 2
        rw [ebt] at q
        rw [q]
        show some (Value.int .i64 (kT ((k.setL (56 + i) (·.erase (m : Int))).setT m _) m).prio) = _
        rw [kT_set hm1]
        show some (Value.int .i64 (kT k m).prio) = _
        rw [HP.out]
      have c43 := hK4.out.row hp32
      rw [ebk] at c43
      have c44 : W4.frozen? ⟨L.b .ker, 4 + p, none⟩ = false := by have := hK4.out.ker.frozen (4 + p); rw [ebk] at this; exact this
      have hltT : L.b (.t m) < W4.heap.size := by have := hK4.out.lt (c := .t m) (by simp [Part.live, setT_len]; exact hm1); rw [ebt] at this; exact this
      have hltK : L.b .ker < W4.heap.size := by have := hK4.out.lt (c := .ker) trivial; rw [ebk] at this; exact this
      obtain ⟨gl, hgl⟩ : ∃ gl, gl = (if L1.nil (.l p) then none else some (L1.b (.l p))) := ⟨_, rfl⟩
      have hLH := hK4.out.head (x := p) (by omega)
      rw [← hgl] at hLH
      have hgis : ∀ b (g5 : Option Nat), g5 = some b → (g5 = gl ∨ ∃ x, g5 = some x ∧ ((W4.alloc (.cells #[.int .i64 m] 3)).drew).heap.size ≤ x) → (L1.nil (.l p) = false ∧ b = L1.b (.l p)) ∨ ((W4.alloc (.cells #[.int .i64 m] 3)).drew).heap.size ≤ b := by
        intro b g5 hb hg
        rcases hg with hg | ⟨x, hg, hx⟩
        · rw [hb, hgl] at hg
          cases hn : L1.nil (.l p) with
          | true => rw [hn, if_pos rfl] at hg; cases hg
          | false => rw [hn] at hg; exact .inl ⟨rfl, by simpa using hg⟩
        · rw [hb] at hg
          obtain rfl := Option.some.inj hg
          exact .inr hx
      have hgnot : ∀ b, (L1.nil (.l p) = false → b ≠ L1.b (.l p)) → gl ≠ some b := by
        intro b hne e
        rw [hgl] at e
        cases hn : L1.nil (.l p) with
        | true => rw [hn, if_pos rfl] at e; cases e
        | false => rw [hn] at e; exact hne hn (by simpa using e.symm)
      have hneT : gl ≠ some (L.b (.t m)) := hgnot _ fun hn e => by
        have := hK4.out.apart (.t m) (.l p) (by simp [Part.live, setT_len]; exact hm1) ⟨by omega, hn⟩ (by rw [ebt]; exact e)
        cases this
      have hneK : gl ≠ some (L.b .ker) := hgnot _ fun hn e => by
        have := hK4.out.apart .ker (.l p) trivial ⟨by omega, hn⟩ (by rw [ebk]; exact e)
        cases this
      have HLA : Hid (LHead ((W4.alloc (.cells #[.int .i64 m] 3)).drew) (L1.hd (.l p) (((k.setL (56 + i) (·.erase (m : Int))).setT m fun t => { t with state := 0, answer := answer, on := none, left := 0 }).l p).length) (((k.setL (56 + i) (·.erase (m : Int))).setT m fun t => { t with state := 0, answer := answer, on := none, left := 0 }).l p) gl) := hLH.keep fun b hb => Below.heap_alloc W4 _ b hb
      have hlen5 : (((k.setL (56 + i) (·.erase (m : Int))).setT m fun t => { t with state := 0, answer := answer, on := none, left := 0 }).l p).length ≤ 1000000 := by show ((k.setL (56 + i) _).l p).length ≤ 1000000; rw [setL_other (by omega)]; omega
      have hnew : ((W4.alloc (.cells #[.int .i64 m] 3)).drew).cell? ⟨W4.heap.size, 0, none⟩ = some (.int .i64 m) := (Whole.made W4 3 #[.int .i64 m]).cell 0
      generalize hVV : L1.hd (.l p) (((k.setL (56 + i) (·.erase (m : Int))).setT m fun t => { t with state := 0, answer := answer, on := none, left := 0 }).l p).length = VV at *
      have c42a : ((W4.alloc (.cells #[.int .i64 m] 3)).drew).cell? ⟨L.b (.t m), 2, none⟩ = some (.int .i64 p) := (World.cell?_alloc_lt W4 _ ⟨L.b (.t m), 2, none⟩ hltT).trans c42
      have c43a : ((W4.alloc (.cells #[.int .i64 m] 3)).drew).cell? ⟨L.b .ker, 4 + p, none⟩ = some VV := (World.cell?_alloc_lt W4 _ ⟨L.b .ker, 4 + p, none⟩ hltK).trans c43
      have c44a : ((W4.alloc (.cells #[.int .i64 m] 3)).drew).frozen? ⟨L.b .ker, 4 + p, none⟩ = false := (World.frozen?_of_block (a := ⟨L.b .ker, 4 + p, none⟩) (Below.heap_alloc W4 _ _ hltK)).trans c44
      have hkt : L.b .ker ≠ L.b (.t m) := fun e => by cases HK.out.apart .ker (.t m) trivial hm e
      have hkt' : L.b (.t m) ≠ L.b .ker := fun e => hkt e.symm
      have HO4 : Hid (∀ g, Out w k L g → Out W4 (((k.setL (56 + i) (·.erase (m : Int))).setT m fun t => { t with state := 0, answer := answer, on := none, left := 0 })) L1 g ∧ W4.heap[g]? = w.heap[g]?) := fun g hg => by
        have hne : g ≠ L.b (.t m) := fun e => hg.2 (.t m) hm e.symm
        refine ⟨Out.near (w' := W4) hg (HN1.out.trans (setT_near (N := w.heap.size) hm1 rfl) (Nat.le_refl _)) (by rw [hz4.out]; exact HB1.out.size), ?_⟩
        rw [hW4, Below.heap_setCell _ _ _ _ hne, Below.heap_setCell _ _ _ _ hne, Below.heap_setCell _ _ _ _ hne, Below.heap_setCell _ _ _ _ hne]
        exact HF1.out g hg
      have HN4 : Hid (Near w.heap.size k L (((k.setL (56 + i) (·.erase (m : Int))).setT m fun t => { t with state := 0, answer := answer, on := none, left := 0 })) L1) := HN1.out.trans (setT_near (N := w.heap.size) hm1 rfl) (Nat.le_refl _)
      have HZ4 : Hid (w.heap.size ≤ W4.heap.size) := by show _ ≤ _; rw [hz4.out]; exact HB1.out.size
      have HB4 := Lib.hid hB4
      clear hB4 hLH hVV hW4 t2 t3 t5 t7 t8 f3 f5 f7 f8
      refine wp_region_held_drew (S := fun w' => w'.cell? ⟨L.b (.t m), 2, none⟩ = some (.int .i64 p)) (by kernel_rfl) ?_ (fun hHeld => ?_)
      · (try dsimp only)
        go_keep
      refine wpAnyH_take (i := 0) (v := ?_) rfl (by kernel_rfl) (by kernel_rfl) (by kernel_rfl) (fun _ _ _ h => h) (Or.inl ⟨by rfl, ?_⟩) (by assumption) ?_
      rotate_left
      · intro w hSw
        (try dsimp only at hSw)
        go_simp
        with_reducible rfl
      try simp only [Act.put, List.setIfInBounds_toArray]
      refine wpAnyH_take (i := 1) (v := ?_) rfl (by kernel_rfl) (by kernel_rfl) (by kernel_rfl) (fun _ _ _ h => h) (Or.inl ⟨by rfl, ?_⟩) (by assumption) ?_
      rotate_left
      · intro w hSw
        (try dsimp only at hSw)
        go_simp
        with_reducible rfl
      try simp only [Act.put]
      refine wpAnyH_take (i := 2) (v := ?_) rfl (by kernel_rfl) (by kernel_rfl) (by kernel_rfl) (fun _ _ _ h => h) (Or.inl ⟨by rfl, ?_⟩) (by assumption) ?_
      rotate_left
      · intro w hSw
        (try dsimp only at hSw)
        go_simp
        with_reducible rfl
      try simp only [Act.put]
      refine wpAnyH_take (i := 3) (v := ?_) rfl (by kernel_rfl) (by kernel_rfl) (by kernel_rfl) (fun _ _ _ h => h) (Or.inl ⟨by rfl, ?_⟩) (by assumption) ?_
      rotate_left
      · intro w hSw
        (try dsimp only at hSw)
        go_simp
        with_reducible rfl
      try simp only [Act.put]
      refine wpAnyH_take (i := 4) (v := ?_) rfl (by kernel_rfl) (by kernel_rfl) (by kernel_rfl) (fun _ _ _ h => h) (Or.inl ⟨by rfl, ?_⟩) (by assumption) ?_
      rotate_left
      · intro w hSw
        (try dsimp only at hSw)
        go_simp
        with_reducible rfl
      try simp only [Act.put]
      refine wpAnyH_take (i := 5) (v := ?_) rfl (by kernel_rfl) (by kernel_rfl) (by kernel_rfl) (fun _ _ _ h => h) (Or.inl ⟨by rfl, ?_⟩) (by assumption) ?_
      rotate_left
      · intro w hSw
        (try dsimp only at hSw)
        go_simp
        with_reducible rfl
      try simp only [Act.put]
      refine wpAnyH_take (i := 6) (v := ?_) rfl (by kernel_rfl) (by kernel_rfl) (by kernel_rfl) (fun _ _ _ h => h) (Or.inl ⟨by rfl, ?_⟩) (by assumption) ?_
      rotate_left
      · intro w hSw
        (try dsimp only at hSw)
        go_simp
        with_reducible rfl
      try simp only [Act.put]
      refine wpAnyH_take (i := 7) (v := ?_) rfl (by kernel_rfl) (by kernel_rfl) (by kernel_rfl) (fun _ _ _ h => h) (Or.inl ⟨by rfl, ?_⟩) (by assumption) ?_
      rotate_left
      · intro w hSw
        (try dsimp only at hSw)
        go_simp
        with_reducible rfl
      try simp only [Act.put]
      refine wpAnyH_take (i := 8) (v := ?_) rfl (by kernel_rfl) (by kernel_rfl) (by kernel_rfl) (fun _ _ _ h => h) (Or.inl ⟨by rfl, ?_⟩) (by assumption) ?_
      rotate_left
      · intro w hSw
        (try dsimp only at hSw)
        go_simp
        with_reducible rfl
      try simp only [Act.put]
      refine wpAnyH_take (i := 9) (v := ?_) rfl (by kernel_rfl) (by kernel_rfl) (by kernel_rfl) (fun _ _ _ h => h) (Or.inl ⟨by rfl, ?_⟩) (by assumption) ?_
      rotate_left
      · intro w hSw
        (try dsimp only at hSw)
        go_simp
        with_reducible rfl
      try simp only [Act.put]
      refine wpAnyH_take (i := 10) (v := ?_) rfl (by kernel_rfl) (by kernel_rfl) (by kernel_rfl) (fun _ _ _ h => h) (Or.inl ⟨by rfl, ?_⟩) (by assumption) ?_
      rotate_left
      · intro w hSw
        (try dsimp only at hSw)
        go_simp
        with_reducible rfl
      try simp only [Act.put]
      refine wpAnyH_take (i := 11) (v := ?_) rfl (by kernel_rfl) (by kernel_rfl) (by kernel_rfl) (fun _ _ _ h => h) (Or.inl ⟨by rfl, ?_⟩) (by assumption) ?_
      rotate_left
      · intro w hSw
        (try dsimp only at hSw)
        go_simp
        with_reducible rfl
      try simp only [Act.put]
      refine wpAnyH_take (i := 12) (v := ?_) rfl (by kernel_rfl) (by kernel_rfl) (by kernel_rfl) (fun _ _ _ h => h) (Or.inl ⟨by rfl, ?_⟩) (by assumption) ?_
      rotate_left
      · intro w hSw
        (try dsimp only at hSw)
        go_simp
        with_reducible rfl
      try simp only [Act.put]
      refine wpAnyH_take (i := 14) (v := ?_) rfl (by kernel_rfl) (by kernel_rfl) (by kernel_rfl) (fun _ _ _ h => h) (Or.inl ⟨by rfl, ?_⟩) (by assumption) ?_
      rotate_left
      · intro w hSw
        (try dsimp only at hSw)
        go_simp
        with_reducible rfl
      try simp only [Act.put]
      refine wpAnyH_take (i := 17) (v := ?_) rfl (by kernel_rfl) (by kernel_rfl) (by kernel_rfl) (fun _ _ _ h => h) (Or.inl ⟨by rfl, ?_⟩) (by assumption) ?_
      rotate_left
      · intro w hSw
        (try dsimp only at hSw)
        go_simp
        with_reducible rfl
      try simp only [Act.put]
      refine wpAnyH_take (i := 18) (v := ?_) rfl (by kernel_rfl) (by kernel_rfl) (by kernel_rfl) (fun _ _ _ h => h) (Or.inl ⟨by rfl, ?_⟩) (by assumption) ?_
      rotate_left
      · intro w hSw
        (try dsimp only at hSw)
        go_simp
        with_reducible rfl
      try simp only [Act.put]
      refine wpAnyH_ready (rs := [13, 15]) (by kernel_rfl) (by simp) ?_
      refine AllReadyH.cons rfl (fun K hK => ?_) ?_
      · go_simp
        refine hK.out _ _ ?_ (fun hHeld => ?_)
        · (try dsimp only)
          go_keep
        clear hK K
        try simp only [Act.put, List.setIfInBounds_toArray, List.set_cons_zero, List.set_cons_succ]
        refine wpAnyH_ready (rs := [15]) (by kernel_rfl) (by simp) ?_
        refine AllReadyH.cons rfl (fun K hK => ?_) ?_
        · go_simp
          refine hK.out _ _ ?_ (fun hHeld => ?_)
          · (try dsimp only)
            go_keep
          clear hK K
          try simp only [Act.put, List.setIfInBounds_toArray, List.set_cons_zero, List.set_cons_succ]
          refine wpAnyH_ready (rs := [16]) (by kernel_rfl) (by simp) ?_
          refine AllReadyH.cons rfl (fun K hK => ?_) ?_
          · (refine step_append_list rfl _ _ rfl (by rfl) HLA.out hlen5 (m : Int) ⟨W4.heap.size, 0, none⟩ 1 (by rfl) (by exact hnew) ?_; intro v' w5 hap; obtain ⟨g5, hv5, hg5, hs5, hgr5⟩ := hap; obtain ⟨A5, c5, e5⟩ := hv5.slice; subst e5; have z1 : w5.cell? ⟨L.b (.t m), 2, none⟩ = some (.int .i64 p) := (World.cell?_of_block (a := ⟨L.b (.t m), 2, none⟩) (hs5 _ (by simp; omega) hneT)).trans c42a; have z2 := (World.cell?_of_block (a := ⟨L.b .ker, 4 + p, none⟩) (hs5 _ (by simp; omega) hneK)).trans c43a; have z3 := (World.frozen?_of_block (a := ⟨L.b .ker, 4 + p, none⟩) (hs5 _ (by simp; omega) hneK)).trans c44a)
            refine hK.out _ _ ?_ (fun hHeld => ?_)
            · (try dsimp only)
              go_keep
            clear hK K
            try simp only [Act.put, List.setIfInBounds_toArray]
            refine wpAnyH_take (i := 19) (v := ?_) rfl (by kernel_rfl) (by kernel_rfl) (by kernel_rfl) (fun _ _ _ h => h) (Or.inl ⟨by rfl, ?_⟩) (by assumption) ?_
            rotate_left
            · intro w hSw
              (try dsimp only at hSw)
              go_simp
              with_reducible rfl
            try simp only [Act.put]
            refine wpAnyH_ready (rs := [20]) (by kernel_rfl) (by simp) ?_
            refine AllReadyH.cons rfl (fun K hK => ?_) ?_
            · go_simp
              refine hK.out _ _ ?_ (fun hHeld => ?_)
              · (try dsimp only)
                go_keep
              clear hK K
              try simp only [Act.put, List.setIfInBounds_toArray, List.set_cons_zero, List.set_cons_succ]
              refine wpAnyH_done (by kernel_rfl) ?_ _
              go_wp2_with fail
              go_end0
              obtain ⟨L', k5, s5, n5⟩ := (hK4.out.below (((Below.refl W4.heap.size W4).alloc (Nat.le_refl _) (.cells #[.int .i64 m] 3)).drew)).putListN (f := (· ++ [(m : Int)])) (show p < 72 by omega) (by rw [(holder_row hp32).1]; trivial) hv5 (fun b hb hne => hs5 b hb (hgnot b hne)) (fun b hb => hgis b _ hb hg5) (by simp; omega)
              rw [(holder_row hp32).1, (holder_row hp32).2] at k5
              try rw [ebk] at k5
              rw [List.length_append, List.length_singleton] at k5
              rw [EW.out]
              exact ⟨rfl, L', k5, HS1.out.trans s5, wakeBelow HB4.out hBW4 hgr5 (fun b hb => by rw [hgl] at hb; split at hb; cases hb; obtain rfl := Option.some.inj hb; rename_i hn; exact HK1.out.low (.l p) ⟨by omega, by simpa using hn⟩) (HK.out.low .ker trivial), HN4.out.trans n5 (by have := HZ4.out; simp; omega), fun g hg => by
                obtain ⟨og, fg⟩ := HO4.out g hg
                exact (Below.heap_setCell _ _ _ _ (fun e => hg.2 .ker trivial e.symm)).trans ((hs5 g (by have := og.1; simp; omega) (hgnot g (fun hn e => og.2 (.l p) ⟨by omega, hn⟩ e.symm))).trans ((Below.heap_alloc W4 _ g og.1).trans fg))⟩
            exact AllReadyH.nil
          exact AllReadyH.nil
        exact AllReadyH.nil
      refine AllReadyH.cons rfl (fun K hK => ?_) ?_
      · go_simp
        refine hK.out _ _ ?_ (fun hHeld => ?_)
        · (try dsimp only)
          go_keep
        clear hK K
        try simp only [Act.put, List.setIfInBounds_toArray, List.set_cons_zero, List.set_cons_succ]
        refine wpAnyH_ready (rs := [13]) (by kernel_rfl) (by simp) ?_
        refine AllReadyH.cons rfl (fun K hK => ?_) ?_
        · go_simp
          refine hK.out _ _ ?_ (fun hHeld => ?_)
          · (try dsimp only)
            go_keep
          clear hK K
          try simp only [Act.put, List.setIfInBounds_toArray, List.set_cons_zero, List.set_cons_succ]
          refine wpAnyH_ready (rs := [16]) (by kernel_rfl) (by simp) ?_
          refine AllReadyH.cons rfl (fun K hK => ?_) ?_
          · (refine step_append_list rfl _ _ rfl (by rfl) HLA.out hlen5 (m : Int) ⟨W4.heap.size, 0, none⟩ 1 (by rfl) (by exact hnew) ?_; intro v' w5 hap; obtain ⟨g5, hv5, hg5, hs5, hgr5⟩ := hap; obtain ⟨A5, c5, e5⟩ := hv5.slice; subst e5; have z1 : w5.cell? ⟨L.b (.t m), 2, none⟩ = some (.int .i64 p) := (World.cell?_of_block (a := ⟨L.b (.t m), 2, none⟩) (hs5 _ (by simp; omega) hneT)).trans c42a; have z2 := (World.cell?_of_block (a := ⟨L.b .ker, 4 + p, none⟩) (hs5 _ (by simp; omega) hneK)).trans c43a; have z3 := (World.frozen?_of_block (a := ⟨L.b .ker, 4 + p, none⟩) (hs5 _ (by simp; omega) hneK)).trans c44a)
            refine hK.out _ _ ?_ (fun hHeld => ?_)
            · (try dsimp only)
              go_keep
            clear hK K
            try simp only [Act.put, List.setIfInBounds_toArray]
            refine wpAnyH_take (i := 19) (v := ?_) rfl (by kernel_rfl) (by kernel_rfl) (by kernel_rfl) (fun _ _ _ h => h) (Or.inl ⟨by rfl, ?_⟩) (by assumption) ?_
            rotate_left
            · intro w hSw
              (try dsimp only at hSw)
              go_simp
              with_reducible rfl
            try simp only [Act.put]
            refine wpAnyH_ready (rs := [20]) (by kernel_rfl) (by simp) ?_
            refine AllReadyH.cons rfl (fun K hK => ?_) ?_
            · go_simp
              refine hK.out _ _ ?_ (fun hHeld => ?_)
              · (try dsimp only)
                go_keep
              clear hK K
              try simp only [Act.put, List.setIfInBounds_toArray, List.set_cons_zero, List.set_cons_succ]
              refine wpAnyH_done (by kernel_rfl) ?_ _
              go_wp2_with fail
              go_end0
              obtain ⟨L', k5, s5, n5⟩ := (hK4.out.below (((Below.refl W4.heap.size W4).alloc (Nat.le_refl _) (.cells #[.int .i64 m] 3)).drew)).putListN (f := (· ++ [(m : Int)])) (show p < 72 by omega) (by rw [(holder_row hp32).1]; trivial) hv5 (fun b hb hne => hs5 b hb (hgnot b hne)) (fun b hb => hgis b _ hb hg5) (by simp; omega)
              rw [(holder_row hp32).1, (holder_row hp32).2] at k5
              try rw [ebk] at k5
              rw [List.length_append, List.length_singleton] at k5
              rw [EW.out]
              exact ⟨rfl, L', k5, HS1.out.trans s5, wakeBelow HB4.out hBW4 hgr5 (fun b hb => by rw [hgl] at hb; split at hb; cases hb; obtain rfl := Option.some.inj hb; rename_i hn; exact HK1.out.low (.l p) ⟨by omega, by simpa using hn⟩) (HK.out.low .ker trivial), HN4.out.trans n5 (by have := HZ4.out; simp; omega), fun g hg => by
                obtain ⟨og, fg⟩ := HO4.out g hg
                exact (Below.heap_setCell _ _ _ _ (fun e => hg.2 .ker trivial e.symm)).trans ((hs5 g (by have := og.1; simp; omega) (hgnot g (fun hn e => og.2 (.l p) ⟨by omega, hn⟩ e.symm))).trans ((Below.heap_alloc W4 _ g og.1).trans fg))⟩
            exact AllReadyH.nil
          exact AllReadyH.nil
        exact AllReadyH.nil
      exact AllReadyH.nil
    · have hi8 : i < 8 := by have := h.few; omega
      have EW : Hid (k.wake m answer = ((k.setL (64 + i) (·.erase (m : Int))).setT m fun t => { t with state := 0, answer := answer, on := none, left := 0 }).setL p (· ++ [(m : Int)])) := by
        show _ = _
        unfold Kn.K.wake
        rw [show (k.t m).on = some (64 + i) from hq]
        simp only []
        show Kn.K.setL _ ((kT _ m).prio).toNat _ = _
        rw [kT_set (k := k.setL (64 + i) (·.erase (m : Int))) hm]
        show Kn.K.setL _ ((kT k m).prio).toNat _ = _
        rw [hp]
        rfl
      obtain ⟨q1, q2⟩ := holder_empty hi8
      rw [hq, on_empty hi8] at h2
      obtain ⟨hd1, hd2⟩ := h.headCell (x := 64 + i) (by omega) (by rw [q1]; exact hi)
      rw [q1, q2] at hd1 hd2
      have HW := Lib.hid (without_any (w := w) (m : Int) (h.head (x := 64 + i) (by omega)) (by have := hf.len (64 + i); omega))
      have hmt := method_empty ⟨L.b (.q i), 3, none⟩
      have hlt := h.lt (c := .q i) hi
      have hlowS := h.low (.q i) hi
      generalize hVx : L.hd (.l (64 + i)) (k.l (64 + i)).length = Vx at *
      clear h hf hp hq p0 p1 hon
      go_enter Try.func55, Try.ntmps55
      go_wp2_with fail
      refine (line_empty _ _).mono ?_
      rintro e w1 ⟨rfl, rfl⟩
      go_wp2_with fail
      refine HW.out.mono ?_
      rintro e w1 ⟨v', g', rfl, hv', hg', hb'⟩
      obtain ⟨A', c', e'⟩ := hv'.slice
      subst e'
      have y1 := (hb'.cell (p := ⟨L.b (.q i), 3, none⟩) hlt).trans hd1
      have y2 := (World.frozen?_of_block (a := ⟨L.b (.q i), 3, none⟩) (hb'.block _ hlt)).trans hd2
      go_upto_region 4 with fail
      obtain ⟨L1, hk1, hs1, hn1⟩ := HK.out.putListN (f := (·.erase (m : Int))) (x := 64 + i) (by omega) (by rw [q1]; exact hi) hv' (fun b hb _ => hb'.block b hb) (fun b hb => own_or hb hg') hB
      rw [q1, q2] at hk1
      have hbw : Below B w (w1.setCell ⟨L.b (.q i), 3, none⟩ (.slice A' ((k.l (64 + i)).erase (m : Int)).length c')) := ((Below.refl B w).trans (hb'.mono hB)).setCell hlowS _
      have HN1 := Lib.hid hn1
      have hf1 : ∀ g, Out w k L g → (w1.setCell ⟨L.b (.q i), 3, none⟩ (.slice A' ((k.l (64 + i)).erase (m : Int)).length c')).heap[g]? = w.heap[g]? := fun g hg => (Below.heap_setCell _ _ _ _ (fun e => hg.2 (.q i) hi e.symm)).trans (hb'.block g hg.1)
      obtain ⟨W, hWW⟩ : ∃ W, W = w1.setCell ⟨L.b (.q i), 3, none⟩ (.slice A' ((k.l (64 + i)).erase (m : Int)).length c') := ⟨_, rfl⟩
      rw [← hWW] at hk1 hbw hf1 ⊢
      have HF1 := Lib.hid hf1
      have HK1 := Lib.hid hk1
      have HS1 := Lib.hid hs1
      have HB1 := Lib.hid hbw
      clear hk1 hs1 hn1 hf1 hbw hWW y1 y2 hv' hg' hb' HW hVx hd1 hd2
      have hm1 : m < (k.setL (64 + i) (·.erase (m : Int))).tasks.length := hm
      have ebt : L1.b (.t m) = L.b (.t m) := HS1.out (.t m) rfl
      have ebk : L1.b .ker = L.b .ker := HS1.out .ker rfl
      have wt := HK1.out.task hm1
      rw [ebt] at wt
      have t2 : W.cell? ⟨L.b (.t m), 2, none⟩ = some (.int .i64 (kT k m).prio) := wt.cell 2
      rw [HP.out] at t2
      have t3 : W.cell? ⟨L.b (.t m), 3, none⟩ = some (.int .i64 (kT k m).state) := wt.cell 3
      have t5 : W.cell? ⟨L.b (.t m), 5, none⟩ = some (.int .i64 (kT k m).answer) := wt.cell 5
      have t7 : W.cell? ⟨L.b (.t m), 7, none⟩ = some (L1.on (kT k m).on) := wt.cell 7
      have t8 : W.cell? ⟨L.b (.t m), 8, none⟩ = some (.int .i64 (kT k m).left) := wt.cell 8
      have f3 := wt.frozen 3
      have f5 := wt.frozen 5
      have f7 := wt.frozen 7
      have f8 := wt.frozen 8
      have hlen1 := HF.out.len p
      have WT := Lib.hid wt
      clear wt
      go_upto_region 5 with fail
      obtain ⟨W4, hW4⟩ : ∃ W4, W4 = (((W.setCell ⟨L.b (.t m), 3, none⟩ (.int .i64 0)).setCell ⟨L.b (.t m), 5, none⟩ (.int .i64 answer)).setCell ⟨L.b (.t m), 7, none⟩ .nilIface).setCell ⟨L.b (.t m), 8, none⟩ (.int .i64 0) := ⟨_, rfl⟩
      rw [← hW4]
      have hz4 : Hid (W4.heap.size = W.heap.size) := by show _ = _; rw [hW4]; simp only [World.size_setCell]
      have hK4 : Hid (KM W4 B ((k.setL (64 + i) (·.erase (m : Int))).setT m fun t => { t with state := 0, answer := answer, on := none, left := 0 }) L1) := by
        show KM _ _ _ _
        refine HK1.out.setTask hm1 rfl rfl (fun g hg _ => ?_) ?_
        · rw [ebt] at hg
          rw [hW4, Below.heap_setCell _ _ _ _ hg, Below.heap_setCell _ _ _ _ hg, Below.heap_setCell _ _ _ _ hg, Below.heap_setCell _ _ _ _ hg]
        · rw [ebt, hW4]
          have hq4 := (((WT.out.put 3 (.int .i64 0)).put 5 (.int .i64 answer)).put 7 .nilIface).put 8 (.int .i64 0)
          have e4 : taskCells ((k.setL (64 + i) (·.erase (m : Int))).setT m fun t => { t with state := 0, answer := answer, on := none, left := 0 }) L1 m = ((((taskCells (k.setL (64 + i) (·.erase (m : Int))) L1 m).setIfInBounds 3 (.int .i64 0)).setIfInBounds 5 (.int .i64 answer)).setIfInBounds 7 .nilIface).setIfInBounds 8 (.int .i64 0) := by
            unfold taskCells
            rw [kT_set hm1]
            rfl
          rw [e4]
          exact hq4
      have hlowT := HK.out.low (.t m) hm
      have hB4 : Below B w W4 := by rw [hW4]; exact (((HB1.out.setCell (p := ⟨L.b (.t m), 3, none⟩) hlowT _).setCell (p := ⟨L.b (.t m), 5, none⟩) hlowT _).setCell (p := ⟨L.b (.t m), 7, none⟩) hlowT _).setCell (p := ⟨L.b (.t m), 8, none⟩) hlowT _
      have hBW4 : B ≤ W4.heap.size := by have := HB1.out.size; have := hz4.out; omega
      have c42 : W4.cell? ⟨L.b (.t m), 2, none⟩ = some (.int .i64 p) := by
        have q := (hK4.out.task (i := m) (by rw [setT_len]; exact hm1)).cell 2
        rw [ebt] at q
        rw [q]
        show some (Value.int .i64 (kT ((k.setL (64 + i) (·.erase (m : Int))).setT m _) m).prio) = _
        rw [kT_set hm1]
        show some (Value.int .i64 (kT k m).prio) = _
        rw [HP.out]
      have c43 := hK4.out.row hp32
      rw [ebk] at c43
      have c44 : W4.frozen? ⟨L.b .ker, 4 + p, none⟩ = false := by have := hK4.out.ker.frozen (4 + p); rw [ebk] at this; exact this
      have hltT : L.b (.t m) < W4.heap.size := by have := hK4.out.lt (c := .t m) (by simp [Part.live, setT_len]; exact hm1); rw [ebt] at this; exact this
      have hltK : L.b .ker < W4.heap.size := by have := hK4.out.lt (c := .ker) trivial; rw [ebk] at this; exact this
      obtain ⟨gl, hgl⟩ : ∃ gl, gl = (if L1.nil (.l p) then none else some (L1.b (.l p))) := ⟨_, rfl⟩
      have hLH := hK4.out.head (x := p) (by omega)
      rw [← hgl] at hLH
      have hgis : ∀ b (g5 : Option Nat), g5 = some b → (g5 = gl ∨ ∃ x, g5 = some x ∧ ((W4.alloc (.cells #[.int .i64 m] 3)).drew).heap.size ≤ x) → (L1.nil (.l p) = false ∧ b = L1.b (.l p)) ∨ ((W4.alloc (.cells #[.int .i64 m] 3)).drew).heap.size ≤ b := by
        intro b g5 hb hg
        rcases hg with hg | ⟨x, hg, hx⟩
        · rw [hb, hgl] at hg
          cases hn : L1.nil (.l p) with
          | true => rw [hn, if_pos rfl] at hg; cases hg
          | false => rw [hn] at hg; exact .inl ⟨rfl, by simpa using hg⟩
        · rw [hb] at hg
          obtain rfl := Option.some.inj hg
          exact .inr hx
      have hgnot : ∀ b, (L1.nil (.l p) = false → b ≠ L1.b (.l p)) → gl ≠ some b := by
        intro b hne e
        rw [hgl] at e
        cases hn : L1.nil (.l p) with
        | true => rw [hn, if_pos rfl] at e; cases e
        | false => rw [hn] at e; exact hne hn (by simpa using e.symm)
      have hneT : gl ≠ some (L.b (.t m)) := hgnot _ fun hn e => by
        have := hK4.out.apart (.t m) (.l p) (by simp [Part.live, setT_len]; exact hm1) ⟨by omega, hn⟩ (by rw [ebt]; exact e)
        cases this
      have hneK : gl ≠ some (L.b .ker) := hgnot _ fun hn e => by
        have := hK4.out.apart .ker (.l p) trivial ⟨by omega, hn⟩ (by rw [ebk]; exact e)
        cases this
      have HLA : Hid (LHead ((W4.alloc (.cells #[.int .i64 m] 3)).drew) (L1.hd (.l p) (((k.setL (64 + i) (·.erase (m : Int))).setT m fun t => { t with state := 0, answer := answer, on := none, left := 0 }).l p).length) (((k.setL (64 + i) (·.erase (m : Int))).setT m fun t => { t with state := 0, answer := answer, on := none, left := 0 }).l p) gl) := hLH.keep fun b hb => Below.heap_alloc W4 _ b hb
      have hlen5 : (((k.setL (64 + i) (·.erase (m : Int))).setT m fun t => { t with state := 0, answer := answer, on := none, left := 0 }).l p).length ≤ 1000000 := by show ((k.setL (64 + i) _).l p).length ≤ 1000000; rw [setL_other (by omega)]; omega
      have hnew : ((W4.alloc (.cells #[.int .i64 m] 3)).drew).cell? ⟨W4.heap.size, 0, none⟩ = some (.int .i64 m) := (Whole.made W4 3 #[.int .i64 m]).cell 0
      generalize hVV : L1.hd (.l p) (((k.setL (64 + i) (·.erase (m : Int))).setT m fun t => { t with state := 0, answer := answer, on := none, left := 0 }).l p).length = VV at *
      have c42a : ((W4.alloc (.cells #[.int .i64 m] 3)).drew).cell? ⟨L.b (.t m), 2, none⟩ = some (.int .i64 p) := (World.cell?_alloc_lt W4 _ ⟨L.b (.t m), 2, none⟩ hltT).trans c42
      have c43a : ((W4.alloc (.cells #[.int .i64 m] 3)).drew).cell? ⟨L.b .ker, 4 + p, none⟩ = some VV := (World.cell?_alloc_lt W4 _ ⟨L.b .ker, 4 + p, none⟩ hltK).trans c43
      have c44a : ((W4.alloc (.cells #[.int .i64 m] 3)).drew).frozen? ⟨L.b .ker, 4 + p, none⟩ = false := (World.frozen?_of_block (a := ⟨L.b .ker, 4 + p, none⟩) (Below.heap_alloc W4 _ _ hltK)).trans c44
      have hkt : L.b .ker ≠ L.b (.t m) := fun e => by cases HK.out.apart .ker (.t m) trivial hm e
      have hkt' : L.b (.t m) ≠ L.b .ker := fun e => hkt e.symm
      have HO4 : Hid (∀ g, Out w k L g → Out W4 (((k.setL (64 + i) (·.erase (m : Int))).setT m fun t => { t with state := 0, answer := answer, on := none, left := 0 })) L1 g ∧ W4.heap[g]? = w.heap[g]?) := fun g hg => by
        have hne : g ≠ L.b (.t m) := fun e => hg.2 (.t m) hm e.symm
        refine ⟨Out.near (w' := W4) hg (HN1.out.trans (setT_near (N := w.heap.size) hm1 rfl) (Nat.le_refl _)) (by rw [hz4.out]; exact HB1.out.size), ?_⟩
        rw [hW4, Below.heap_setCell _ _ _ _ hne, Below.heap_setCell _ _ _ _ hne, Below.heap_setCell _ _ _ _ hne, Below.heap_setCell _ _ _ _ hne]
        exact HF1.out g hg
      have HN4 : Hid (Near w.heap.size k L (((k.setL (64 + i) (·.erase (m : Int))).setT m fun t => { t with state := 0, answer := answer, on := none, left := 0 })) L1) := HN1.out.trans (setT_near (N := w.heap.size) hm1 rfl) (Nat.le_refl _)
      have HZ4 : Hid (w.heap.size ≤ W4.heap.size) := by show _ ≤ _; rw [hz4.out]; exact HB1.out.size
      have HB4 := Lib.hid hB4
      clear hB4 hLH hVV hW4 t2 t3 t5 t7 t8 f3 f5 f7 f8
      refine wp_region_held_drew (S := fun w' => w'.cell? ⟨L.b (.t m), 2, none⟩ = some (.int .i64 p)) (by kernel_rfl) ?_ (fun hHeld => ?_)
      · (try dsimp only)
        go_keep
      refine wpAnyH_take (i := 0) (v := ?_) rfl (by kernel_rfl) (by kernel_rfl) (by kernel_rfl) (fun _ _ _ h => h) (Or.inl ⟨by rfl, ?_⟩) (by assumption) ?_
      rotate_left
      · intro w hSw
        (try dsimp only at hSw)
        go_simp
        with_reducible rfl
      try simp only [Act.put, List.setIfInBounds_toArray]
      refine wpAnyH_take (i := 1) (v := ?_) rfl (by kernel_rfl) (by kernel_rfl) (by kernel_rfl) (fun _ _ _ h => h) (Or.inl ⟨by rfl, ?_⟩) (by assumption) ?_
      rotate_left
      · intro w hSw
        (try dsimp only at hSw)
        go_simp
        with_reducible rfl
      try simp only [Act.put]
      refine wpAnyH_take (i := 2) (v := ?_) rfl (by kernel_rfl) (by kernel_rfl) (by kernel_rfl) (fun _ _ _ h => h) (Or.inl ⟨by rfl, ?_⟩) (by assumption) ?_
      rotate_left
      · intro w hSw
        (try dsimp only at hSw)
        go_simp
        with_reducible rfl
      try simp only [Act.put]
      refine wpAnyH_take (i := 3) (v := ?_) rfl (by kernel_rfl) (by kernel_rfl) (by kernel_rfl) (fun _ _ _ h => h) (Or.inl ⟨by rfl, ?_⟩) (by assumption) ?_
      rotate_left
      · intro w hSw
        (try dsimp only at hSw)
        go_simp
        with_reducible rfl
      try simp only [Act.put]
      refine wpAnyH_take (i := 4) (v := ?_) rfl (by kernel_rfl) (by kernel_rfl) (by kernel_rfl) (fun _ _ _ h => h) (Or.inl ⟨by rfl, ?_⟩) (by assumption) ?_
      rotate_left
      · intro w hSw
        (try dsimp only at hSw)
        go_simp
        with_reducible rfl
      try simp only [Act.put]
      refine wpAnyH_take (i := 5) (v := ?_) rfl (by kernel_rfl) (by kernel_rfl) (by kernel_rfl) (fun _ _ _ h => h) (Or.inl ⟨by rfl, ?_⟩) (by assumption) ?_
      rotate_left
      · intro w hSw
        (try dsimp only at hSw)
        go_simp
        with_reducible rfl
      try simp only [Act.put]
      refine wpAnyH_take (i := 6) (v := ?_) rfl (by kernel_rfl) (by kernel_rfl) (by kernel_rfl) (fun _ _ _ h => h) (Or.inl ⟨by rfl, ?_⟩) (by assumption) ?_
      rotate_left
      · intro w hSw
        (try dsimp only at hSw)
        go_simp
        with_reducible rfl
      try simp only [Act.put]
      refine wpAnyH_take (i := 7) (v := ?_) rfl (by kernel_rfl) (by kernel_rfl) (by kernel_rfl) (fun _ _ _ h => h) (Or.inl ⟨by rfl, ?_⟩) (by assumption) ?_
      rotate_left
      · intro w hSw
        (try dsimp only at hSw)
        go_simp
        with_reducible rfl
      try simp only [Act.put]
      refine wpAnyH_take (i := 8) (v := ?_) rfl (by kernel_rfl) (by kernel_rfl) (by kernel_rfl) (fun _ _ _ h => h) (Or.inl ⟨by rfl, ?_⟩) (by assumption) ?_
      rotate_left
      · intro w hSw
        (try dsimp only at hSw)
        go_simp
        with_reducible rfl
      try simp only [Act.put]
      refine wpAnyH_take (i := 9) (v := ?_) rfl (by kernel_rfl) (by kernel_rfl) (by kernel_rfl) (fun _ _ _ h => h) (Or.inl ⟨by rfl, ?_⟩) (by assumption) ?_
      rotate_left
      · intro w hSw
        (try dsimp only at hSw)
        go_simp
        with_reducible rfl
      try simp only [Act.put]
      refine wpAnyH_take (i := 10) (v := ?_) rfl (by kernel_rfl) (by kernel_rfl) (by kernel_rfl) (fun _ _ _ h => h) (Or.inl ⟨by rfl, ?_⟩) (by assumption) ?_
      rotate_left
      · intro w hSw
        (try dsimp only at hSw)
        go_simp
        with_reducible rfl
      try simp only [Act.put]
      refine wpAnyH_take (i := 11) (v := ?_) rfl (by kernel_rfl) (by kernel_rfl) (by kernel_rfl) (fun _ _ _ h => h) (Or.inl ⟨by rfl, ?_⟩) (by assumption) ?_
      rotate_left
      · intro w hSw
        (try dsimp only at hSw)
        go_simp
        with_reducible rfl
      try simp only [Act.put]
      refine wpAnyH_take (i := 12) (v := ?_) rfl (by kernel_rfl) (by kernel_rfl) (by kernel_rfl) (fun _ _ _ h => h) (Or.inl ⟨by rfl, ?_⟩) (by assumption) ?_
      rotate_left
      · intro w hSw
        (try dsimp only at hSw)
        go_simp
        with_reducible rfl
      try simp only [Act.put]
      refine wpAnyH_take (i := 14) (v := ?_) rfl (by kernel_rfl) (by kernel_rfl) (by kernel_rfl) (fun _ _ _ h => h) (Or.inl ⟨by rfl, ?_⟩) (by assumption) ?_
      rotate_left
      · intro w hSw
        (try dsimp only at hSw)
        go_simp
        with_reducible rfl
      try simp only [Act.put]
      refine wpAnyH_take (i := 17) (v := ?_) rfl (by kernel_rfl) (by kernel_rfl) (by kernel_rfl) (fun _ _ _ h => h) (Or.inl ⟨by rfl, ?_⟩) (by assumption) ?_
      rotate_left
      · intro w hSw
        (try dsimp only at hSw)
        go_simp
        with_reducible rfl
      try simp only [Act.put]
      refine wpAnyH_take (i := 18) (v := ?_) rfl (by kernel_rfl) (by kernel_rfl) (by kernel_rfl) (fun _ _ _ h => h) (Or.inl ⟨by rfl, ?_⟩) (by assumption) ?_
      rotate_left
      · intro w hSw
        (try dsimp only at hSw)
        go_simp
        with_reducible rfl
      try simp only [Act.put]
      refine wpAnyH_ready (rs := [13, 15]) (by kernel_rfl) (by simp) ?_
      refine AllReadyH.cons rfl (fun K hK => ?_) ?_
      · go_simp
        refine hK.out _ _ ?_ (fun hHeld => ?_)
        · (try dsimp only)
          go_keep
        clear hK K
        try simp only [Act.put, List.setIfInBounds_toArray, List.set_cons_zero, List.set_cons_succ]
        refine wpAnyH_ready (rs := [15]) (by kernel_rfl) (by simp) ?_
        refine AllReadyH.cons rfl (fun K hK => ?_) ?_
        · go_simp
          refine hK.out _ _ ?_ (fun hHeld => ?_)
          · (try dsimp only)
            go_keep
          clear hK K
          try simp only [Act.put, List.setIfInBounds_toArray, List.set_cons_zero, List.set_cons_succ]
          refine wpAnyH_ready (rs := [16]) (by kernel_rfl) (by simp) ?_
          refine AllReadyH.cons rfl (fun K hK => ?_) ?_
          · (refine step_append_list rfl _ _ rfl (by rfl) HLA.out hlen5 (m : Int) ⟨W4.heap.size, 0, none⟩ 1 (by rfl) (by exact hnew) ?_; intro v' w5 hap; obtain ⟨g5, hv5, hg5, hs5, hgr5⟩ := hap; obtain ⟨A5, c5, e5⟩ := hv5.slice; subst e5; have z1 : w5.cell? ⟨L.b (.t m), 2, none⟩ = some (.int .i64 p) := (World.cell?_of_block (a := ⟨L.b (.t m), 2, none⟩) (hs5 _ (by simp; omega) hneT)).trans c42a; have z2 := (World.cell?_of_block (a := ⟨L.b .ker, 4 + p, none⟩) (hs5 _ (by simp; omega) hneK)).trans c43a; have z3 := (World.frozen?_of_block (a := ⟨L.b .ker, 4 + p, none⟩) (hs5 _ (by simp; omega) hneK)).trans c44a)
            refine hK.out _ _ ?_ (fun hHeld => ?_)
            · (try dsimp only)
              go_keep
            clear hK K
            try simp only [Act.put, List.setIfInBounds_toArray]
            refine wpAnyH_take (i := 19) (v := ?_) rfl (by kernel_rfl) (by kernel_rfl) (by kernel_rfl) (fun _ _ _ h => h) (Or.inl ⟨by rfl, ?_⟩) (by assumption) ?_
            rotate_left
            · intro w hSw
              (try dsimp only at hSw)
              go_simp
              with_reducible rfl
            try simp only [Act.put]
            refine wpAnyH_ready (rs := [20]) (by kernel_rfl) (by simp) ?_
            refine AllReadyH.cons rfl (fun K hK => ?_) ?_
            · go_simp
              refine hK.out _ _ ?_ (fun hHeld => ?_)
              · (try dsimp only)
                go_keep
              clear hK K
              try simp only [Act.put, List.setIfInBounds_toArray, List.set_cons_zero, List.set_cons_succ]
              refine wpAnyH_done (by kernel_rfl) ?_ _
              go_wp2_with fail
              go_end0
              obtain ⟨L', k5, s5, n5⟩ := (hK4.out.below (((Below.refl W4.heap.size W4).alloc (Nat.le_refl _) (.cells #[.int .i64 m] 3)).drew)).putListN (f := (· ++ [(m : Int)])) (show p < 72 by omega) (by rw [(holder_row hp32).1]; trivial) hv5 (fun b hb hne => hs5 b hb (hgnot b hne)) (fun b hb => hgis b _ hb hg5) (by simp; omega)
              rw [(holder_row hp32).1, (holder_row hp32).2] at k5
              try rw [ebk] at k5
              rw [List.length_append, List.length_singleton] at k5
              rw [EW.out]
              exact ⟨rfl, L', k5, HS1.out.trans s5, wakeBelow HB4.out hBW4 hgr5 (fun b hb => by rw [hgl] at hb; split at hb; cases hb; obtain rfl := Option.some.inj hb; rename_i hn; exact HK1.out.low (.l p) ⟨by omega, by simpa using hn⟩) (HK.out.low .ker trivial), HN4.out.trans n5 (by have := HZ4.out; simp; omega), fun g hg => by
                obtain ⟨og, fg⟩ := HO4.out g hg
                exact (Below.heap_setCell _ _ _ _ (fun e => hg.2 .ker trivial e.symm)).trans ((hs5 g (by have := og.1; simp; omega) (hgnot g (fun hn e => og.2 (.l p) ⟨by omega, hn⟩ e.symm))).trans ((Below.heap_alloc W4 _ g og.1).trans fg))⟩
            exact AllReadyH.nil
          exact AllReadyH.nil
        exact AllReadyH.nil
      refine AllReadyH.cons rfl (fun K hK => ?_) ?_
      · go_simp
        refine hK.out _ _ ?_ (fun hHeld => ?_)
        · (try dsimp only)
          go_keep
        clear hK K
        try simp only [Act.put, List.setIfInBounds_toArray, List.set_cons_zero, List.set_cons_succ]
        refine wpAnyH_ready (rs := [13]) (by kernel_rfl) (by simp) ?_
        refine AllReadyH.cons rfl (fun K hK => ?_) ?_
        · go_simp
          refine hK.out _ _ ?_ (fun hHeld => ?_)
          · (try dsimp only)
            go_keep
          clear hK K
          try simp only [Act.put, List.setIfInBounds_toArray, List.set_cons_zero, List.set_cons_succ]
          refine wpAnyH_ready (rs := [16]) (by kernel_rfl) (by simp) ?_
          refine AllReadyH.cons rfl (fun K hK => ?_) ?_
          · (refine step_append_list rfl _ _ rfl (by rfl) HLA.out hlen5 (m : Int) ⟨W4.heap.size, 0, none⟩ 1 (by rfl) (by exact hnew) ?_; intro v' w5 hap; obtain ⟨g5, hv5, hg5, hs5, hgr5⟩ := hap; obtain ⟨A5, c5, e5⟩ := hv5.slice; subst e5; have z1 : w5.cell? ⟨L.b (.t m), 2, none⟩ = some (.int .i64 p) := (World.cell?_of_block (a := ⟨L.b (.t m), 2, none⟩) (hs5 _ (by simp; omega) hneT)).trans c42a; have z2 := (World.cell?_of_block (a := ⟨L.b .ker, 4 + p, none⟩) (hs5 _ (by simp; omega) hneK)).trans c43a; have z3 := (World.frozen?_of_block (a := ⟨L.b .ker, 4 + p, none⟩) (hs5 _ (by simp; omega) hneK)).trans c44a)
            refine hK.out _ _ ?_ (fun hHeld => ?_)
            · (try dsimp only)
              go_keep
            clear hK K
            try simp only [Act.put, List.setIfInBounds_toArray]
            refine wpAnyH_take (i := 19) (v := ?_) rfl (by kernel_rfl) (by kernel_rfl) (by kernel_rfl) (fun _ _ _ h => h) (Or.inl ⟨by rfl, ?_⟩) (by assumption) ?_
            rotate_left
            · intro w hSw
              (try dsimp only at hSw)
              go_simp
              with_reducible rfl
            try simp only [Act.put]
            refine wpAnyH_ready (rs := [20]) (by kernel_rfl) (by simp) ?_
            refine AllReadyH.cons rfl (fun K hK => ?_) ?_
            · go_simp
              refine hK.out _ _ ?_ (fun hHeld => ?_)
              · (try dsimp only)
                go_keep
              clear hK K
              try simp only [Act.put, List.setIfInBounds_toArray, List.set_cons_zero, List.set_cons_succ]
              refine wpAnyH_done (by kernel_rfl) ?_ _
              go_wp2_with fail
              go_end0
              obtain ⟨L', k5, s5, n5⟩ := (hK4.out.below (((Below.refl W4.heap.size W4).alloc (Nat.le_refl _) (.cells #[.int .i64 m] 3)).drew)).putListN (f := (· ++ [(m : Int)])) (show p < 72 by omega) (by rw [(holder_row hp32).1]; trivial) hv5 (fun b hb hne => hs5 b hb (hgnot b hne)) (fun b hb => hgis b _ hb hg5) (by simp; omega)
              rw [(holder_row hp32).1, (holder_row hp32).2] at k5
              try rw [ebk] at k5
              rw [List.length_append, List.length_singleton] at k5
              rw [EW.out]
              exact ⟨rfl, L', k5, HS1.out.trans s5, wakeBelow HB4.out hBW4 hgr5 (fun b hb => by rw [hgl] at hb; split at hb; cases hb; obtain rfl := Option.some.inj hb; rename_i hn; exact HK1.out.low (.l p) ⟨by omega, by simpa using hn⟩) (HK.out.low .ker trivial), HN4.out.trans n5 (by have := HZ4.out; simp; omega), fun g hg => by
                obtain ⟨og, fg⟩ := HO4.out g hg
                exact (Below.heap_setCell _ _ _ _ (fun e => hg.2 .ker trivial e.symm)).trans ((hs5 g (by have := og.1; simp; omega) (hgnot g (fun hn e => og.2 (.l p) ⟨by omega, hn⟩ e.symm))).trans ((Below.heap_alloc W4 _ g og.1).trans fg))⟩
            exact AllReadyH.nil
          exact AllReadyH.nil
        exact AllReadyH.nil
      exact AllReadyH.nil
theorem wake_any {w : World} {B M : Nat} {k : Kn.K} {L : Lay} {m : Nat} (answer : Int) (h : KM w B k L) (hf : Fine k M) (hM : M ≤ 1000000) (hm : m < k.tasks.length) (hB : B ≤ w.heap.size) (hon : ∀ x, (kT k m).on = some x → OnOk k x) :
    Calls Try.prog 55 #[L.ptr .ker 0, .int .i64 m, .int .i64 answer] w fun e w' => e = .returned (.tuple #[]) ∧ ∃ L', KM w' B (k.wake m answer) L' ∧ Sam L L' ∧ Below B w w' :=
  (wake_near answer h hf hM hm hB hon).mono fun _ _ ⟨a, L', b, c, d, _⟩ => ⟨a, L', b, c, d⟩
end Go.Proofs.Ytncbgnpoffolcaa
