/-
  LexerStrings: the walks of count and of the law.
-/
import Derived.Test.YtoidmljhlekbkaaDoorAlive
import Derived.Test.YtoidmljhlekbkaaDoorStrsP
import Derived.Deep.QuietTactic
import Derived.BigQuiet
import Derived.Laws.Runes
namespace Go.Proofs.YtoidmljhlekbkaaDoor
open Go.RowKit
def cnt : Bool → List UInt8 → Nat
  | _, [] => 0
  | true, _ :: l => cnt false l
  | false, b :: l => if b = 92 then 1 + cnt true l else cnt false l
theorem cnt_true (l : List UInt8) : cnt true l = cnt false (l.drop 1) := by
  cases l with
  | nil => rfl
  | cons b l => simp [cnt]
theorem cnt_le (l : List UInt8) : ∀ f, cnt f l ≤ l.length := by
  induction l with
  | nil => intro f; simp [cnt]
  | cons b l ih =>
    intro f
    have h1 := ih false
    have h2 := ih true
    cases f
    · simp only [cnt, List.length_cons]
      split <;> omega
    · simp only [cnt, List.length_cons]
      omega
theorem count_fn (l : List UInt8) (w : World) (hl : l.length ≤ 100000) :
    Calls Tryd.prog 16 #[.string ⟨l.toArray⟩] w fun e w' => e = .returned (.int .i64 (cnt false l)) ∧ w = w' := by
  have hsz : (⟨l.toArray⟩ : ByteArray).size = l.length := by show l.toArray.size = _; simp
  have hc := cnt_le l false
  obtain ⟨S, hS⟩ : ∃ S : ByteArray, S = ⟨l.toArray⟩ := ⟨_, rfl⟩
  rw [← hS] at hsz ⊢
  have hbs : ∀ k (h : k < S.size) (h' : k < l.length), S[k] = l[k] := fun k h h' => by subst hS; rfl
  have HB := Lib.hid hbs
  clear hS hbs
  go_enter Tryd.func16, Tryd.ntmps16
  go_wp2_with fail
  go_loop [3, 4] (fun n i => ∃ c k : Nat, n = .int .i64 c ∧ i = .int .i64 k ∧ k ≤ l.length + 1 ∧ c + cnt false (l.drop k) = cnt false l) (fun _ i => l.length + 1 - (intOf i).toNat)
  case atStart => exact ⟨0, 0, rfl, rfl, by omega, by simp⟩
  case round =>
    obtain ⟨c, k, rfl, rfl, hk, hck⟩ := hrel
    by_cases hlt : k < l.length
    · have hlt0 : k < S.size := by omega
      have hlt' : (k : Int) < S.size := by omega
      have hb := HB.out k hlt0 hlt
      have hd : l.drop k = l[k] :: l.drop (k + 1) := List.drop_eq_getElem_cons hlt
      by_cases h92 : l[k] = 92
      · have ct : (((S[k]'hlt0).toNat : Int) == 92) = true := by rw [hb, h92]; rfl
        have hd2 : cnt false (l.drop k) = 1 + cnt false (l.drop (k + 1 + 1)) := by
          rw [hd, cnt, if_pos h92, cnt_true, List.drop_drop]
        clear hb hd h92
        go_wp2_with fail
        exact ⟨⟨c + 1, k + 1 + 1, by go_num, by go_num, by omega, by omega⟩, by simp [intOf]; omega⟩
      · have ct : (((S[k]'hlt0).toNat : Int) == 92) = false := by
          rw [hb]
          have : l[k].toNat ≠ 92 := fun e => h92 (UInt8.toNat_inj.1 e)
          simp
          omega
        have hd2 : cnt false (l.drop k) = cnt false (l.drop (k + 1)) := by
          rw [hd, cnt, if_neg h92]
        clear hb hd h92
        go_wp2_with fail
        exact ⟨⟨c, k + 1, by go_num, by go_num, by omega, by omega⟩, by simp [intOf]; omega⟩
    · have hlt' : ¬ (k : Int) < S.size := by omega
      have : cnt false (l.drop k) = 0 := by rw [List.drop_eq_nil_of_le (by omega)]; rfl
      have e : (c : Int) = cnt false l := by omega
      go_wp2_with fail
      go_ret
      rw [← e]
      exact ⟨rfl, rfl⟩
theorem cnt_pass (p q : List UInt8) (h : ∀ b ∈ p, b ≠ 92) : cnt false (p ++ q) = cnt false q := by
  induction p with
  | nil => rfl
  | cons b p ih =>
    show (if b = 92 then _ else _) = _
    rw [if_neg (h b (by simp))]
    exact ih fun c hc => h c (by simp [hc])
theorem encode_no92 (r : Int) (hv : validR r) (h : r ≠ 92) : ∀ b ∈ (Utf8.encode r).data.toList, b ≠ 92 := by
  have h0 : 0 ≤ r ∧ r ≤ 1114111 := by unfold validR at hv; omega
  rw [← encode_list r h0.1 h0.2]
  intro b hb
  unfold Lib.encodeRune at hb
  obtain ⟨z, hz, rfl⟩ := List.mem_map.1 hb
  have key : 0 ≤ z ∧ z < 256 ∧ z ≠ 92 := by
    unfold Lib.encodeRuneZ at hz
    repeat' split at hz
    all_goals
      simp at hz
      omega
  intro e
  have e2 := congrArg UInt8.toNat e
  simp at e2
  omega
theorem runesBytes_cons (c : Int) (l : List Int) : Lx.runesBytes (c :: l) = (Utf8.encode c).data.toList ++ Lx.runesBytes l := by simp [Lx.runesBytes]
theorem runesBytes_app (a b : List Int) : Lx.runesBytes (a ++ b) = Lx.runesBytes a ++ Lx.runesBytes b := by simp [Lx.runesBytes]
theorem cnt_escs (l : List Int) (hv : ∀ c ∈ l, validR c) : cnt false (Lx.runesBytes (escs l)) = escCount l := by
  induction l with
  | nil => rfl
  | cons c l ih =>
    have ee : escs (c :: l) = escOf c ++ escs l := by simp [escs]
    have e2 : escCount (c :: l) = (if c = 10 ∨ c = 34 ∨ c = 92 then 1 else 0) + escCount l := by simp [escCount]
    have hc := hv c (by simp)
    have ih' := ih fun d hd => hv d (by simp [hd])
    rw [ee, runesBytes_app, e2]
    unfold escOf
    by_cases h1 : c = 10
    · rw [if_pos h1, if_pos (.inl h1), show Lx.runesBytes [92, 110] = [92, 110] by decide +kernel]
      show (if (92 : UInt8) = 92 then _ else _) = _
      rw [if_pos rfl, cnt_true, ← ih']
      rfl
    · by_cases h2 : c = 34 ∨ c = 92
      · rw [if_neg h1, if_pos h2, if_pos (.inr h2)]
        rcases h2 with rfl | rfl
        · rw [show Lx.runesBytes [92, 34] = [92, 34] by decide +kernel]
          show (if (92 : UInt8) = 92 then _ else _) = _
          rw [if_pos rfl, cnt_true, ← ih']
          rfl
        · rw [show Lx.runesBytes [92, 92] = [92, 92] by decide +kernel]
          show (if (92 : UInt8) = 92 then _ else _) = _
          rw [if_pos rfl, cnt_true, ← ih']
          rfl
      · rw [if_neg h1, if_neg h2, if_neg (by omega), Nat.zero_add, ← ih']
        refine cnt_pass _ _ fun b hb => ?_
        have : b ∈ (Utf8.encode c).data.toList := by simpa [Lx.runesBytes] using hb
        exact encode_no92 c hc (by omega) b this
def IsRow (k : IntKind) (w : World) (a : Option Addr) (len cap : Nat) (zs : List Int) : Prop :=
  (a = none ∧ len = 0 ∧ cap = 0 ∧ zs = []) ∨
  ∃ x, a = some x ∧ len ≤ cap ∧ cap ≤ maxLen ∧ zs.length = cap ∧ (∀ i, i < zs.length → w.cell? (x.add i) = some (.int k (zs.getD i 0))) ∧ ∀ n ∈ zs, (Lit.int k n).wf = true
def txtB (zs : List Int) (k : Nat) : ByteArray := ⟨(Lx.runesBytes (zs.take k)).toArray⟩
def srcB (zs : List Int) (k : Nat) : ByteArray := ⟨(34 :: Lx.runesBytes (escs (zs.take k))).toArray⟩
theorem take_succ_getD (zs : List Int) (k : Nat) (h : k < zs.length) : zs.take (k + 1) = zs.take k ++ [zs.getD k 0] := by
  rw [List.take_succ_eq_append_getElem h]
  simp [List.getD, h]
theorem array_bytes (s : ByteArray) : s = ⟨s.data.toList.toArray⟩ := by simp
theorem txtB_step (zs : List Int) (k : Nat) (h : k < zs.length) : txtB zs k ++ Utf8.encode (zs.getD k 0) = txtB zs (k + 1) := by
  unfold txtB
  rw [take_succ_getD zs k h, runesBytes_app]
  have : Lx.runesBytes [zs.getD k 0] = (Utf8.encode (zs.getD k 0)).data.toList := by simp [Lx.runesBytes]
  rw [this, ← bytes_app, ← array_bytes]
theorem srcB_step (zs : List Int) (k : Nat) (h : k < zs.length) : srcB zs (k + 1) = srcB zs k ++ ⟨(Lx.runesBytes (escOf (zs.getD k 0))).toArray⟩ := by
  unfold srcB
  rw [take_succ_getD zs k h]
  have : escs (zs.take k ++ [zs.getD k 0]) = escs (zs.take k) ++ escOf (zs.getD k 0) := by simp [escs]
  rw [this, runesBytes_app, bytes_app]
  rfl
theorem txtB_size (zs : List Int) (k : Nat) (hv : ∀ c ∈ zs.take k, validR c) : (txtB zs k).size ≤ 4 * k := by
  have h1 := runesBytes_len _ hv
  have h2 : (zs.take k).length ≤ k := by simp; omega
  show (Lx.runesBytes (zs.take k)).toArray.size ≤ _
  simp
  omega
theorem escCount_le (l : List Int) : escCount l ≤ l.length := by
  induction l with
  | nil => simp [escCount]
  | cons c l ih => simp [escCount] at *; split <;> omega
theorem srcB_size (zs : List Int) (k : Nat) (hv : ∀ c ∈ zs.take k, validR c) : (srcB zs k).size ≤ 8 * k + 1 := by
  have h1 := runesBytes_len _ (escs_valid _ hv)
  have h2 : (zs.take k).length ≤ k := by simp; omega
  have h3 := escs_len (zs.take k)
  have h4 := escCount_le (zs.take k)
  show (34 :: Lx.runesBytes (escs (zs.take k))).toArray.size ≤ _
  simp
  omega
theorem encode_size (r : Int) : (Utf8.encode r).size ≤ 4 := by
  show (Utf8.encode r).data.size ≤ 4
  unfold Utf8.encode
  simp only []
  repeat' split
  all_goals simp
theorem strings_off (a : Option Addr) (len cap : Nat) (w : World) (hT : Lib.Utf8Tabs 0 1 w) (h2 : 2 ≤ w.heap.size) (hn : 100 < len) :
    Calls Tryd.prog 6 #[.slice a len cap] w fun e w' => e = .returned (.bool true) ∧ Below w.heap.size w w' := by
  have hn' : (100 : Int) < len := by omega
  go_enter Tryd.func6, Tryd.ntmps6
  go_wp2_with fail
  refine (alive_any w hT h2).mono ?_
  rintro e w1 ⟨rfl, hb⟩
  go_wp2_with fail
  go_ret
  exact ⟨rfl, hb⟩
theorem strings_in (a : Option Addr) (len cap : Nat) (zs : List Int) (w : World) (hT : Lib.Utf8Tabs 0 1 w) (h2 : 2 ≤ w.heap.size) (hn : len ≤ 100) (hz : len ≤ zs.length)
    (ha : ∀ k, k < len → ∃ b off, a = some ⟨b, off, none⟩ ∧ w.cell? ⟨b, off + k, none⟩ = some (.int .i64 (zs.getD k 0))) :
    Calls Tryd.prog 6 #[.slice a len cap] w fun e w' => e = .returned (.bool true) ∧ Below w.heap.size w w' := by
  have hn' : ¬ (100 : Int) < len := by omega
  go_enter Tryd.func6, Tryd.ntmps6
  go_wp2_with fail
  refine (alive_any w hT h2).mono ?_
  rintro e w1 ⟨rfl, hb⟩
  go_wp2_with fail
  have hs1 := hb.size
  go_loop [4, 5, 6] (fun t s i => ∃ k : Nat, k ≤ len ∧ i = .int .i64 k ∧ t = .string (txtB zs k) ∧ s = .string (srcB zs k) ∧ ∀ c ∈ zs.take k, validR c) (fun _ _ i => len - (intOf i).toNat)
  case atStart => exact ⟨0, Nat.zero_le _, rfl, rfl, rfl, by simp⟩
  case round =>
    obtain ⟨k, hk, rfl, rfl, rfl, hv⟩ := hrel
    by_cases hlt : k < len
    · obtain ⟨b, off, rfl, hcell⟩ := ha k hlt
      have hcell1 := (hb.cell (p := ⟨b, off + k, none⟩) (World.block_lt_of_cell? w _ hcell)).trans hcell
      obtain ⟨r, hr⟩ : ∃ r, r = zs.getD k 0 := ⟨_, rfl⟩
      have EV := Lib.hid hv
      have E1 : Hid (txtB zs k ++ Utf8.encode r = txtB zs (k + 1)) := by rw [hr]; exact txtB_step zs k (by omega)
      have E2 : Hid (srcB zs (k + 1) = srcB zs k ++ ⟨(Lx.runesBytes (escOf r)).toArray⟩) := by rw [hr]; exact srcB_step zs k (by omega)
      have E3 : Hid (zs.take (k + 1) = zs.take k ++ [r]) := by rw [hr]; exact take_succ_getD zs k (by omega)
      rw [← hr] at hcell hcell1
      clear hr hv
      have hlt' : (k : Int) < len := by omega
      by_cases hbad : r < 0 ∨ 1114111 < r ∨ (55296 ≤ r ∧ r < 57344)
      · have hbad' : r < 0 ∨ (¬ r < 0 ∧ 1114111 < r) ∨ (¬ r < 0 ∧ ¬ 1114111 < r ∧ 55296 ≤ r ∧ r < 57344) := by omega
        clear hbad
        rcases hbad' with c1 | ⟨c1, c2⟩ | ⟨c1, c2, c3, c4⟩
        all_goals
          go_wp2_with fail
          go_ret
          exact ⟨rfl, hb⟩
      · have hs2 := txtB_size zs k EV.out
        have hs3 := srcB_size zs k EV.out
        have hs4 := encode_size r
        have hval : validR r := by unfold validR; omega
        have EV2 : Hid (∀ c ∈ zs.take (k + 1), validR c) := by
          show ∀ c ∈ zs.take (k + 1), validR c
          rw [E3.out]
          intro c hc
          rcases List.mem_append.1 hc with hc | hc
          · exact EV.out c hc
          · rw [List.mem_singleton.1 hc]; exact hval
        have hok : (¬ r < 0 ∧ ¬ 1114111 < r ∧ r < 55296) ∨ (¬ r < 0 ∧ ¬ 1114111 < r ∧ 55296 ≤ r ∧ ¬ r < 57344) := by omega
        clear hbad hval
        by_cases h10 : r = 10
        · have E4 : Hid (srcB zs k ++ ⟨#[92, 110]⟩ = srcB zs (k + 1)) := by
            show srcB zs k ++ _ = _
            rw [E2.out, h10, show Lx.runesBytes (escOf 10) = [92, 110] by decide +kernel]
          subst h10
          clear hok
          go_wp2_with fail
          go_round
          case rel => exact ⟨k + 1, by omega, by go_num, by rw [E1.out], by rw [E4.out], EV2.out⟩
          case measure => simp [intOf] <;> omega
        · by_cases hq : r = 34 ∨ r = 92
          · have E4 : Hid (srcB zs k ++ (⟨#[92]⟩ ++ Utf8.encode r) = srcB zs (k + 1)) := by
              show srcB zs k ++ _ = _
              rw [E2.out]
              rcases hq with rfl | rfl <;> congr 1 <;> decide +kernel
            rcases hq with rfl | rfl
            all_goals
              clear hok h10
              go_wp2_with fail
              go_round
              case rel => exact ⟨k + 1, by omega, by go_num, by rw [E1.out], by rw [E4.out], EV2.out⟩
              case measure => simp [intOf] <;> omega
          · have E4 : Hid (srcB zs k ++ Utf8.encode r = srcB zs (k + 1)) := by
              show srcB zs k ++ _ = _
              rw [E2.out]
              congr 1
              unfold escOf
              rw [if_neg h10, if_neg hq]
              simp [Lx.runesBytes]
            have n1 : (r == 10) = false := by simpa using h10
            have n2 : (r == 34) = false := by simp; omega
            have n3 : (r == 92) = false := by simp; omega
            clear h10 hq
            rcases hok with ⟨c1, c2, c3⟩ | ⟨c1, c2, c3, c4⟩
            all_goals
              go_wp2_with fail
              go_round
              case rel => exact ⟨k + 1, by omega, by go_num, by rw [E1.out], by rw [E4.out], EV2.out⟩
              case measure => simp [intOf] <;> omega
    · obtain rfl : k = len := by omega
      have hs3 := srcB_size zs k hv
      obtain ⟨S, hS⟩ : ∃ S : ByteArray, S = ⟨(Lx.runesBytes (strRunes (zs.take k))).toArray⟩ := ⟨_, rfl⟩
      have hlen : (zs.take k).length = k := by simp; omega
      have T : Hid (Lx.tokens S = ([⟨3, Lx.runesBytes (zs.take k), 0, 1, 1⟩, ⟨1, [120], 0, 1, (k : Int) + escCount (zs.take k) + 4⟩, ⟨6, [], 0, 1, (k : Int) + escCount (zs.take k) + 5⟩], 0, 0, 0)) := by
        show _ = _
        rw [hS, str_source _ hv (by omega), hlen]
      have E : Hid (srcB zs k ++ ⟨#[34, 32, 120]⟩ = S) := by
        show _ ++ _ = _
        rw [hS]
        have e1 : strRunes (zs.take k) = [34] ++ escs (zs.take k) ++ [34, 32, 120] := by simp [strRunes]
        rw [e1, runesBytes_app, runesBytes_app, show Lx.runesBytes [34] = [34] by decide +kernel, show Lx.runesBytes [34, 32, 120] = [34, 32, 120] by decide +kernel]
        exact bytes_app (34 :: Lx.runesBytes (escs (zs.take k))) [34, 32, 120]
      have hC : ∀ w, Calls Tryd.prog 16 #[.string (srcB zs k)] w fun e w' => e = .returned (.int .i64 (escCount (zs.take k))) ∧ w = w' := by
        intro w
        have h1 := cnt_pass [34] (Lx.runesBytes (escs (zs.take k))) (by simp)
        rw [cnt_escs _ hv] at h1
        have h2 := count_fn (34 :: Lx.runesBytes (escs (zs.take k))) w (by
          have : (34 :: Lx.runesBytes (escs (zs.take k))).toArray.size ≤ 8 * k + 1 := hs3
          simp at this ⊢
          omega)
        have h3 : cnt false (34 :: Lx.runesBytes (escs (zs.take k))) = escCount (zs.take k) := h1
        rw [h3] at h2
        exact h2
      have hec := escCount_le (zs.take k)
      clear hS
      obtain ⟨ec, hec2⟩ : ∃ ec, ec = escCount (zs.take k) := ⟨_, rfl⟩
      rw [← hec2] at T hC hec
      have HC := Lib.hid hC
      clear hC hec2 hv ha
      go_wp2_with fail
      rw [E.out]
      refine (tokens_any S w1 (tabs_below hT hb h2) (by omega)).mono ?_
      rintro e w2 ⟨v, rfl, hown, hb2⟩
      rw [T.out] at hown ⊢
      have hb3 := hb.trans (hb2.mono hs1)
      obtain ⟨g, cap, rfl, hg1, hg2, hc⟩ := toks_form hown (by simp)
      have k1 := hc 0 _ rfl
      have k2 : w2.cell? ⟨g, 1, none⟩ = some (.string (txtB zs k)) := hc 1 _ rfl
      have k3 := hc 9 _ rfl
      go_wp2_with fail
      go_quiet (first | (go_at_call 12; refine Calls.quiet_of_same ((num_any _ _).mono fun _ _ h => ⟨h.1, h.2.symm⟩)) | (go_at_call 16; refine Calls.quiet_of_same ((HC.out _).mono fun _ _ h => ⟨h.1, h.2.symm⟩)))
      go_wp2_with fail
      go_ret
      exact ⟨rfl, hb3.drewN' _⟩
theorem strings_any (a : Option Addr) (len cap : Nat) (zs : List Int) (w : World) (hT : Lib.Utf8Tabs 0 1 w) (h2 : 2 ≤ w.heap.size) (hr : IsRow .i64 w a len cap zs) :
    Calls Tryd.prog 6 #[.slice a len cap] w fun e w' => e = .returned (.bool true) ∧ Below w.heap.size w w' := by
  by_cases hn : 100 < len
  · exact strings_off a len cap w hT h2 hn
  · rcases hr with ⟨rfl, rfl, rfl, rfl⟩ | ⟨x, rfl, hl, hm, hz, hcell, hwz⟩
    · exact strings_in none 0 0 [] w hT h2 (by omega) (Nat.le_refl _) (fun k hk => by omega)
    · refine strings_in _ len cap zs w hT h2 (by omega) (by omega) (fun k hk => ?_)
      obtain ⟨b, off, spot⟩ := x
      have hc := hcell k (by omega)
      have hc0 := hcell 0 (by omega)
      have hspot : spot = none := by simpa [Addr.add] using World.cell?_spot hc0
      subst hspot
      have ea : (⟨b, off, none⟩ : Addr).add k = ⟨b, off + k, none⟩ := by unfold Addr.add; split <;> simp_all
      exact ⟨b, off, rfl, by rw [← ea]; exact hc⟩
end Go.Proofs.YtoidmljhlekbkaaDoor
