/-
  LexerNumbers: what the plain lexer says of its sources.
-/
import Derived.Test.YtoidmljhlekbkaaDoorLinesP
import Derived.Test.YtoidmljhlekbkaaDoorNum
namespace Go.Proofs.YtoidmljhlekbkaaDoor
open Lx
def runesOf (l : List UInt8) : List Int := l.map fun b => (b.toNat : Int)
theorem runesOf_valid (l : List UInt8) (hl : ∀ b ∈ l, b.toNat < 128) : ∀ r ∈ runesOf l, validR r := by
  intro r hr
  simp [runesOf] at hr
  obtain ⟨b, hb, rfl⟩ := hr
  have := hl b hb
  unfold validR
  omega
theorem runesOf_bytes (l : List UInt8) (hl : ∀ b ∈ l, b.toNat < 128) : Lx.runesBytes (runesOf l) = l := by
  rw [runes_low _ (by
    intro r hr
    simp [runesOf] at hr
    obtain ⟨b, hb, rfl⟩ := hr
    have := hl b hb
    omega)]
  have e : (fun r : Int => UInt8.ofNat r.toNat) ∘ (fun b : UInt8 => (b.toNat : Int)) = id := by funext b; simp
  simp [runesOf, e]
theorem start_low (l : List UInt8) (hl : ∀ b ∈ l, b.toNat < 128) : At (Lx.start ⟨l.toArray⟩) (runesOf l) 1 1 [] := by
  have := start_runes _ (runesOf_valid l hl)
  rw [runesOf_bytes l hl] at this
  rw [this]
  exact ⟨Nat.zero_le _, rfl, rfl, rfl, rfl, rfl, rfl⟩
/-- A number's digits, read; at most 2^32. -/
def capVal (base : Int) (n : Int) (ds : List Int) : Int := ds.foldl (fun n c => min (n * base + hex c) 4294967296) n
def val (base : Int) (ds : List Int) : Int := ds.foldl (fun n c => n * base + hex c) 0
def IsDigits (base : Int) (ds : List Int) : Prop := ∀ d ∈ ds, 0 ≤ hex d ∧ hex d < base
theorem digits_at {base : Int} (ds : List Int) : ∀ {x : St} {r : List Int} {line col n : Int} {out : List Tok}, At x (ds ++ r) line col out → IsDigits base ds → (hex (r.getD 0 (-1)) < 0 ∨ base ≤ hex (r.getD 0 (-1))) →
    ∃ y, x.digits base n = (capVal base n ds, y) ∧ At y r line (col + ds.length) out ∧ y.at_ = x.at_ + ds.length ∧ y.l = x.l := by
  induction ds with
  | nil =>
    intro x r line col n out h _ hr
    refine ⟨x, ?_, by simpa using h, rfl, rfl⟩
    rw [digits_stop (by rw [h.peek]; exact hr)]
    rfl
  | cons d ds ih =>
    intro x r line col n out h hd hr
    have h' : At x (d :: (ds ++ r)) line col out := h
    have hp : x.peek 0 = d := by rw [h'.peek]; rfl
    have hd0 := hd d (by simp)
    have hdn : d ≠ 10 := by intro e; subst e; exact absurd hd0.1 (by decide)
    rw [digits_step (by rw [hp]; omega) h'.lt, hp]
    obtain ⟨y, e, hy, e1, e2⟩ := ih (n := min (n * base + hex d) 4294967296) (h'.step hdn) (fun c hc => hd c (by simp [hc])) hr
    refine ⟨y, e, ?_, ?_, ?_⟩
    · have e1 : col + ((d :: ds).length : Int) = col + 1 + ds.length := by simp; omega
      rw [e1]; exact hy
    · rw [e1, step_at]; simp; omega
    · rw [e2, step_l]
theorem capVal_eq {base : Int} (hb : 1 ≤ base) (ds : List Int) : ∀ n m : Int, 0 ≤ n → m = min n 4294967296 → IsDigits base ds → capVal base m ds = min (ds.foldl (fun n c => n * base + hex c) n) 4294967296 := by
  induction ds with
  | nil => intro n m _ hm _; exact hm
  | cons d ds ih =>
    intro n m hn hm hd
    have hd0 := hd d (by simp)
    have h0 : 0 ≤ n * base := Int.mul_nonneg hn (by omega)
    refine ih (n * base + hex d) _ (by omega) ?_ (fun c hc => hd c (by simp [hc]))
    show min (m * base + hex d) 4294967296 = _
    by_cases hc : n ≤ 4294967296
    · rw [hm, show min n 4294967296 = n by omega]
    · rw [hm, show min n 4294967296 = 4294967296 by omega]
      have h1 : 4294967296 * 1 ≤ 4294967296 * base := by omega
      have h2 : n * 1 ≤ n * base := Int.mul_le_mul_of_nonneg_left hb hn
      omega
theorem val_snoc (base : Int) (l : List Int) (c : Int) : val base (l ++ [c]) = val base l * base + hex c := by simp [val]
theorem val_zeros (base : Int) (k : Nat) (l : List Int) : val base (List.replicate k 48 ++ l) = val base l := by
  unfold val
  rw [List.foldl_append]
  congr 1
  induction k with
  | zero => rfl
  | succ k ih =>
    rw [List.replicate_succ, List.foldl_cons]
    simpa [hex] using ih
/-! ### A number alone. -/
theorem one_digit_at {x : St} {c : Int} {r : List Int} {line col : Int} {out : List Tok} (h : At x (c :: r) line col out) (hc : digit c = true) : x.one = x.number := by
  have hp : x.peek 0 = c := by rw [h.peek]; rfl
  have hc' := hc
  simp [digit] at hc'
  have hl : letter c = false := by simp [letter]; omega
  unfold St.one
  simp only [hp]
  rw [if_neg (by omega), if_neg (by omega), if_neg (by omega), hl, if_neg (by simp), if_pos hc]
theorem number_dec {x : St} {c : Int} {ds : List Int} {line col : Int} {out : List Tok} (h : At x (c :: ds) line col out) (hd : IsDigits 10 (c :: ds)) :
    ∃ y, At y [] line (col + 1 + ds.length) out ∧ y.l = x.l ∧ x.at_ < y.at_ ∧ x.number = if 4294967295 < val 10 (c :: ds) then y.fail line col 6 else y.put 2 [] (val 10 (c :: ds)) line col := by
  have hp : x.peek 0 = c := by rw [h.peek]; rfl
  have hp1 : x.peek 1 ≠ 120 := by
    rw [h.peek]
    cases ds with
    | nil => show (-1 : Int) ≠ 120; decide
    | cons d ds =>
      have := hd d (by simp)
      intro e
      have e' : d = 120 := e
      subst e'
      exact absurd this.1 (by decide)
  have h' : At x ((c :: ds) ++ []) line col out := by simpa using h
  obtain ⟨y, e, hy, e1, e2⟩ := digits_at (base := 10) (n := 0) (c :: ds) h' hd (.inl (by decide))
  have hcv : capVal 10 0 (c :: ds) = min (val 10 (c :: ds)) 4294967296 := capVal_eq (by omega) _ 0 0 (by omega) (by decide) hd
  refine ⟨y, ?_, e2, ?_, ?_⟩
  · have e1 : col + ((c :: ds).length : Int) = col + 1 + ds.length := by simp; omega
    rw [← e1]; exact hy
  · rw [e1]; simp
  · unfold St.number
    have hn : ¬ (x.peek 0 = 48 ∧ x.peek 1 = 120 ∧ 0 ≤ hex (x.peek 2)) := fun hh => hp1 hh.2.1
    simp only [hn, if_false, e, hcv, h.line, h.col]
    have hq : y.peek 0 = -1 := by rw [hy.peek]; rfl
    rw [hq, show letter (-1) = false by decide, if_neg (by simp)]
    by_cases hv : 4294967295 < val 10 (c :: ds)
    · rw [if_pos hv, if_pos (by omega)]
    · rw [if_neg hv, if_neg (by omega), show min (val 10 (c :: ds)) 4294967296 = val 10 (c :: ds) by omega]
theorem number_hex {x : St} {c : Int} {ds : List Int} {line col : Int} {out : List Tok} (h : At x (48 :: 120 :: c :: ds) line col out) (hd : IsDigits 16 (c :: ds)) :
    ∃ y, At y [] line (col + 3 + ds.length) out ∧ y.l = x.l ∧ x.at_ < y.at_ ∧ x.number = if 4294967295 < val 16 (c :: ds) then y.fail line col 6 else y.put 2 [] (val 16 (c :: ds)) line col := by
  have hp : x.peek 0 = 48 := by rw [h.peek]; rfl
  have hp1 : x.peek 1 = 120 := by rw [h.peek]; rfl
  have hp2 : x.peek 2 = c := by rw [h.peek]; rfl
  have hs := (h.step (by decide)).step (by decide)
  have h' : At x.step.step ((c :: ds) ++ []) line (col + 1 + 1) out := by simpa using hs
  obtain ⟨y, e, hy, e1, e2⟩ := digits_at (base := 16) (n := 0) (c :: ds) h' hd (.inl (by decide))
  have hcv : capVal 16 0 (c :: ds) = min (val 16 (c :: ds)) 4294967296 := capVal_eq (by omega) _ 0 0 (by omega) (by decide) hd
  refine ⟨y, ?_, by rw [e2, step_l, step_l], ?_, ?_⟩
  · have e1 : col + 1 + 1 + ((c :: ds).length : Int) = col + 3 + ds.length := by simp; omega
    rw [← e1]; exact hy
  · rw [e1, step_at, step_at]; simp; omega
  · unfold St.number
    have hn : (x.peek 0 = 48 ∧ x.peek 1 = 120 ∧ 0 ≤ hex (x.peek 2)) := ⟨hp, hp1, by rw [hp2]; exact (hd c (by simp)).1⟩
    simp only [hn, and_self, if_true, e, hcv, h.line, h.col]
    have hq : y.peek 0 = -1 := by rw [hy.peek]; rfl
    rw [hq, show letter (-1) = false by decide, if_neg (by simp)]
    by_cases hv : 4294967295 < val 16 (c :: ds)
    · rw [if_pos hv, if_pos (by omega)]
    · rw [if_neg hv, if_neg (by omega), show min (val 16 (c :: ds)) 4294967296 = val 16 (c :: ds) by omega]
/-- What the tokens of a source of one number are. -/
def numAns (v n : Int) : List Tok × Int × Int × Int := if 4294967295 < v then ([], 1, 1, 6) else ([⟨2, [], v, 1, 1⟩, ⟨6, [], 0, 1, 1 + n⟩], 0, 0, 0)
theorem number_ends {s : ByteArray} {c : Int} {r : List Int} {k v : Int} (hs : s.size ≤ 65536) (h : At (Lx.start s) (c :: r) 1 1 []) (hc : digit c = true) {y : St} (hy : At y [] 1 (1 + k) []) (hl : y.l = (Lx.start s).l) (ha : (Lx.start s).at_ < y.at_)
    (e : (Lx.start s).number = if 4294967295 < v then y.fail 1 1 6 else y.put 2 [] v 1 1) : tokens s = numAns v k := by
  rw [← one_digit_at h hc] at e
  unfold numAns
  by_cases hv : 4294967295 < v
  · rw [if_pos hv] at e ⊢
    have hb : y.fail 1 1 6 = { y with bad := some (1, 1, 6) } := by unfold St.fail; rw [hy.bad]
    have hb2 : ((Lx.start s).one).bad = some (1, 1, 6) := by rw [e, hb]
    exact tokens_bad hs (Ends.one h ⟨by rw [e, hb]; exact hl, fun hn => by rw [hb2] at hn; cases hn⟩ (Ends.bad hb2)) hb2
  · rw [if_neg hv] at e ⊢
    have hz : At (Lx.start s).one [] 1 (1 + k) ([] ++ [⟨2, [], v, 1, 1⟩]) := by rw [e]; exact hy.put _ _ _ _ _
    rw [tokens_of hs (Ends.one h ⟨by rw [e]; exact hl, fun _ => by rw [e]; exact ha⟩ (Ends.stop hz)) hz]
    rfl
/-! ### The document's digits. -/
theorem runesOf_app (a b : List UInt8) : runesOf (a ++ b) = runesOf a ++ runesOf b := by simp [runesOf]
theorem dec_digit (n : Nat) : ((UInt8.ofNat (48 + n % 10)).toNat : Int) = 48 + (n % 10 : Nat) := by
  have : n % 10 < 10 := Nat.mod_lt _ (by decide)
  simp
  omega
theorem hex_dec (d : Int) (h0 : 0 ≤ d) (h1 : d < 10) : hex (48 + d) = d := by
  unfold hex
  rw [if_pos (by omega)]
  omega
theorem numGo_digits (f : Nat) : ∀ n, IsDigits 10 (runesOf (Lx.numGo f n)) := by
  induction f with
  | zero => intro n d hd; simp [Lx.numGo, runesOf] at hd
  | succ f ih =>
    intro n
    have h1 : n % 10 < 10 := Nat.mod_lt _ (by decide)
    have key : ∀ d ∈ runesOf [UInt8.ofNat (48 + n % 10)], 0 ≤ hex d ∧ hex d < 10 := by
      intro d hd
      have e : d = 48 + (n % 10 : Nat) := by
        rw [← dec_digit]
        simpa [runesOf] using hd
      rw [e, hex_dec _ (by omega) (by omega)]
      omega
    unfold Lx.numGo
    split
    · rw [runesOf_app]
      intro d hd
      rcases List.mem_append.1 hd with hd | hd
      · exact ih _ d hd
      · exact key d hd
    · exact key
theorem numGo_val (f : Nat) : ∀ n, n < 10 ^ f → 0 < f → val 10 (runesOf (Lx.numGo f n)) = n := by
  induction f with
  | zero => intro n _ h; omega
  | succ f ih =>
    intro n hn _
    have h1 : n % 10 < 10 := Nat.mod_lt _ (by decide)
    unfold Lx.numGo
    split
    · rename_i h9
      have hf : 0 < f := by
        rcases f with _ | f
        · simp at hn; omega
        · omega
      have e : runesOf [UInt8.ofNat (48 + n % 10)] = [48 + ((n % 10 : Nat) : Int)] := by
        show [((UInt8.ofNat (48 + n % 10)).toNat : Int)] = _
        rw [dec_digit]
      rw [runesOf_app, e, val_snoc, hex_dec _ (by omega) (by omega), ih (n / 10) (by rw [Nat.pow_succ] at hn; omega) hf]
      omega
    · have e : runesOf [UInt8.ofNat (48 + n % 10)] = [48 + ((n % 10 : Nat) : Int)] := by
        show [((UInt8.ofNat (48 + n % 10)).toNat : Int)] = _
        rw [dec_digit]
      rw [e]
      show 0 * 10 + hex _ = _
      rw [hex_dec _ (by omega) (by omega)]
      omega
theorem numGo_ne (f n : Nat) : ∃ b l, Lx.numGo (f + 1) n = b :: l := by
  unfold Lx.numGo
  split
  · cases Lx.numGo f (n / 10) with
    | nil => exact ⟨_, _, rfl⟩
    | cons b l => exact ⟨_, _, rfl⟩
  · exact ⟨_, _, rfl⟩
theorem numGo_low (f : Nat) : ∀ n, ∀ b ∈ Lx.numGo f n, 48 ≤ b.toNat ∧ b.toNat < 58 := by
  induction f with
  | zero => intro n b hb; simp [Lx.numGo] at hb
  | succ f ih =>
    intro n
    have h1 : n % 10 < 10 := Nat.mod_lt _ (by decide)
    have key : ∀ b ∈ [UInt8.ofNat (48 + n % 10)], 48 ≤ b.toNat ∧ b.toNat < 58 := by
      intro b hb
      obtain rfl := List.mem_singleton.1 hb
      have := dec_digit n
      omega
    unfold Lx.numGo
    split
    · intro b hb
      rcases List.mem_append.1 hb with hb | hb
      · exact ih _ b hb
      · exact key b hb
    · exact key
def hexDig (d : Nat) : UInt8 := if d < 10 then UInt8.ofNat (48 + d) else UInt8.ofNat (87 + d)
def hexGo : Nat → Nat → List UInt8
  | 0, _ => []
  | k + 1, n => hexGo k (n / 16) ++ [hexDig (n % 16)]
theorem hexDig_facts (d : Nat) (h : d < 16) : hex ((hexDig d).toNat : Int) = d ∧ (hexDig d).toNat < 128 := by
  have key : ∀ d : Fin 16, hex ((hexDig d.val).toNat : Int) = d.val ∧ (hexDig d.val).toNat < 128 := by decide +kernel
  exact key ⟨d, h⟩
theorem hexGo_len (k : Nat) : ∀ n, (hexGo k n).length = k := by
  induction k with
  | zero => intro n; rfl
  | succ k ih => intro n; simp [hexGo, ih]
theorem hexGo_low (k : Nat) : ∀ n, ∀ b ∈ hexGo k n, b.toNat < 128 := by
  induction k with
  | zero => intro n b hb; simp [hexGo] at hb
  | succ k ih =>
    intro n b hb
    rcases List.mem_append.1 hb with hb | hb
    · exact ih _ b hb
    · obtain rfl := List.mem_singleton.1 hb
      exact (hexDig_facts _ (Nat.mod_lt _ (by decide))).2
theorem hexGo_digits (k : Nat) : ∀ n, IsDigits 16 (runesOf (hexGo k n)) := by
  induction k with
  | zero => intro n d hd; simp [hexGo, runesOf] at hd
  | succ k ih =>
    intro n d hd
    have h1 : n % 16 < 16 := Nat.mod_lt _ (by decide)
    have e : runesOf (hexGo (k + 1) n) = runesOf (hexGo k (n / 16)) ++ [((hexDig (n % 16)).toNat : Int)] := runesOf_app _ _
    rw [e] at hd
    rcases List.mem_append.1 hd with hd | hd
    · exact ih _ d hd
    · obtain rfl := List.mem_singleton.1 hd
      rw [(hexDig_facts _ h1).1]
      omega
theorem hexGo_val (k : Nat) : ∀ n, n < 16 ^ k → val 16 (runesOf (hexGo k n)) = n := by
  induction k with
  | zero => intro n hn; simp at hn; subst hn; rfl
  | succ k ih =>
    intro n hn
    have h1 : n % 16 < 16 := Nat.mod_lt _ (by decide)
    have e : runesOf (hexGo (k + 1) n) = runesOf (hexGo k (n / 16)) ++ [((hexDig (n % 16)).toNat : Int)] := runesOf_app _ _
    rw [e, val_snoc, (hexDig_facts _ h1).1, ih (n / 16) (by rw [Nat.pow_succ] at hn; omega)]
    omega
/-! ### The law's two sources. -/
theorem zeros_digits {base : Int} (hb : 1 ≤ base) (k : Nat) {l : List Int} (h : IsDigits base l) : IsDigits base (List.replicate k 48 ++ l) := by
  intro d hd
  rcases List.mem_append.1 hd with hd | hd
  · obtain ⟨_, rfl⟩ := List.mem_replicate.1 hd
    have : hex 48 = 0 := by decide
    omega
  · exact h d hd
theorem dec_source (k n : Nat) (hk : k ≤ 10) (hn : n < 10 ^ 19) : tokens ⟨(List.replicate k 48 ++ Lx.num n).toArray⟩ = numAns n (k + (Lx.num n).length) := by
  have hlow : ∀ b ∈ List.replicate k (48 : UInt8) ++ Lx.num n, 48 ≤ b.toNat ∧ b.toNat < 58 := by
    intro b hb
    rcases List.mem_append.1 hb with hb | hb
    · obtain ⟨_, rfl⟩ := List.mem_replicate.1 hb; decide
    · exact numGo_low 19 n b hb
  have hne : ∃ b l, List.replicate k (48 : UInt8) ++ Lx.num n = b :: l := by
    obtain ⟨b, l, e⟩ := numGo_ne 18 n
    rcases k with _ | k
    · exact ⟨b, l, e⟩
    · exact ⟨_, _, rfl⟩
  have hlen : (List.replicate k (48 : UInt8) ++ Lx.num n).length = k + (Lx.num n).length := by simp
  have hl19 := numGo_len 19 n
  have h := start_low _ (fun b hb => by have := hlow b hb; omega)
  have hr : runesOf (List.replicate k (48 : UInt8) ++ Lx.num n) = List.replicate k 48 ++ runesOf (Lx.num n) := by rw [runesOf_app]; simp [runesOf]
  have hd : IsDigits 10 (runesOf (List.replicate k (48 : UInt8) ++ Lx.num n)) := by rw [hr]; exact zeros_digits (by decide) k (numGo_digits 19 n)
  have hv : val 10 (runesOf (List.replicate k (48 : UInt8) ++ Lx.num n)) = n := by rw [hr, val_zeros]; exact numGo_val 19 n hn (by decide)
  generalize List.replicate k (48 : UInt8) ++ Lx.num n = L at *
  obtain ⟨b, l, rfl⟩ := hne
  have e1 : runesOf (b :: l) = (b.toNat : Int) :: runesOf l := rfl
  rw [e1] at h hd hv
  obtain ⟨y, hy, hl, ha, e⟩ := number_dec h hd
  rw [hv] at e
  have hq : 1 + 1 + ((runesOf l).length : Int) = 1 + ((k : Int) + (Lx.num n).length) := by
    simp [runesOf] at hlen ⊢
    omega
  rw [hq] at hy
  have := hlow b (by simp)
  exact number_ends (by show (b :: l).toArray.size ≤ _; have : (Lx.num n).length ≤ 19 := hl19; simp at hlen ⊢; omega) h (by simp [digit]; omega) hy hl ha e
theorem hex_source (k n : Nat) (hk : k ≤ 10) (hn : n < 16 ^ 11) : tokens ⟨([48, 120] ++ (List.replicate k 48 ++ hexGo 11 n)).toArray⟩ = numAns n (k + 13) := by
  have hlow : ∀ b ∈ List.replicate k (48 : UInt8) ++ hexGo 11 n, b.toNat < 128 := by
    intro b hb
    rcases List.mem_append.1 hb with hb | hb
    · obtain ⟨_, rfl⟩ := List.mem_replicate.1 hb; decide
    · exact hexGo_low 11 n b hb
  have hlen : (List.replicate k (48 : UInt8) ++ hexGo 11 n).length = k + 11 := by simp [hexGo_len]
  have h := start_low ([48, 120] ++ (List.replicate k (48 : UInt8) ++ hexGo 11 n)) (fun b hb => by
    rcases List.mem_append.1 hb with hb | hb
    · simp at hb; rcases hb with rfl | rfl <;> decide
    · exact hlow b hb)
  have hr : runesOf (List.replicate k (48 : UInt8) ++ hexGo 11 n) = List.replicate k 48 ++ runesOf (hexGo 11 n) := by rw [runesOf_app]; simp [runesOf]
  have hd : IsDigits 16 (runesOf (List.replicate k (48 : UInt8) ++ hexGo 11 n)) := by rw [hr]; exact zeros_digits (by decide) k (hexGo_digits 11 n)
  have hv : val 16 (runesOf (List.replicate k (48 : UInt8) ++ hexGo 11 n)) = n := by rw [hr, val_zeros]; exact hexGo_val 11 n hn
  rw [runesOf_app] at h
  generalize List.replicate k (48 : UInt8) ++ hexGo 11 n = L at *
  rcases L with _ | ⟨b, l⟩
  · simp at hlen
  have e1 : runesOf (b :: l) = (b.toNat : Int) :: runesOf l := rfl
  rw [e1] at h hd hv
  have h' : At (Lx.start ⟨([48, 120] ++ b :: l).toArray⟩) (48 :: 120 :: (b.toNat : Int) :: runesOf l) 1 1 [] := h
  obtain ⟨y, hy, hl, ha, e⟩ := number_hex h' hd
  rw [hv] at e
  have hq : 1 + 3 + ((runesOf l).length : Int) = 1 + ((k : Int) + 13) := by
    simp [runesOf] at hlen ⊢
    omega
  rw [hq] at hy
  exact number_ends (by show ([48, 120] ++ b :: l).toArray.size ≤ _; simp at hlen ⊢; omega) h' (by decide) hy hl ha e
end Go.Proofs.YtoidmljhlekbkaaDoor
