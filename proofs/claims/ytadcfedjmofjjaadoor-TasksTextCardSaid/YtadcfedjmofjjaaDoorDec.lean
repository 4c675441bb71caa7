/-
  A rune at a place of a text, and the bytes that it takes. No program is named here.
-/
import Derived.Test.YtadcfedjmofjjaaDoorSpec
import Derived.Lib.MapLaws
import Derived.Lib.TrimUEq
import Derived.Lib.Hide
namespace Go.Proofs.YtadcfedjmofjjaaDoor
open Go.Lib
def bytesOf (s : ByteArray) : List UInt8 := s.data.toList
theorem bytesOf_len (s : ByteArray) : (bytesOf s).length = s.size := by
  show s.data.toList.length = s.data.size
  simp
theorem bytesOf_inj {s t : ByteArray} (h : bytesOf s = bytesOf t) : s = t := ByteArray.ext (Array.toList_inj.1 h)
theorem bytesOf_get (s : ByteArray) (i : Nat) (h : i < s.size) : s[i]'h = (bytesOf s)[i]'(by rw [bytesOf_len]; exact h) := rfl
theorem bytesOf_mk (l : List UInt8) : bytesOf ⟨l.toArray⟩ = l := rfl
/-- What is known of a rune at a place. -/
structure RuneAt (l : List UInt8) (pos c wd : Nat) : Prop where
  pos_ : 1 ≤ wd
  le : pos + wd ≤ l.length
  form : (c < 128 ∧ wd = 1 ∧ l[pos]? = some (UInt8.ofNat c)) ∨ (128 ≤ c ∧ ∀ b ∈ (l.drop pos).take wd, 128 ≤ b.toNat)
  dot : c = 183 ↔ (l.drop pos).take 2 = [194, 183]
  dotw : c = 183 → wd = 2
  small : c ≤ 1114111
theorem runeAt_num (l : List UInt8) (pos n b0 b1 b2 b3 : Nat) (hn : n = l.length - pos) (hp : 0 < n)
    (g0 : (l[pos]?).map UInt8.toNat = some b0) (g1 : (1 < n → (l[pos + 1]?).map UInt8.toNat = some b1)) (g2 : (2 < n → (l[pos + 2]?).map UInt8.toNat = some b2)) (g3 : (3 < n → (l[pos + 3]?).map UInt8.toNat = some b3)) (h0 : b0 < 256) (h1 : b1 < 256) :
    RuneAt l pos (decodeN n b0 b1 b2 b3).1 (decodeN n b0 b1 b2 b3).2 := by
  have get : ∀ k b, (l[pos + k]?).map UInt8.toNat = some b → l[pos + k]? = some (UInt8.ofNat b) := by
    intro k b h
    rcases hx : l[pos + k]? with _ | x
    · rw [hx] at h; cases h
    · rw [hx] at h
      simp at h
      rw [← h]; simp
  have e0 : (l.drop pos)[0]? = some (UInt8.ofNat b0) := by rw [List.getElem?_drop]; exact get 0 b0 g0
  have e1 : 1 < n → (l.drop pos)[1]? = some (UInt8.ofNat b1) := fun h => by rw [List.getElem?_drop]; exact get 1 b1 (g1 h)
  have e2 : 2 < n → (l.drop pos)[2]? = some (UInt8.ofNat b2) := fun h => by rw [List.getElem?_drop]; exact get 2 b2 (g2 h)
  have e3 : 3 < n → (l.drop pos)[3]? = some (UInt8.ofNat b3) := fun h => by rw [List.getElem?_drop]; exact get 3 b3 (g3 h)
  have hl : (l.drop pos).length = n := by rw [List.length_drop, hn]
  have g0' : l[pos]? = some (UInt8.ofNat b0) := by rw [List.getElem?_drop] at e0; exact e0
  obtain ⟨m, hm⟩ : ∃ m, m = l.drop pos := ⟨_, rfl⟩
  rw [← hm] at e0 e1 e2 e3 hl
  have hle : pos + n = l.length := by omega
  have mem : ∀ w, (∀ k, k < w → ∃ b, 128 ≤ b ∧ b < 256 ∧ m[k]? = some (UInt8.ofNat b)) → ∀ b ∈ m.take w, 128 ≤ b.toNat := by
    intro w hw b hb
    obtain ⟨k, hk, hkb⟩ := List.mem_iff_getElem.1 hb
    rw [List.length_take] at hk
    obtain ⟨b', h1, h2, h3⟩ := hw k (by omega)
    rw [List.getElem_take] at hkb
    rw [List.getElem?_eq_getElem (by omega), hkb] at h3
    injection h3 with h3
    rw [h3]
    simp
    omega
  have two : m.take 2 = [194, 183] ↔ (b0 = 194 ∧ 1 < n ∧ b1 = 183) := by
    constructor
    · intro h
      have a0 : (m.take 2)[0]? = some 194 := by rw [h]; rfl
      have a1 : (m.take 2)[1]? = some 183 := by rw [h]; rfl
      rw [List.getElem?_take] at a0 a1
      simp at a0 a1
      have hn1 : 1 < n := by
        rcases Nat.lt_or_ge 1 n with h | h
        · exact h
        · rw [List.getElem?_eq_none (by omega)] at a1; cases a1
      rw [e0] at a0
      rw [e1 hn1] at a1
      injection a0 with a0
      injection a1 with a1
      have a0 := congrArg UInt8.toNat a0
      have a1 := congrArg UInt8.toNat a1
      simp at a0 a1
      omega
    · rintro ⟨rfl, hn1, rfl⟩
      have a0 := e0
      have a1 := e1 hn1
      rcases m with _ | ⟨x, _ | ⟨y, m⟩⟩
      · simp at a0
      · simp at a1
      · simp at a0 a1
        rw [a0, a1]
        rfl
  subst hm
  rcases decodeN_shape n b0 b1 b2 b3 with ⟨c, e⟩ | ⟨c1, c2, c3, cv, e⟩ | ⟨c1, c2, c3, c4, cv, _, e⟩ | ⟨c1, c2, c3, c4, c5, cv, cw, e⟩ | e
  · rw [e]
    exact ⟨Nat.le_refl _, by show pos + 1 ≤ _; omega, .inl ⟨c, rfl, g0'⟩, by rw [two]; show b0 = 183 ↔ _; omega, fun h => by have : b0 = 183 := h; omega, by show b0 ≤ _; omega⟩
  · rw [e]
    refine ⟨by show 1 ≤ 2; omega, by show pos + 2 ≤ _; omega, .inr ⟨cv, mem 2 fun k hk => ?_⟩, by rw [two]; show b0 % 32 * 64 + b1 % 64 = 183 ↔ _; omega, fun _ => rfl, by show b0 % 32 * 64 + b1 % 64 ≤ _; omega⟩
    rcases k with _ | _ | k
    · exact ⟨b0, by omega, by omega, e0⟩
    · exact ⟨b1, by omega, by omega, e1 c2⟩
    · omega
  · rw [e]
    refine ⟨by show 1 ≤ 3; omega, by show pos + 3 ≤ _; omega, .inr ⟨by show 128 ≤ b0 % 16 * 4096 + b1 % 64 * 64 + b2 % 64; omega, mem 3 fun k hk => ?_⟩, by rw [two]; show b0 % 16 * 4096 + b1 % 64 * 64 + b2 % 64 = 183 ↔ _; omega, fun h => by have : b0 % 16 * 4096 + b1 % 64 * 64 + b2 % 64 = 183 := h; omega, by show b0 % 16 * 4096 + b1 % 64 * 64 + b2 % 64 ≤ _; omega⟩
    rcases k with _ | _ | _ | k
    · exact ⟨b0, by omega, by omega, e0⟩
    · exact ⟨b1, by omega, by omega, e1 (by omega)⟩
    · exact ⟨b2, by omega, by omega, e2 c2⟩
    · omega
  · rw [e]
    refine ⟨by show 1 ≤ 4; omega, by show pos + 4 ≤ _; omega, .inr ⟨by show 128 ≤ b0 % 8 * 262144 + b1 % 64 * 4096 + b2 % 64 * 64 + b3 % 64; omega, mem 4 fun k hk => ?_⟩, by rw [two]; show b0 % 8 * 262144 + b1 % 64 * 4096 + b2 % 64 * 64 + b3 % 64 = 183 ↔ _; omega, fun h => by have : b0 % 8 * 262144 + b1 % 64 * 4096 + b2 % 64 * 64 + b3 % 64 = 183 := h; omega, by show b0 % 8 * 262144 + b1 % 64 * 4096 + b2 % 64 * 64 + b3 % 64 ≤ _; omega⟩
    rcases k with _ | _ | _ | _ | k
    · exact ⟨b0, by omega, by omega, e0⟩
    · exact ⟨b1, by omega, by omega, e1 (by omega)⟩
    · exact ⟨b2, by omega, by omega, e2 (by omega)⟩
    · exact ⟨b3, by omega, by omega, e3 (by omega)⟩
    · omega
  · have hb : 128 ≤ b0 := by
      rcases Nat.lt_or_ge b0 128 with h | h
      · have : decodeN n b0 b1 b2 b3 = (b0, 1) := by unfold decodeN; rw [if_pos h]
        rw [e] at this
        injection this with h2
        omega
      · exact h
    have nodot : ¬ (b0 = 194 ∧ 1 < n ∧ b1 = 183) := by
      rintro ⟨rfl, h2, rfl⟩
      have : decodeN n 194 183 b2 b3 = (183, 2) := by unfold decodeN; rw [if_neg (by omega), if_pos ⟨by omega, h2, by omega⟩, if_pos (by omega)]
      rw [e] at this
      cases this
    rw [e]
    refine ⟨Nat.le_refl _, by show pos + 1 ≤ _; omega, .inr ⟨by show 128 ≤ 65533; omega, mem 1 fun k hk => ?_⟩, by rw [two]; show 65533 = 183 ↔ _; omega, fun h => by have : 65533 = 183 := h; omega, by show 65533 ≤ _; omega⟩
    rcases k with _ | k
    · exact ⟨b0, hb, by omega, e0⟩
    · omega
theorem runeAt (s : ByteArray) (pos : Nat) (h : pos < s.size) : RuneAt (bytesOf s) pos (Utf8.decode s pos).1 (Utf8.decode s pos).2 := by
  have hl := bytesOf_len s
  rw [decode_N]
  have g : ∀ k, pos + k < s.size → ((bytesOf s)[pos + k]?).map UInt8.toNat = some ((s.data.toList.getD (pos + k) 0).toNat) := by
    intro k hk
    have hk' : pos + k < (bytesOf s).length := by omega
    show ((s.data.toList)[pos + k]?).map _ = _
    rw [List.getD_eq_getElem?_getD]
    have : (s.data.toList)[pos + k]? = some ((s.data.toList)[pos + k]'hk') := List.getElem?_eq_getElem hk'
    rw [this]
    rfl
  have hlen : s.data.toList.length = s.size := hl
  exact runeAt_num (bytesOf s) pos _ _ _ _ _ (by show s.data.toList.length - pos = _; rfl) (by omega) (g 0 (by omega)) (fun h => g 1 (by omega)) (fun h => g 2 (by omega)) (fun h => g 3 (by omega)) (UInt8.toNat_lt _) (UInt8.toNat_lt _)
/-- A chunk without blanks joins the word. -/
theorem wordsGo_chunk (ch r cur : List UInt8) (h : ∀ b ∈ ch, b ≠ 32) : Tk.wordsGo (ch ++ r) cur = Tk.wordsGo r (cur ++ ch) := by
  induction ch generalizing cur with
  | nil => simp
  | cons b ch ih =>
    rw [List.cons_append, Tk.wordsGo, if_neg (h b (by simp)), ih _ (fun x hx => h x (by simp [hx]))]
    simp
theorem wordsGo_blank (r cur : List UInt8) : Tk.wordsGo (32 :: r) cur = (if cur = [] then Tk.wordsGo r [] else cur :: Tk.wordsGo r []) := by rw [Tk.wordsGo, if_pos rfl]
end Go.Proofs.YtadcfedjmofjjaaDoor
