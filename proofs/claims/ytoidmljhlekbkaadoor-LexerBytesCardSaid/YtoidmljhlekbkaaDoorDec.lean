/-
  A source that is written out of runes is read as these runes.
-/
import Derived.Test.YtoidmljhlekbkaaDoorSpec
import Derived.Test.YtoidmljhlekbkaaDoorEnc
import Derived.Lib.DecodeN
import Derived.Lib.RuneCountTail
namespace Go.Proofs.YtoidmljhlekbkaaDoor
def validR (r : Int) : Prop := (0 ≤ r ∧ r < 55296) ∨ (57344 ≤ r ∧ r ≤ 1114111)
theorem decode_list (s : ByteArray) (i : Nat) : Utf8.decode s i = Lib.decodeN (s.data.toList.length - i) (s.data.toList.getD i 0).toNat (s.data.toList.getD (i + 1) 0).toNat (s.data.toList.getD (i + 2) 0).toNat (s.data.toList.getD (i + 3) 0).toNat := by
  rw [Lib.decode_at, Lib.getD_get!', Lib.getD_get!', Lib.getD_get!', Lib.getD_get!']
  rfl
theorem getD_pre (pre l : List UInt8) (k : Nat) : (pre ++ l).getD (pre.length + k) 0 = l.getD k 0 := by
  rw [List.getD_eq_getElem?_getD, List.getElem?_append_right (by omega), List.getD_eq_getElem?_getD]
  congr 2
  omega
theorem u8n (n : Int) (_ : 0 ≤ n) (h1 : n < 256) : (n.toNat.toUInt8).toNat = n.toNat := by
  show (UInt8.ofNat n.toNat).toNat = n.toNat
  simp
  omega
theorem decode_encode (s : ByteArray) (pre t : List UInt8) (r : Int) (hv : validR r) (hs : s.data.toList = pre ++ ((Utf8.encode r).data.toList ++ t)) :
    Utf8.decode s pre.length = (r.toNat, (Utf8.encode r).data.toList.length) := by
  have hv' := hv
  unfold validR at hv'
  rw [← encode_list r (by omega) (by omega)] at hs ⊢
  have g0 : (s.data.toList.getD pre.length 0) = (Lib.encodeRune r ++ t).getD 0 0 := by rw [hs]; exact getD_pre pre _ 0
  have g1 : (s.data.toList.getD (pre.length + 1) 0) = (Lib.encodeRune r ++ t).getD 1 0 := by rw [hs]; exact getD_pre pre _ 1
  have g2 : (s.data.toList.getD (pre.length + 2) 0) = (Lib.encodeRune r ++ t).getD 2 0 := by rw [hs]; exact getD_pre pre _ 2
  have g3 : (s.data.toList.getD (pre.length + 3) 0) = (Lib.encodeRune r ++ t).getD 3 0 := by rw [hs]; exact getD_pre pre _ 3
  have gl : s.data.toList.length - pre.length = (Lib.encodeRune r).length + t.length := by rw [hs]; simp
  rw [decode_list, g0, g1, g2, g3, gl]
  unfold Lib.encodeRune
  by_cases c1 : r ≤ 127
  · rw [Lib.encodeRuneZ_one (by omega) c1]
    simp only [List.map_cons, List.map_nil, List.cons_append, List.nil_append, List.getD_cons_zero, List.length_cons, List.length_nil]
    rw [u8n r (by omega) (by omega)]
    unfold Lib.decodeN
    rw [if_pos (by omega)]
  by_cases c2 : r ≤ 2047
  · rw [Lib.encodeRuneZ_two (by omega) c2]
    simp only [List.map_cons, List.map_nil, List.cons_append, List.nil_append, List.getD_cons_zero, List.getD_cons_succ, List.length_cons, List.length_nil]
    rw [u8n (192 + r / 64) (by omega) (by omega), u8n (128 + r % 64) (by omega) (by omega)]
    unfold Lib.decodeN
    rw [if_neg (by omega), if_pos (by omega), if_pos (by omega)]
    congr 1
    omega
  by_cases c3 : r ≤ 65535
  · rw [Lib.encodeRuneZ_three (by omega)]
    simp only [List.map_cons, List.map_nil, List.cons_append, List.nil_append, List.getD_cons_zero, List.getD_cons_succ, List.length_cons, List.length_nil]
    rw [u8n (224 + r / 4096) (by omega) (by omega), u8n (128 + r / 64 % 64) (by omega) (by omega), u8n (128 + r % 64) (by omega) (by omega)]
    have e : (224 + r / 4096).toNat % 16 * 4096 + (128 + r / 64 % 64).toNat % 64 * 64 + (128 + r % 64).toNat % 64 = r.toNat := by omega
    unfold Lib.decodeN
    rw [if_neg (by omega), if_neg (by omega), if_pos (by omega), e, if_pos (by omega)]
  · rw [Lib.encodeRuneZ_four (by omega) (by omega)]
    simp only [List.map_cons, List.map_nil, List.cons_append, List.nil_append, List.getD_cons_zero, List.getD_cons_succ, List.length_cons, List.length_nil]
    rw [u8n (240 + r / 262144) (by omega) (by omega), u8n (128 + r / 4096 % 64) (by omega) (by omega), u8n (128 + r / 64 % 64) (by omega) (by omega), u8n (128 + r % 64) (by omega) (by omega)]
    have e : (240 + r / 262144).toNat % 8 * 262144 + (128 + r / 4096 % 64).toNat % 64 * 4096 + (128 + r / 64 % 64).toNat % 64 * 64 + (128 + r % 64).toNat % 64 = r.toNat := by omega
    unfold Lib.decodeN
    rw [if_neg (by omega), if_neg (by omega), if_neg (by omega), if_pos (by omega), e, if_pos (by omega)]
theorem encode_length (r : Int) (hv : validR r) : 1 ≤ (Utf8.encode r).data.toList.length ∧ ((Utf8.encode r).data.toList.length = 1 → r ≤ 127) := by
  unfold validR at hv
  rw [← encode_list r (by omega) (by omega)]
  unfold Lib.encodeRune
  by_cases c1 : r ≤ 127
  · rw [Lib.encodeRuneZ_one (by omega) c1]; simp; exact c1
  by_cases c2 : r ≤ 2047
  · rw [Lib.encodeRuneZ_two (by omega) c2]; simp
  by_cases c3 : r ≤ 65535
  · rw [Lib.encodeRuneZ_three (by omega)]; simp
  · rw [Lib.encodeRuneZ_four (by omega) (by omega)]; simp
theorem decodeGo_runes (s : ByteArray) : ∀ (l : List Int) (pre : List UInt8) (f : Nat), (∀ r ∈ l, validR r) → s.data.toList = pre ++ Lx.runesBytes l → l.length < f → Lx.decodeGo s f pre.length = (l, false) := by
  intro l
  induction l with
  | nil =>
    intro pre f _ hs hf
    obtain ⟨f, rfl⟩ : ∃ g, f = g + 1 := ⟨f - 1, by simp at hf; omega⟩
    have hl : s.size = pre.length := by
      show s.data.size = _
      rw [← Array.length_toList, hs]
      simp [Lx.runesBytes]
    unfold Lx.decodeGo
    rw [if_pos (by omega)]
  | cons r l ih =>
    intro pre f hv hs hf
    simp only [List.length_cons] at hf
    obtain ⟨f, rfl⟩ : ∃ g, f = g + 1 := ⟨f - 1, by omega⟩
    have hr := hv r (by simp)
    have hd := decode_encode s pre (Lx.runesBytes l) r hr (by rw [hs]; simp [Lx.runesBytes])
    have hlen := encode_length r hr
    have hl : s.size = pre.length + ((Utf8.encode r).data.toList.length + (Lx.runesBytes l).length) := by
      show s.data.size = _
      rw [← Array.length_toList, hs]
      simp [Lx.runesBytes]
    have hn := ih (pre ++ (Utf8.encode r).data.toList) f (fun x hx => hv x (by simp [hx])) (by rw [hs]; simp [Lx.runesBytes]) (by omega)
    rw [List.length_append] at hn
    unfold Lx.decodeGo
    rw [if_neg (by omega)]
    simp only [hd]
    have hr0 : 0 ≤ r := by unfold validR at hr; omega
    rw [if_neg (by intro ⟨h1, h2⟩; have := hlen.2 h2; omega), hn]
    simp
    omega
theorem start_runes (l : List Int) (hv : ∀ r ∈ l, validR r) : Lx.start ⟨(Lx.runesBytes l).toArray⟩ = { l := l, at_ := 0, line := 1, col := 1, out := [], bad := none, cut := false } := by
  unfold Lx.start
  have hlen : l.length ≤ (Lx.runesBytes l).length := by
    induction l with
    | nil => simp
    | cons r l ih =>
      have h1 := (encode_length r (hv r (by simp))).1
      have h2 := ih (fun x hx => hv x (by simp [hx]))
      have h3 : (Lx.runesBytes (r :: l)).length = (Utf8.encode r).data.toList.length + (Lx.runesBytes l).length := by simp [Lx.runesBytes]
      rw [h3, List.length_cons]
      omega
  have := decodeGo_runes ⟨(Lx.runesBytes l).toArray⟩ l [] ((⟨(Lx.runesBytes l).toArray⟩ : ByteArray).size + 1) hv (by simp) (by show _ < (Lx.runesBytes l).toArray.size + 1; simp; omega)
  simp only [List.length_nil] at this
  rw [this]
end Go.Proofs.YtoidmljhlekbkaaDoor
