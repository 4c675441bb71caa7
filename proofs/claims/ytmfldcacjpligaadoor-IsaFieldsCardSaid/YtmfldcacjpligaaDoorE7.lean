/-
  IsaFields: the law's classes, and the walk of any input.
-/
import Derived.Test.YtmfldcacjpligaaDoorE5
namespace Go.Proofs.YtmfldcacjpligaaDoor
open Go.RowKit
theorem decR_gone {v : Int} (h : Is.decW v = none) (h0 : 0 ≤ v) (h1 : v < 4294967296) : decR v = (⟨0, 0, 0, 0, 0⟩, 5) := decR_none (by rw [show v % 4294967296 = v by omega]; exact h)
theorem decR_there {v : Int} {i : Is.Ins} (h : Is.decW v = some i) (h0 : 0 ≤ v) (h1 : v < 4294967296) : decR v = (i, 0) := decR_some (by rw [show v % 4294967296 = v by omega]; exact h)
theorem regA {i : Is.Ins} {x : Int} (h : Is.enc i = (x, 0)) : 0 ≤ i.a ∧ i.a ≤ 15 := by
  obtain ⟨_, h2, h3, _⟩ := Is.enc_ok h
  obtain ⟨⟨p1, p2, _⟩, _⟩ := Is.parts_of h2 h3
  exact ⟨p1, p2⟩
theorem fk_any {op a b c m x : Int} {k : Nat} (hx : Is.enc ⟨op, a, b, c, m⟩ = (x, 0)) (ha : 0 ≤ a ∧ a ≤ 15) (hk : k < 32) {op' a' b' c' m' g : Int} (D : decR (Is.flip x k) = (⟨op', a', b', c', m'⟩, g)) :
    FK ((Is.form op).toNat : Int) g (k : Int) op a b m op' a' b' m' := by
  have hn : (Is.enc ⟨op, a, b, c, m⟩).2 = 0 := by rw [hx]
  have hf0 : Is.form op ≠ 0 := (Is.enc_ok hx).1
  have five : ∀ v : Int, Is.decW (Is.flip x k) = none ∧ 0 ≤ Is.flip x k ∧ Is.flip x k < 4294967296 → g = 5 := by
    rintro _ ⟨h, h0, h1⟩
    have := D.symm.trans (decR_gone h h0 h1)
    exact congrArg Prod.snd this
  have ais : Is.form op ≠ 78 → 20 ≤ k → k < 24 → g = 0 ∧ op' = op ∧ b' = b ∧ m' = m ∧ bits .xor .i64 a (2 ^ ((k : Int) - 20).toNat) = a' := by
    intro hN h1 h2
    obtain ⟨h, h0, hl⟩ := Is.flip_a hx hN k h1 h2
    have e := D.symm.trans (decR_there h h0 hl)
    injection e with e1 e2
    injection e1 with e3 e4 e5 e6 e7
    refine ⟨e2, e3, e5, e7, ?_⟩
    rw [e4, show ((k : Int) - 20).toNat = k - 20 by omega]
    exact lxor_flip ha.1 (by omega) (by omega)
  unfold FK
  rcases Is.form_cases op with f | f | f | f | f | f | f | f | f
  · exact absurd f hf0
  · rw [f] at ais ⊢
    have c1 : (((82 : UInt8).toNat : Nat) : Int) = 82 := rfl
    rw [c1]
    by_cases h12 : k < 12
    · exact .inl ⟨five 0 (Is.flip_R hx f k h12), rfl, by omega⟩
    by_cases h20 : k < 20
    · exact .inr (.inr (.inr (.inr (.inr (.inr (.inr (.inr (.inl ⟨rfl, by omega, by omega⟩))))))))
    by_cases h24 : k < 24
    · obtain ⟨h1, h2, h3, h4, h5⟩ := ais (by decide) (by omega) h24
      exact .inr (.inr (.inr (.inr (.inl ⟨h1, h2, h3, h4, h5, by omega, by omega, rfl⟩))))
    · exact .inr (.inr (.inr (.inr (.inr (.inr (.inr (.inr (.inr (.inl ⟨rfl, by omega⟩)))))))))
  · rw [f] at ais ⊢
    have c1 : (((73 : UInt8).toNat : Nat) : Int) = 73 := rfl
    rw [c1]
    by_cases h20 : k < 20
    · exact .inr (.inr (.inr (.inr (.inr (.inr (.inr (.inr (.inr (.inr (.inr (.inr (.inr (.inr (.inr (.inl ⟨by omega, by decide, by decide, by decide, by decide⟩)))))))))))))))
    by_cases h24 : k < 24
    · obtain ⟨h1, h2, h3, h4, h5⟩ := ais (by decide) (by omega) h24
      exact .inr (.inr (.inr (.inr (.inr (.inr (.inr (.inl ⟨h1, h2, h3, h4, h5, by omega, by omega, by decide, by decide, by decide, by decide⟩)))))))
    · exact .inr (.inr (.inr (.inr (.inr (.inr (.inr (.inr (.inr (.inr (.inr (.inr (.inr (.inr (.inr (.inr ⟨by omega, by decide, by decide, by decide, by decide⟩)))))))))))))))
  · rw [f] at ais ⊢
    have c1 : (((85 : UInt8).toNat : Nat) : Int) = 85 := rfl
    rw [c1]
    by_cases h20 : k < 20
    · exact .inr (.inr (.inr (.inr (.inr (.inr (.inr (.inr (.inr (.inr (.inr (.inr (.inr (.inr (.inr (.inl ⟨by omega, by decide, by decide, by decide, by decide⟩)))))))))))))))
    by_cases h24 : k < 24
    · obtain ⟨h1, h2, h3, h4, h5⟩ := ais (by decide) (by omega) h24
      exact .inr (.inr (.inr (.inr (.inr (.inr (.inr (.inl ⟨h1, h2, h3, h4, h5, by omega, by omega, by decide, by decide, by decide, by decide⟩)))))))
    · exact .inr (.inr (.inr (.inr (.inr (.inr (.inr (.inr (.inr (.inr (.inr (.inr (.inr (.inr (.inr (.inr ⟨by omega, by decide, by decide, by decide, by decide⟩)))))))))))))))
  · rw [f] at ais ⊢
    have c1 : (((72 : UInt8).toNat : Nat) : Int) = 72 := rfl
    rw [c1]
    by_cases h20 : k < 20
    · exact .inr (.inr (.inr (.inr (.inr (.inr (.inr (.inr (.inr (.inr (.inr (.inr (.inr (.inr (.inr (.inl ⟨by omega, by decide, by decide, by decide, by decide⟩)))))))))))))))
    by_cases h24 : k < 24
    · obtain ⟨h1, h2, h3, h4, h5⟩ := ais (by decide) (by omega) h24
      exact .inr (.inr (.inr (.inr (.inr (.inr (.inr (.inl ⟨h1, h2, h3, h4, h5, by omega, by omega, by decide, by decide, by decide, by decide⟩)))))))
    · exact .inr (.inr (.inr (.inr (.inr (.inr (.inr (.inr (.inr (.inr (.inr (.inr (.inr (.inr (.inr (.inr ⟨by omega, by decide, by decide, by decide, by decide⟩)))))))))))))))
  · rw [f] at ais ⊢
    have c1 : (((76 : UInt8).toNat : Nat) : Int) = 76 := rfl
    rw [c1]
    by_cases h16 : k < 16
    · exact .inr (.inr (.inr (.inr (.inr (.inr (.inr (.inr (.inr (.inr (.inr (.inl ⟨rfl, by omega⟩)))))))))))
    by_cases h20 : k < 20
    · exact .inr (.inr (.inl ⟨five 0 (Is.flip_LC hx (.inl f) k (by omega) h20), rfl, by omega, by omega⟩))
    by_cases h24 : k < 24
    · obtain ⟨h1, h2, h3, h4, h5⟩ := ais (by decide) (by omega) h24
      exact .inr (.inr (.inr (.inr (.inr (.inl ⟨h1, h2, h3, h4, h5, by omega, by omega, rfl⟩)))))
    · exact .inr (.inr (.inr (.inr (.inr (.inr (.inr (.inr (.inr (.inr (.inr (.inr (.inl ⟨rfl, by omega⟩))))))))))))
  · rw [f] at ais ⊢
    have c1 : (((74 : UInt8).toNat : Nat) : Int) = 74 := rfl
    rw [c1]
    by_cases h20 : k < 20
    · exact .inr (.inr (.inr (.inr (.inr (.inr (.inr (.inr (.inr (.inr (.inr (.inr (.inr (.inr (.inr (.inl ⟨by omega, by decide, by decide, by decide, by decide⟩)))))))))))))))
    by_cases h24 : k < 24
    · obtain ⟨h1, h2, h3, h4, h5⟩ := ais (by decide) (by omega) h24
      exact .inr (.inr (.inr (.inr (.inr (.inr (.inr (.inl ⟨h1, h2, h3, h4, h5, by omega, by omega, by decide, by decide, by decide, by decide⟩)))))))
    · exact .inr (.inr (.inr (.inr (.inr (.inr (.inr (.inr (.inr (.inr (.inr (.inr (.inr (.inr (.inr (.inr ⟨by omega, by decide, by decide, by decide, by decide⟩)))))))))))))))
  · rw [f] at ais ⊢
    have c1 : (((67 : UInt8).toNat : Nat) : Int) = 67 := rfl
    rw [c1]
    by_cases h16 : k < 16
    · exact .inr (.inr (.inr (.inr (.inr (.inr (.inr (.inr (.inr (.inr (.inr (.inr (.inr (.inl ⟨rfl, by omega⟩)))))))))))))
    by_cases h20 : k < 20
    · exact .inr (.inr (.inr (.inl ⟨five 0 (Is.flip_LC hx (.inr f) k (by omega) h20), rfl, by omega, by omega⟩)))
    by_cases h24 : k < 24
    · obtain ⟨h1, h2, h3, h4, h5⟩ := ais (by decide) (by omega) h24
      exact .inr (.inr (.inr (.inr (.inr (.inr (.inl ⟨h1, h2, h3, h4, h5, by omega, by omega, rfl⟩))))))
    · exact .inr (.inr (.inr (.inr (.inr (.inr (.inr (.inr (.inr (.inr (.inr (.inr (.inr (.inr (.inl ⟨rfl, by omega⟩))))))))))))))
  · rw [f]
    have c1 : (((78 : UInt8).toNat : Nat) : Int) = 78 := rfl
    rw [c1]
    by_cases h24 : k < 24
    · exact .inr (.inl ⟨five 0 (Is.flip_N hx f k h24), rfl, by omega⟩)
    · exact .inr (.inr (.inr (.inr (.inr (.inr (.inr (.inr (.inr (.inr (.inl ⟨rfl, by omega⟩))))))))))
theorem isaFields_any (i : Is.Ins) (bit : Int) (w : World) (ht : Tabs w) : Calls Tryd.prog 9 #[insV i, .int .i64 bit] w (Yes w) := by
  by_cases h : bit < 0 ∨ 31 < bit ∨ (Is.enc i).2 ≠ 0
  · exact fields_far i bit w ht h
  · have h0 : 0 ≤ bit := by omega
    have h31 : bit ≤ 31 := by omega
    have hz : (Is.enc i).2 = 0 := Decidable.byContradiction fun e => h (.inr (.inr e))
    obtain ⟨k, rfl⟩ : ∃ k : Nat, bit = k := ⟨bit.toNat, by omega⟩
    have hx := Is.enc_form hz
    obtain ⟨x, ex⟩ : ∃ x, (Is.enc i).1 = x := ⟨_, rfl⟩
    rw [ex] at hx
    obtain ⟨_, x0, x1, _⟩ := Is.dec_enc hx
    have ha := regA hx
    obtain ⟨op, a, b, c, m⟩ := i
    obtain ⟨⟨⟨op', a', b', c', m'⟩, g⟩, D⟩ : ∃ p, decR (Is.flip x k) = p := ⟨_, rfl⟩
    exact fields_near op a b c m x k (Is.flip x k) op' a' b' c' m' g _ _ w ht hx rfl h0 h31 (by rw [Int.toNat_natCast]; exact lxor_flip x0 (by omega) (by omega)) D rfl (fk_any hx ha (by omega) D)
end Go.Proofs.YtmfldcacjpligaaDoor
