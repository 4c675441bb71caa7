/-
  LexerBytes: the walk of the law.
-/
import Derived.Test.YtoidmljhlekbkaaDoorR9
import Derived.Test.YtoidmljhlekbkaaDoorStrs
import Derived.Laws.IdiomStrings
namespace Go.Proofs.YtoidmljhlekbkaaDoor
open Go.RowKit
theorem bytes_off (a : Option Addr) (len cap : Nat) (n : Int) (w : World) (hT : Lib.Utf8Tabs 0 1 w) (h2 : 2 ≤ w.heap.size) (hn : 200 < len ∨ n < 0 ∨ 7 ≤ n) :
    Calls Tryd.prog 4 #[.slice a len cap, .int .i64 n] w fun e w' => e = .returned (.bool true) ∧ Below w.heap.size w w' := by
  have h : (200 : Int) < len ∨ (¬ (200 : Int) < len ∧ n < 0) ∨ (¬ (200 : Int) < len ∧ ¬ n < 0 ∧ 7 ≤ n) := by omega
  clear hn
  rcases h with c1 | ⟨c1, c2⟩ | ⟨c1, c2, c3⟩
  all_goals
    go_enter Tryd.func4, Tryd.ntmps4
    go_wp2_with fail
    refine (alive_any w hT h2).mono ?_
    rintro e w1 ⟨rfl, hb⟩
    go_wp2_with fail
    go_ret
    exact ⟨rfl, hb.alloc (by have := hb.size; omega) _⟩
theorem bytes_in (a : Option Addr) (len cap : Nat) (l : List UInt8) (k : Nat) (w : World) (hT : Lib.Utf8Tabs 0 1 w) (h2 : 2 ≤ w.heap.size) (hl : len ≤ 200) (hll : l.length ≤ 200) (hk : k < 7)
    (cv : ∀ w', Below w.heap.size w w' → (convert 34 9 (.slice a len cap)).run Tryd.prog w' = .ok (.string ⟨l.toArray⟩) w') :
    Calls Tryd.prog 4 #[.slice a len cap, .int .i64 k] w fun e w' => e = .returned (.bool true) ∧ Below w.heap.size w w' := by
  have hl' : ¬ (200 : Int) < len := by omega
  have hk' : ¬ (k : Int) < 0 := by omega
  have hk2 : ¬ (7 : Int) ≤ k := by omega
  go_enter Tryd.func4, Tryd.ntmps4
  go_wp2_with fail
  refine (alive_any w hT h2).mono ?_
  rintro e w1 ⟨rfl, hb⟩
  have hz := hb.size
  have hbW := hb.alloc (by omega) (.cells #[.string ⟨#[]⟩, .string ⟨#[97]⟩, .string ⟨#[59, 32]⟩, .string ⟨#[34]⟩, .string ⟨#[39]⟩, .string ⟨#[49, 50]⟩, .string ⟨#[97, 58, 32, 98, 10, 32, 32]⟩] 9)
  have cw := fun n => cv _ (hbW.drewN' n)
  have cw0 := cv _ hbW
  have cw1 := cw 1
  change (convert 34 9 (.slice a len cap)).run Tryd.prog (World.drew _) = .ok _ (World.drew _) at cw1
  clear cv
  go_upto_region 5 with (fail)
  go_cut [7] (fun v wx => ∃ S n, v = .string S ∧ wx = (w1.alloc (.cells #[.string ⟨#[]⟩, .string ⟨#[97]⟩, .string ⟨#[59, 32]⟩, .string ⟨#[34]⟩, .string ⟨#[39]⟩, .string ⟨#[49, 50]⟩, .string ⟨#[97, 58, 32, 98, 10, 32, 32]⟩] 9)).drewN n)
  case first =>
    have h7 : k = 0 ∨ k = 1 ∨ k = 2 ∨ k = 3 ∨ k = 4 ∨ k = 5 ∨ k = 6 := by omega
    clear hk hk' hk2
    rcases h7 with rfl | rfl | rfl | rfl | rfl | rfl | rfl
    all_goals
      go_wp2_with fail
      go_region
      go_wp2_with fail
      go_meet
      exact ⟨_, _, rfl, rfl⟩
  case rest =>
  obtain ⟨S, n, rfl, rfl⟩ := hcut
  replace hbW := hbW.drewN' n
  have hz2 := hbW.size
  clear cw cw0 cw1
  generalize (w1.alloc (.cells #[.string ⟨#[]⟩, .string ⟨#[97]⟩, .string ⟨#[59, 32]⟩, .string ⟨#[34]⟩, .string ⟨#[39]⟩, .string ⟨#[49, 50]⟩, .string ⟨#[97, 58, 32, 98, 10, 32, 32]⟩] 9)).drewN n = wq at *
  go_wp2_with fail
  refine (tokens_any S wq (tabs_below hT hbW h2) (by omega)).mono ?_
  rintro e w2 ⟨v, rfl, _, hb2⟩
  have hb3 := hbW.trans (hb2.mono hz2)
  have hz3 := hb3.size
  go_wp2_with fail
  refine (rtokens_any S w2).mono ?_
  rintro e w3 ⟨v3, us, rfl, _, _, hb4⟩
  go_wp2_with fail
  refine (num_any _ _).mono ?_
  rintro e w' ⟨rfl, rfl⟩
  go_wp2_with fail
  go_ret
  exact ⟨rfl, hb3.trans (hb4.mono hz3)⟩
theorem bytes_any (a : Option Addr) (len cap : Nat) (zs : List Int) (n : Int) (w : World) (hT : Lib.Utf8Tabs 0 1 w) (h2 : 2 ≤ w.heap.size) (hr : IsRow .u8 w a len cap zs) :
    Calls Tryd.prog 4 #[.slice a len cap, .int .i64 n] w fun e w' => e = .returned (.bool true) ∧ Below w.heap.size w w' := by
  by_cases hn : 200 < len ∨ n < 0 ∨ 7 ≤ n
  · exact bytes_off a len cap n w hT h2 hn
  · obtain ⟨k, rfl⟩ := Int.eq_ofNat_of_zero_le (show 0 ≤ n by omega)
    rcases hr with ⟨rfl, rfl, rfl, rfl⟩ | ⟨x, rfl, hl, hm, hz, hcell, hwz⟩
    · refine bytes_in none 0 0 [] k w hT h2 (by omega) (by decide) (by omega) fun w' _ => ?_
      rw [run_convert_bytes_string (P := Tryd.prog) w' 34 9 5 none 0 0 Tryd.underlying34 Tryd.underlying5 Tryd.underlying9]
      rfl
    · have hlen : ((zs.take len).map fun z => UInt8.ofNat z.toNat).length = len := by simp; omega
      refine bytes_in _ len cap ((zs.take len).map fun z => UInt8.ofNat z.toNat) k w hT h2 (by omega) (by omega) (by omega) fun w' hb => ?_
      have := run_convert_bytes_back (P := Tryd.prog) w' 34 9 5 x cap ((zs.take len).map fun z => UInt8.ofNat z.toNat) Tryd.underlying34 Tryd.underlying5 Tryd.underlying9 fun j hj => by
        rw [hlen] at hj
        have hc := hcell j (by omega)
        have hzj : zs[j]'(by omega) ∈ zs := List.getElem_mem _
        have hw := hwz _ hzj
        have e1 : zs.getD j 0 = zs[j]'(by omega) := by simp [List.getD, show j < zs.length by omega]
        have e2 : (((zs.take len).map fun z => UInt8.ofNat z.toNat)[j]'(by rw [hlen]; exact hj)) = UInt8.ofNat (zs[j]'(by omega)).toNat := by simp
        rw [e1] at hc
        rw [e2, hb.cell (World.block_lt_of_cell? _ _ hc), hc]
        have hbd : 0 ≤ zs[j]'(by omega) ∧ zs[j]'(by omega) < 256 := by
          simp [Lit.wf, IntKind.min, IntKind.max, IntKind.signed, IntKind.bits] at hw
          omega
        congr 2
        have : ((UInt8.ofNat (zs[j]'(by omega)).toNat).toNat : Int) = ((zs[j]'(by omega)).toNat % 256 : Nat) := by simp
        rw [this]
        omega
      rw [hlen] at this
      exact this
end Go.Proofs.YtoidmljhlekbkaaDoor
