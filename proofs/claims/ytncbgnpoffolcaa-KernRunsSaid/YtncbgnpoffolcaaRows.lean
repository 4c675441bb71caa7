/-
  No cell of these rows narrows 'for every input' (looked for: loops, veiled, ifaces, maps, wideKeys, modest, calm, conditions, laid).
  DERIVED. THE GIVEN ROWS OF THIS SEAT. 16 by the template 'for every input the law returns true; each argument reads behind the call as it read before'; 0 by the template 'total and deterministic' (their statements: YtncbgnpoffolcaaTotals.lean).
  GIVEN WITH THE SEED: the statements are not yours to turn. If you find one false, say at which input.
  Laid BY PROGRAM, IN A SANDBOX (cutbox-rows.mjs): the forced cells as the released guide's own fill.sh prints them over the translation 9934800c879cf50c… (all of the seat's roots in one cut). By AI agents, Wed Nov 11 2026. No macro, syntax, notation, axiom, sorry.
-/
import Derived.Test.YtncbgnpoffolcaaChecked
import GoSem.Claim
import GoSem.ClaimJoined
import GoSem.ClaimMapViews
import Derived.JoinedTies
import Derived.KernelRfl
namespace Go.Proofs.Ytncbgnpoffolcaa
/- THE CELL 'sum', in the pinned program and in every row, IS THE sha256 OF THE DUMP (.gsa) THAT YtncbgnpoffolcaaProg.lean LOADS. Nothing in Lean hashes anything: it is a label: what it is worth is what the hold of that sum in a sandbox is worth. -/
noncomputable def Try.pinned : Pinned := { name := "ytncbgnpoffolcaa", sum := "9934800c879cf50c68e393583a6f49ce6d7f8c06934e05717588ab2e40a700e3", checked := Try.checked }
namespace Rows
def none {H : Type} : Left H := { results := [], args := [] }

/-- 'trunnionlaw24.KernChain': WHATEVER THE INPUT: true; the input reads as it did. -/
def kernChainSpec : ChangeSpec := { name := "kernChain", fn := fun _ => fun
  | [d] => { results := [.lit (.bool true)], args := [d] }
  | _ => none }
def kernChainRow : OpenClaim := { program := "ytncbgnpoffolcaa", sum := "9934800c879cf50c68e393583a6f49ce6d7f8c06934e05717588ab2e40a700e3", func := "trunnion/trunnionlaw24.KernChain", spec := "kernChain", unfollowed := true, recurses := true, apart := false }
def KernChainSaid : Prop := kernChainRow.holds Try.pinned (OpenSpec.ofChange kernChainSpec)

/-- ITS FALSE NEIGHBOUR: 'it returns false'. Refute it at one input. -/
def kernChainWrong : ChangeSpec := { name := "kernChain", fn := fun _ => fun
  | [d] => { results := [.lit (.bool false)], args := [d] }
  | _ => none }
def KernChainWrongFalsely : Prop := kernChainRow.holds Try.pinned (OpenSpec.ofChange kernChainWrong)

/-- 'trunnionlaw24.KernFull': WHATEVER THE INPUT: true; the input reads as it did. -/
def kernFullSpec : ChangeSpec := { name := "kernFull", fn := fun _ => fun
  | [d] => { results := [.lit (.bool true)], args := [d] }
  | _ => none }
def kernFullRow : OpenClaim := { program := "ytncbgnpoffolcaa", sum := "9934800c879cf50c68e393583a6f49ce6d7f8c06934e05717588ab2e40a700e3", func := "trunnion/trunnionlaw24.KernFull", spec := "kernFull", unfollowed := true, recurses := true, apart := false }
def KernFullSaid : Prop := kernFullRow.holds Try.pinned (OpenSpec.ofChange kernFullSpec)

/-- ITS FALSE NEIGHBOUR: 'it returns false'. Refute it at one input. -/
def kernFullWrong : ChangeSpec := { name := "kernFull", fn := fun _ => fun
  | [d] => { results := [.lit (.bool false)], args := [d] }
  | _ => none }
def KernFullWrongFalsely : Prop := kernFullRow.holds Try.pinned (OpenSpec.ofChange kernFullWrong)

/-- 'trunnionlaw24.KernTimes': WHATEVER THE INPUT: true; the input reads as it did. -/
def kernTimesSpec : ChangeSpec := { name := "kernTimes", fn := fun _ => fun
  | [d1, d2, d3] => { results := [.lit (.bool true)], args := [d1, d2, d3] }
  | _ => none }
def kernTimesRow : OpenClaim := { program := "ytncbgnpoffolcaa", sum := "9934800c879cf50c68e393583a6f49ce6d7f8c06934e05717588ab2e40a700e3", func := "trunnion/trunnionlaw24.KernTimes", spec := "kernTimes", unfollowed := true, recurses := true, apart := false }
def KernTimesSaid : Prop := kernTimesRow.holds Try.pinned (OpenSpec.ofChange kernTimesSpec)

/-- ITS FALSE NEIGHBOUR: 'it returns false'. Refute it at one input. -/
def kernTimesWrong : ChangeSpec := { name := "kernTimes", fn := fun _ => fun
  | [d1, d2, d3] => { results := [.lit (.bool false)], args := [d1, d2, d3] }
  | _ => none }
def KernTimesWrongFalsely : Prop := kernTimesRow.holds Try.pinned (OpenSpec.ofChange kernTimesWrong)

/-- 'trunnionlaw24.KernRuns': WHATEVER THE INPUT: true; the input reads as it did. -/
def kernRunsSpec : ChangeSpec := { name := "kernRuns", fn := fun _ => fun
  | [d1, d2, d3] => { results := [.lit (.bool true)], args := [d1, d2, d3] }
  | _ => none }
def kernRunsRow : OpenClaim := { program := "ytncbgnpoffolcaa", sum := "9934800c879cf50c68e393583a6f49ce6d7f8c06934e05717588ab2e40a700e3", func := "trunnion/trunnionlaw24.KernRuns", spec := "kernRuns", unfollowed := true, recurses := true, apart := false }
def KernRunsSaid : Prop := kernRunsRow.holds Try.pinned (OpenSpec.ofChange kernRunsSpec)

/-- ITS FALSE NEIGHBOUR: 'it returns false'. Refute it at one input. -/
def kernRunsWrong : ChangeSpec := { name := "kernRuns", fn := fun _ => fun
  | [d1, d2, d3] => { results := [.lit (.bool false)], args := [d1, d2, d3] }
  | _ => none }
def KernRunsWrongFalsely : Prop := kernRunsRow.holds Try.pinned (OpenSpec.ofChange kernRunsWrong)

/-- 'trunnionlaw24.KernFirst': WHATEVER THE INPUT: true; the input reads as it did. -/
def kernFirstSpec : ChangeSpec := { name := "kernFirst", fn := fun _ => fun
  | [d] => { results := [.lit (.bool true)], args := [d] }
  | _ => none }
def kernFirstRow : OpenClaim := { program := "ytncbgnpoffolcaa", sum := "9934800c879cf50c68e393583a6f49ce6d7f8c06934e05717588ab2e40a700e3", func := "trunnion/trunnionlaw24.KernFirst", spec := "kernFirst", unfollowed := true, recurses := true, apart := false }
def KernFirstSaid : Prop := kernFirstRow.holds Try.pinned (OpenSpec.ofChange kernFirstSpec)

/-- ITS FALSE NEIGHBOUR: 'it returns false'. Refute it at one input. -/
def kernFirstWrong : ChangeSpec := { name := "kernFirst", fn := fun _ => fun
  | [d] => { results := [.lit (.bool false)], args := [d] }
  | _ => none }
def KernFirstWrongFalsely : Prop := kernFirstRow.holds Try.pinned (OpenSpec.ofChange kernFirstWrong)

/-- 'trunnionlaw24.KernDelays': WHATEVER THE INPUT: true; the input reads as it did. -/
def kernDelaysSpec : ChangeSpec := { name := "kernDelays", fn := fun _ => fun
  | [d1, d2] => { results := [.lit (.bool true)], args := [d1, d2] }
  | _ => none }
def kernDelaysRow : OpenClaim := { program := "ytncbgnpoffolcaa", sum := "9934800c879cf50c68e393583a6f49ce6d7f8c06934e05717588ab2e40a700e3", func := "trunnion/trunnionlaw24.KernDelays", spec := "kernDelays", unfollowed := true, recurses := true, apart := false }
def KernDelaysSaid : Prop := kernDelaysRow.holds Try.pinned (OpenSpec.ofChange kernDelaysSpec)

/-- ITS FALSE NEIGHBOUR: 'it returns false'. Refute it at one input. -/
def kernDelaysWrong : ChangeSpec := { name := "kernDelays", fn := fun _ => fun
  | [d1, d2] => { results := [.lit (.bool false)], args := [d1, d2] }
  | _ => none }
def KernDelaysWrongFalsely : Prop := kernDelaysRow.holds Try.pinned (OpenSpec.ofChange kernDelaysWrong)

/-- 'trunnionlaw24.KernInherits': WHATEVER THE INPUT: true; the input reads as it did. -/
def kernInheritsSpec : ChangeSpec := { name := "kernInherits", fn := fun _ => fun
  | [d1, d2, d3, d4] => { results := [.lit (.bool true)], args := [d1, d2, d3, d4] }
  | _ => none }
def kernInheritsRow : OpenClaim := { program := "ytncbgnpoffolcaa", sum := "9934800c879cf50c68e393583a6f49ce6d7f8c06934e05717588ab2e40a700e3", func := "trunnion/trunnionlaw24.KernInherits", spec := "kernInherits", unfollowed := true, recurses := true, apart := false }
def KernInheritsSaid : Prop := kernInheritsRow.holds Try.pinned (OpenSpec.ofChange kernInheritsSpec)

/-- ITS FALSE NEIGHBOUR: 'it returns false'. Refute it at one input. -/
def kernInheritsWrong : ChangeSpec := { name := "kernInherits", fn := fun _ => fun
  | [d1, d2, d3, d4] => { results := [.lit (.bool false)], args := [d1, d2, d3, d4] }
  | _ => none }
def KernInheritsWrongFalsely : Prop := kernInheritsRow.holds Try.pinned (OpenSpec.ofChange kernInheritsWrong)

/-- 'trunnionlaw24.KernQueues': WHATEVER THE INPUT: true; the input reads as it did. -/
def kernQueuesSpec : ChangeSpec := { name := "kernQueues", fn := fun _ => fun
  | [d1, d2, d3] => { results := [.lit (.bool true)], args := [d1, d2, d3] }
  | _ => none }
def kernQueuesRow : OpenClaim := { program := "ytncbgnpoffolcaa", sum := "9934800c879cf50c68e393583a6f49ce6d7f8c06934e05717588ab2e40a700e3", func := "trunnion/trunnionlaw24.KernQueues", spec := "kernQueues", unfollowed := true, recurses := true, apart := false }
def KernQueuesSaid : Prop := kernQueuesRow.holds Try.pinned (OpenSpec.ofChange kernQueuesSpec)

/-- ITS FALSE NEIGHBOUR: 'it returns false'. Refute it at one input. -/
def kernQueuesWrong : ChangeSpec := { name := "kernQueues", fn := fun _ => fun
  | [d1, d2, d3] => { results := [.lit (.bool false)], args := [d1, d2, d3] }
  | _ => none }
def KernQueuesWrongFalsely : Prop := kernQueuesRow.holds Try.pinned (OpenSpec.ofChange kernQueuesWrong)

/-- 'trunnionlaw24.KernSems': WHATEVER THE INPUT: true; the input reads as it did. -/
def kernSemsSpec : ChangeSpec := { name := "kernSems", fn := fun _ => fun
  | [d1, d2, d3] => { results := [.lit (.bool true)], args := [d1, d2, d3] }
  | _ => none }
def kernSemsRow : OpenClaim := { program := "ytncbgnpoffolcaa", sum := "9934800c879cf50c68e393583a6f49ce6d7f8c06934e05717588ab2e40a700e3", func := "trunnion/trunnionlaw24.KernSems", spec := "kernSems", unfollowed := true, recurses := true, apart := false }
def KernSemsSaid : Prop := kernSemsRow.holds Try.pinned (OpenSpec.ofChange kernSemsSpec)

/-- ITS FALSE NEIGHBOUR: 'it returns false'. Refute it at one input. -/
def kernSemsWrong : ChangeSpec := { name := "kernSems", fn := fun _ => fun
  | [d1, d2, d3] => { results := [.lit (.bool false)], args := [d1, d2, d3] }
  | _ => none }
def KernSemsWrongFalsely : Prop := kernSemsRow.holds Try.pinned (OpenSpec.ofChange kernSemsWrong)

/-- 'trunnionlaw24.KernLate': WHATEVER THE INPUT: true; the input reads as it did. -/
def kernLateSpec : ChangeSpec := { name := "kernLate", fn := fun _ => fun
  | [d1, d2] => { results := [.lit (.bool true)], args := [d1, d2] }
  | _ => none }
def kernLateRow : OpenClaim := { program := "ytncbgnpoffolcaa", sum := "9934800c879cf50c68e393583a6f49ce6d7f8c06934e05717588ab2e40a700e3", func := "trunnion/trunnionlaw24.KernLate", spec := "kernLate", unfollowed := true, recurses := true, apart := false }
def KernLateSaid : Prop := kernLateRow.holds Try.pinned (OpenSpec.ofChange kernLateSpec)

/-- ITS FALSE NEIGHBOUR: 'it returns false'. Refute it at one input. -/
def kernLateWrong : ChangeSpec := { name := "kernLate", fn := fun _ => fun
  | [d1, d2] => { results := [.lit (.bool false)], args := [d1, d2] }
  | _ => none }
def KernLateWrongFalsely : Prop := kernLateRow.holds Try.pinned (OpenSpec.ofChange kernLateWrong)

/-- 'trunnionlaw24.KernAnswers': WHATEVER THE INPUT: true; the input reads as it did. -/
def kernAnswersSpec : ChangeSpec := { name := "kernAnswers", fn := fun _ => fun
  | [d] => { results := [.lit (.bool true)], args := [d] }
  | _ => none }
def kernAnswersRow : OpenClaim := { program := "ytncbgnpoffolcaa", sum := "9934800c879cf50c68e393583a6f49ce6d7f8c06934e05717588ab2e40a700e3", func := "trunnion/trunnionlaw24.KernAnswers", spec := "kernAnswers", unfollowed := true, recurses := true, apart := false }
def KernAnswersSaid : Prop := kernAnswersRow.holds Try.pinned (OpenSpec.ofChange kernAnswersSpec)

/-- ITS FALSE NEIGHBOUR: 'it returns false'. Refute it at one input. -/
def kernAnswersWrong : ChangeSpec := { name := "kernAnswers", fn := fun _ => fun
  | [d] => { results := [.lit (.bool false)], args := [d] }
  | _ => none }
def KernAnswersWrongFalsely : Prop := kernAnswersRow.holds Try.pinned (OpenSpec.ofChange kernAnswersWrong)

/-- 'trunnionlaw24.KernRounds': WHATEVER THE INPUT: true; the input reads as it did. -/
def kernRoundsSpec : ChangeSpec := { name := "kernRounds", fn := fun _ => fun
  | [d1, d2] => { results := [.lit (.bool true)], args := [d1, d2] }
  | _ => none }
def kernRoundsRow : OpenClaim := { program := "ytncbgnpoffolcaa", sum := "9934800c879cf50c68e393583a6f49ce6d7f8c06934e05717588ab2e40a700e3", func := "trunnion/trunnionlaw24.KernRounds", spec := "kernRounds", unfollowed := true, recurses := true, apart := false }
def KernRoundsSaid : Prop := kernRoundsRow.holds Try.pinned (OpenSpec.ofChange kernRoundsSpec)

/-- ITS FALSE NEIGHBOUR: 'it returns false'. Refute it at one input. -/
def kernRoundsWrong : ChangeSpec := { name := "kernRounds", fn := fun _ => fun
  | [d1, d2] => { results := [.lit (.bool false)], args := [d1, d2] }
  | _ => none }
def KernRoundsWrongFalsely : Prop := kernRoundsRow.holds Try.pinned (OpenSpec.ofChange kernRoundsWrong)

/-- 'trunnionlaw24.KernLoops': WHATEVER THE INPUT: true; the input reads as it did. -/
def kernLoopsSpec : ChangeSpec := { name := "kernLoops", fn := fun _ => fun
  | [d1, d2, d3] => { results := [.lit (.bool true)], args := [d1, d2, d3] }
  | _ => none }
def kernLoopsRow : OpenClaim := { program := "ytncbgnpoffolcaa", sum := "9934800c879cf50c68e393583a6f49ce6d7f8c06934e05717588ab2e40a700e3", func := "trunnion/trunnionlaw24.KernLoops", spec := "kernLoops", unfollowed := true, recurses := true, apart := false }
def KernLoopsSaid : Prop := kernLoopsRow.holds Try.pinned (OpenSpec.ofChange kernLoopsSpec)

/-- ITS FALSE NEIGHBOUR: 'it returns false'. Refute it at one input. -/
def kernLoopsWrong : ChangeSpec := { name := "kernLoops", fn := fun _ => fun
  | [d1, d2, d3] => { results := [.lit (.bool false)], args := [d1, d2, d3] }
  | _ => none }
def KernLoopsWrongFalsely : Prop := kernLoopsRow.holds Try.pinned (OpenSpec.ofChange kernLoopsWrong)

/-- 'trunnionlaw24.KernEnds': WHATEVER THE INPUT: true; the input reads as it did. -/
def kernEndsSpec : ChangeSpec := { name := "kernEnds", fn := fun _ => fun
  | [d1, d2, d3] => { results := [.lit (.bool true)], args := [d1, d2, d3] }
  | _ => none }
def kernEndsRow : OpenClaim := { program := "ytncbgnpoffolcaa", sum := "9934800c879cf50c68e393583a6f49ce6d7f8c06934e05717588ab2e40a700e3", func := "trunnion/trunnionlaw24.KernEnds", spec := "kernEnds", unfollowed := true, recurses := true, apart := false }
def KernEndsSaid : Prop := kernEndsRow.holds Try.pinned (OpenSpec.ofChange kernEndsSpec)

/-- ITS FALSE NEIGHBOUR: 'it returns false'. Refute it at one input. -/
def kernEndsWrong : ChangeSpec := { name := "kernEnds", fn := fun _ => fun
  | [d1, d2, d3] => { results := [.lit (.bool false)], args := [d1, d2, d3] }
  | _ => none }
def KernEndsWrongFalsely : Prop := kernEndsRow.holds Try.pinned (OpenSpec.ofChange kernEndsWrong)

/-- 'trunnionlaw24.KernPrios': WHATEVER THE INPUT: true; the input reads as it did. -/
def kernPriosSpec : ChangeSpec := { name := "kernPrios", fn := fun _ => fun
  | [d1, d2] => { results := [.lit (.bool true)], args := [d1, d2] }
  | _ => none }
def kernPriosRow : OpenClaim := { program := "ytncbgnpoffolcaa", sum := "9934800c879cf50c68e393583a6f49ce6d7f8c06934e05717588ab2e40a700e3", func := "trunnion/trunnionlaw24.KernPrios", spec := "kernPrios", unfollowed := true, recurses := true, apart := false }
def KernPriosSaid : Prop := kernPriosRow.holds Try.pinned (OpenSpec.ofChange kernPriosSpec)

/-- ITS FALSE NEIGHBOUR: 'it returns false'. Refute it at one input. -/
def kernPriosWrong : ChangeSpec := { name := "kernPrios", fn := fun _ => fun
  | [d1, d2] => { results := [.lit (.bool false)], args := [d1, d2] }
  | _ => none }
def KernPriosWrongFalsely : Prop := kernPriosRow.holds Try.pinned (OpenSpec.ofChange kernPriosWrong)

/-- 'trunnionlaw24.KernStops': WHATEVER THE INPUT: true; the input reads as it did. -/
def kernStopsSpec : ChangeSpec := { name := "kernStops", fn := fun _ => fun
  | [d1, d2, d3] => { results := [.lit (.bool true)], args := [d1, d2, d3] }
  | _ => none }
def kernStopsRow : OpenClaim := { program := "ytncbgnpoffolcaa", sum := "9934800c879cf50c68e393583a6f49ce6d7f8c06934e05717588ab2e40a700e3", func := "trunnion/trunnionlaw24.KernStops", spec := "kernStops", unfollowed := true, recurses := true, apart := false }
def KernStopsSaid : Prop := kernStopsRow.holds Try.pinned (OpenSpec.ofChange kernStopsSpec)

/-- ITS FALSE NEIGHBOUR: 'it returns false'. Refute it at one input. -/
def kernStopsWrong : ChangeSpec := { name := "kernStops", fn := fun _ => fun
  | [d1, d2, d3] => { results := [.lit (.bool false)], args := [d1, d2, d3] }
  | _ => none }
def KernStopsWrongFalsely : Prop := kernStopsRow.holds Try.pinned (OpenSpec.ofChange kernStopsWrong)

/- THE SECOND FORM. 'bulk': how many values and letters a reading holds, each counted each time it is reached (what is shared counts as often as it is met; a slice's spare places count too). A statement '..UptoSaid' is the law's where the arguments, and the package variables that the reading takes, are together of bulk at most 1048576: NARROWER than '..Said'. Prove '..Said' where nothing that the law and all that it calls make is longer than what came in: it says more and counts as full. Else prove '..UptoSaid'. A law counts once. -/
mutual
def uptoBulk {H : Type} : DataW H → Nat
  | .lit (.string bytes) => bytes.length + 1
  | .lit _ => 1
  | .nil => 1
  | .ptr d => uptoBulk d + 1
  | .slice elems spare => uptoBulkAll elems + uptoBulkAll spare + 1
  | .agg parts => uptoBulkAll parts + 1
  | .iface _ d => uptoBulk d + 1
  | .map entries => uptoBulkEntries entries + 1
  | .held _ => 1
def uptoBulkAll {H : Type} : List (DataW H) → Nat
  | [] => 0
  | d :: r => uptoBulk d + uptoBulkAll r
def uptoBulkEntries {H : Type} : List (Lit × DataW H) → Nat
  | [] => 0
  | x :: r => uptoBulkEntry x + uptoBulkEntries r
def uptoBulkEntry {H : Type} : Lit × DataW H → Nat
  | (.string bytes, d) => bytes.length + uptoBulk d + 1
  | (_, d) => uptoBulk d + 1
 end
def uptoSmall : (H : Type) → List (DataW H) → Bool := fun _ ds => decide (uptoBulkAll ds ≤ 1048576)
def OpenSpec.upto (s : _root_.Go.ChangeSpec) : _root_.Go.OpenSpec := { _root_.Go.OpenSpec.ofChange s with cond := some uptoSmall }

/-- 'trunnionlaw24.KernChain', WHERE WHAT IT READS IS OF BULK AT MOST 1048576: true; the input reads as it did. -/
def kernChainUptoRow : OpenClaim := { program := "ytncbgnpoffolcaa", sum := "9934800c879cf50c68e393583a6f49ce6d7f8c06934e05717588ab2e40a700e3", func := "trunnion/trunnionlaw24.KernChain", spec := "kernChain", unfollowed := true, recurses := true, apart := false, narrowed := true }
def KernChainUptoSaid : Prop := kernChainUptoRow.holds Try.pinned (OpenSpec.upto kernChainSpec)

/-- 'trunnionlaw24.KernFull', WHERE WHAT IT READS IS OF BULK AT MOST 1048576: true; the input reads as it did. -/
def kernFullUptoRow : OpenClaim := { program := "ytncbgnpoffolcaa", sum := "9934800c879cf50c68e393583a6f49ce6d7f8c06934e05717588ab2e40a700e3", func := "trunnion/trunnionlaw24.KernFull", spec := "kernFull", unfollowed := true, recurses := true, apart := false, narrowed := true }
def KernFullUptoSaid : Prop := kernFullUptoRow.holds Try.pinned (OpenSpec.upto kernFullSpec)

/-- 'trunnionlaw24.KernTimes', WHERE WHAT IT READS IS OF BULK AT MOST 1048576: true; the input reads as it did. -/
def kernTimesUptoRow : OpenClaim := { program := "ytncbgnpoffolcaa", sum := "9934800c879cf50c68e393583a6f49ce6d7f8c06934e05717588ab2e40a700e3", func := "trunnion/trunnionlaw24.KernTimes", spec := "kernTimes", unfollowed := true, recurses := true, apart := false, narrowed := true }
def KernTimesUptoSaid : Prop := kernTimesUptoRow.holds Try.pinned (OpenSpec.upto kernTimesSpec)

/-- 'trunnionlaw24.KernRuns', WHERE WHAT IT READS IS OF BULK AT MOST 1048576: true; the input reads as it did. -/
def kernRunsUptoRow : OpenClaim := { program := "ytncbgnpoffolcaa", sum := "9934800c879cf50c68e393583a6f49ce6d7f8c06934e05717588ab2e40a700e3", func := "trunnion/trunnionlaw24.KernRuns", spec := "kernRuns", unfollowed := true, recurses := true, apart := false, narrowed := true }
def KernRunsUptoSaid : Prop := kernRunsUptoRow.holds Try.pinned (OpenSpec.upto kernRunsSpec)

/-- 'trunnionlaw24.KernFirst', WHERE WHAT IT READS IS OF BULK AT MOST 1048576: true; the input reads as it did. -/
def kernFirstUptoRow : OpenClaim := { program := "ytncbgnpoffolcaa", sum := "9934800c879cf50c68e393583a6f49ce6d7f8c06934e05717588ab2e40a700e3", func := "trunnion/trunnionlaw24.KernFirst", spec := "kernFirst", unfollowed := true, recurses := true, apart := false, narrowed := true }
def KernFirstUptoSaid : Prop := kernFirstUptoRow.holds Try.pinned (OpenSpec.upto kernFirstSpec)

/-- 'trunnionlaw24.KernDelays', WHERE WHAT IT READS IS OF BULK AT MOST 1048576: true; the input reads as it did. -/
def kernDelaysUptoRow : OpenClaim := { program := "ytncbgnpoffolcaa", sum := "9934800c879cf50c68e393583a6f49ce6d7f8c06934e05717588ab2e40a700e3", func := "trunnion/trunnionlaw24.KernDelays", spec := "kernDelays", unfollowed := true, recurses := true, apart := false, narrowed := true }
def KernDelaysUptoSaid : Prop := kernDelaysUptoRow.holds Try.pinned (OpenSpec.upto kernDelaysSpec)

/-- 'trunnionlaw24.KernInherits', WHERE WHAT IT READS IS OF BULK AT MOST 1048576: true; the input reads as it did. -/
def kernInheritsUptoRow : OpenClaim := { program := "ytncbgnpoffolcaa", sum := "9934800c879cf50c68e393583a6f49ce6d7f8c06934e05717588ab2e40a700e3", func := "trunnion/trunnionlaw24.KernInherits", spec := "kernInherits", unfollowed := true, recurses := true, apart := false, narrowed := true }
def KernInheritsUptoSaid : Prop := kernInheritsUptoRow.holds Try.pinned (OpenSpec.upto kernInheritsSpec)

/-- 'trunnionlaw24.KernQueues', WHERE WHAT IT READS IS OF BULK AT MOST 1048576: true; the input reads as it did. -/
def kernQueuesUptoRow : OpenClaim := { program := "ytncbgnpoffolcaa", sum := "9934800c879cf50c68e393583a6f49ce6d7f8c06934e05717588ab2e40a700e3", func := "trunnion/trunnionlaw24.KernQueues", spec := "kernQueues", unfollowed := true, recurses := true, apart := false, narrowed := true }
def KernQueuesUptoSaid : Prop := kernQueuesUptoRow.holds Try.pinned (OpenSpec.upto kernQueuesSpec)

/-- 'trunnionlaw24.KernSems', WHERE WHAT IT READS IS OF BULK AT MOST 1048576: true; the input reads as it did. -/
def kernSemsUptoRow : OpenClaim := { program := "ytncbgnpoffolcaa", sum := "9934800c879cf50c68e393583a6f49ce6d7f8c06934e05717588ab2e40a700e3", func := "trunnion/trunnionlaw24.KernSems", spec := "kernSems", unfollowed := true, recurses := true, apart := false, narrowed := true }
def KernSemsUptoSaid : Prop := kernSemsUptoRow.holds Try.pinned (OpenSpec.upto kernSemsSpec)

/-- 'trunnionlaw24.KernLate', WHERE WHAT IT READS IS OF BULK AT MOST 1048576: true; the input reads as it did. -/
def kernLateUptoRow : OpenClaim := { program := "ytncbgnpoffolcaa", sum := "9934800c879cf50c68e393583a6f49ce6d7f8c06934e05717588ab2e40a700e3", func := "trunnion/trunnionlaw24.KernLate", spec := "kernLate", unfollowed := true, recurses := true, apart := false, narrowed := true }
def KernLateUptoSaid : Prop := kernLateUptoRow.holds Try.pinned (OpenSpec.upto kernLateSpec)

/-- 'trunnionlaw24.KernAnswers', WHERE WHAT IT READS IS OF BULK AT MOST 1048576: true; the input reads as it did. -/
def kernAnswersUptoRow : OpenClaim := { program := "ytncbgnpoffolcaa", sum := "9934800c879cf50c68e393583a6f49ce6d7f8c06934e05717588ab2e40a700e3", func := "trunnion/trunnionlaw24.KernAnswers", spec := "kernAnswers", unfollowed := true, recurses := true, apart := false, narrowed := true }
def KernAnswersUptoSaid : Prop := kernAnswersUptoRow.holds Try.pinned (OpenSpec.upto kernAnswersSpec)

/-- 'trunnionlaw24.KernRounds', WHERE WHAT IT READS IS OF BULK AT MOST 1048576: true; the input reads as it did. -/
def kernRoundsUptoRow : OpenClaim := { program := "ytncbgnpoffolcaa", sum := "9934800c879cf50c68e393583a6f49ce6d7f8c06934e05717588ab2e40a700e3", func := "trunnion/trunnionlaw24.KernRounds", spec := "kernRounds", unfollowed := true, recurses := true, apart := false, narrowed := true }
def KernRoundsUptoSaid : Prop := kernRoundsUptoRow.holds Try.pinned (OpenSpec.upto kernRoundsSpec)

/-- 'trunnionlaw24.KernLoops', WHERE WHAT IT READS IS OF BULK AT MOST 1048576: true; the input reads as it did. -/
def kernLoopsUptoRow : OpenClaim := { program := "ytncbgnpoffolcaa", sum := "9934800c879cf50c68e393583a6f49ce6d7f8c06934e05717588ab2e40a700e3", func := "trunnion/trunnionlaw24.KernLoops", spec := "kernLoops", unfollowed := true, recurses := true, apart := false, narrowed := true }
def KernLoopsUptoSaid : Prop := kernLoopsUptoRow.holds Try.pinned (OpenSpec.upto kernLoopsSpec)

/-- 'trunnionlaw24.KernEnds', WHERE WHAT IT READS IS OF BULK AT MOST 1048576: true; the input reads as it did. -/
def kernEndsUptoRow : OpenClaim := { program := "ytncbgnpoffolcaa", sum := "9934800c879cf50c68e393583a6f49ce6d7f8c06934e05717588ab2e40a700e3", func := "trunnion/trunnionlaw24.KernEnds", spec := "kernEnds", unfollowed := true, recurses := true, apart := false, narrowed := true }
def KernEndsUptoSaid : Prop := kernEndsUptoRow.holds Try.pinned (OpenSpec.upto kernEndsSpec)

/-- 'trunnionlaw24.KernPrios', WHERE WHAT IT READS IS OF BULK AT MOST 1048576: true; the input reads as it did. -/
def kernPriosUptoRow : OpenClaim := { program := "ytncbgnpoffolcaa", sum := "9934800c879cf50c68e393583a6f49ce6d7f8c06934e05717588ab2e40a700e3", func := "trunnion/trunnionlaw24.KernPrios", spec := "kernPrios", unfollowed := true, recurses := true, apart := false, narrowed := true }
def KernPriosUptoSaid : Prop := kernPriosUptoRow.holds Try.pinned (OpenSpec.upto kernPriosSpec)

/-- 'trunnionlaw24.KernStops', WHERE WHAT IT READS IS OF BULK AT MOST 1048576: true; the input reads as it did. -/
def kernStopsUptoRow : OpenClaim := { program := "ytncbgnpoffolcaa", sum := "9934800c879cf50c68e393583a6f49ce6d7f8c06934e05717588ab2e40a700e3", func := "trunnion/trunnionlaw24.KernStops", spec := "kernStops", unfollowed := true, recurses := true, apart := false, narrowed := true }
def KernStopsUptoSaid : Prop := kernStopsUptoRow.holds Try.pinned (OpenSpec.upto kernStopsSpec)

end Rows
end Go.Proofs.Ytncbgnpoffolcaa
