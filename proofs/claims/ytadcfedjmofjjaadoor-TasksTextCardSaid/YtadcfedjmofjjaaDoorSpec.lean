/-
  What a table's text says, in plain functions. No program is named here.
-/
import Derived.Below
namespace Go.Proofs.YtadcfedjmofjjaaDoor
namespace Tk
structure Op where
  kind : Int
  a : Int
  b : Int
  deriving DecidableEq
structure Task where
  prio : Int
  ops : List Op
structure Table where
  tasks : List Task
  sems : List Int
  mutexes : Int
  queues : List Int
def Table.none : Table := ⟨[], [], 0, []⟩
/-- An operation's name, and how many numbers its text has. -/
def names : List (List UInt8 × Nat) :=
  [([112, 117, 116], 1), ([121, 105, 101, 108, 100], 0), ([100, 101, 108, 97, 121], 1), ([116, 97, 107, 101], 2), ([103, 105, 118, 101], 1), ([108, 111, 99, 107], 1), ([117, 110, 108, 111, 99, 107], 1), ([115, 101, 110, 100], 2),
   ([114, 101, 99, 118], 1), ([115, 104, 111, 119], 0), ([108, 111, 111, 112], 2), ([98, 97, 100], 0), ([112, 111, 107, 101], 0), ([112, 114, 105, 111], 1), ([119, 104, 111], 0)]
/-- An operation's bounds at a place: the greatest a, the least and the greatest b. -/
def bounds (kind at_ : Int) : Option (Int × Int × Int) :=
  if kind = 0 then some (255, 0, 0) else if kind = 2 then some (1000, 0, 0) else if kind = 3 then some (15, -1, 1000)
  else if kind = 4 ∨ kind = 5 ∨ kind = 6 ∨ kind = 8 then some (15, 0, 0) else if kind = 7 then some (15, 0, 1000)
  else if kind = 10 then some (at_ - 1, 1, 20) else if kind = 13 then some (31, 0, 0)
  else if kind = 1 ∨ kind = 9 ∨ kind = 11 ∨ kind = 12 ∨ kind = 14 then some (0, 0, 0) else Option.none
def Op.fits (o : Op) (at_ : Int) : Bool :=
  match bounds o.kind at_ with
  | some (a, l, b) => decide (0 ≤ o.a ∧ o.a ≤ a ∧ l ≤ o.b ∧ o.b ≤ b)
  | Option.none => false
def opsFit : List Op → Int → Bool
  | [], _ => true
  | o :: l, i => o.fits i && opsFit l (i + 1)
def Task.fits (t : Task) : Bool := decide (0 ≤ t.prio ∧ t.prio ≤ 31 ∧ t.ops.length ≤ 100) && opsFit t.ops 0
def Table.fits (t : Table) : Bool :=
  decide (1 ≤ t.tasks.length ∧ t.tasks.length ≤ 32 ∧ t.sems.length ≤ 8 ∧ 0 ≤ t.mutexes ∧ t.mutexes ≤ 8 ∧ t.queues.length ≤ 8) &&
  t.sems.all (fun n => decide (0 ≤ n ∧ n ≤ 100)) && t.queues.all (fun n => decide (1 ≤ n ∧ n ≤ 16)) && t.tasks.all Task.fits
/-! The text. -/
def isDigit (b : UInt8) : Bool := decide (48 ≤ b.toNat ∧ b.toNat ≤ 57)
def value (w : List UInt8) : Int := w.foldl (fun n b => 10 * n + (b.toNat - 48 : Int)) 0
/-- The number of a word. -/
def num (w : List UInt8) : Option Int :=
  if w = [45, 49] then some (-1)
  else if w.length ≠ 0 ∧ w.length ≤ 4 ∧ (w.head? ≠ some 48 ∨ w = [48]) ∧ w.all isDigit = true then some (value w) else Option.none
def nums : List (List UInt8) → Option (List Int)
  | [] => some []
  | w :: l => match num w, nums l with
    | some n, some m => some (n :: m)
    | _, _ => Option.none
def wordsGo : List UInt8 → List UInt8 → List (List UInt8)
  | [], cur => if cur = [] then [] else [cur]
  | b :: t, cur => if b = 32 then (if cur = [] then wordsGo t [] else cur :: wordsGo t []) else wordsGo t (cur ++ [b])
def dotted (l : List UInt8) : Bool := decide (l.take 2 = [194, 183])
def inner (l : List UInt8) : Bool := dotted l || decide (l.head? = some 32)
def words (l : List UInt8) : List (List UInt8) := wordsGo (if dotted l then l.drop 2 else l) []
def heads : List (List UInt8) := [[115, 101, 109, 115], [109, 117, 116, 101, 120, 101, 115], [113, 117, 101, 117, 101, 115]]
/-- The operation of a name and of so many numbers. -/
def kindOf (w : List UInt8) (n : Nat) : Option Nat := names.findIdx? (fun x => decide (x = (w, n)))
def addOp (t : List Task) (o : Op) : List Task := t.dropLast ++ (match t.getLast? with | some x => [{ x with ops := x.ops ++ [o] }] | Option.none => [])
/-- A line, read behind so many lines ahead. -/
def line (t : Table) (head : Nat) (l : List UInt8) : Option (Table × Nat) :=
  match words l with
  | [] => if dotted l then Option.none else some (t, head)
  | w :: ws =>
    if w.head? = some 35 ∧ dotted l = false then some (t, head)
    else match nums ws with
      | Option.none => Option.none
      | some ns =>
        if head < 3 then
          if inner l = true ∨ some w ≠ heads[head]? then Option.none
          else if head = 0 then some ({ t with sems := ns }, 1)
          else if head = 1 then (if ns.length = 1 then some ({ t with mutexes := ns.headD 0 }, 2) else Option.none)
          else some ({ t with queues := ns }, 3)
        else if inner l = false then
          if w = [116, 97, 115, 107] ∧ ns.length = 1 then some ({ t with tasks := t.tasks ++ [⟨ns.headD 0, []⟩] }, head) else Option.none
        else if t.tasks = [] then Option.none
        else match kindOf w ns.length with
          | some k => some ({ t with tasks := addOp t.tasks ⟨k, ns.getD 0 0, ns.getD 1 0⟩ }, head)
          | Option.none => Option.none
def linesGo : List UInt8 → List UInt8 → List (List UInt8)
  | [], cur => if cur = [] then [] else [cur]
  | b :: t, cur => if b = 10 then cur :: linesGo t [] else linesGo t (cur ++ [b])
def lines (s : List UInt8) : List (List UInt8) := linesGo s []
/-- All lines: the table, or the number of the first line that can't be. -/
def linesRun : List (List UInt8) → Nat → Table → Nat → (Table × Nat) ⊕ Nat
  | [], _, t, h => .inl (t, h)
  | l :: ls, i, t, h => match line t h l with
    | some (t', h') => linesRun ls (i + 1) t' h'
    | Option.none => .inr i
/-- The table of a text, or the line and the error. -/
def parse (s : List UInt8) : Table × Int × Int :=
  match linesRun (lines s) 1 Table.none 0 with
  | .inr i => (Table.none, i, 3)
  | .inl (t, h) => if h < 3 then (Table.none, (lines s).length + 1, 3) else if t.fits then (t, 0, 0) else (Table.none, 0, 20)
end Tk
end Go.Proofs.YtadcfedjmofjjaaDoor
