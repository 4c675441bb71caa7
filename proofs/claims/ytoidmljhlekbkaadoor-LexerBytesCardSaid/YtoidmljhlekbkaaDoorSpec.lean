/-
  What the given lexer computes, said in plain functions: its states, its steps and its loops. No program is named here.
-/
import Derived.Below
namespace Go.Proofs.YtoidmljhlekbkaaDoor
namespace Lx

structure Tok where
  kind : Int
  text : List UInt8
  n : Int
  line : Int
  col : Int

structure St where
  l : List Int
  at_ : Nat
  line : Int
  col : Int
  out : List Tok
  bad : Option (Int × Int × Int)
  cut : Bool

def runeAt (l : List Int) (i : Nat) : Int := l.getD i (-1)
def St.peek (x : St) (k : Nat) : Int := runeAt x.l (x.at_ + k)
def St.step (x : St) : St :=
  { x with at_ := x.at_ + 1, line := if x.peek 0 = 10 then x.line + 1 else x.line, col := if x.peek 0 = 10 then 1 else x.col + 1 }
def St.fail (x : St) (line col e : Int) : St :=
  match x.bad with
  | none => { x with bad := some (line, col, e) }
  | some _ => x
def St.quote (x : St) (line col : Int) : St :=
  if x.cut = true ∧ x.at_ = x.l.length then x.fail x.line x.col 4 else x.fail line col 3
def St.put (x : St) (kind : Int) (text : List UInt8) (n line col : Int) : St :=
  { x with out := x.out ++ [⟨kind, text, n, line, col⟩] }
def letter (c : Int) : Bool := decide ((97 ≤ c ∧ c ≤ 122) ∨ (65 ≤ c ∧ c ≤ 90) ∨ c = 95 ∨ c = 46 ∨ 128 ≤ c)
def digit (c : Int) : Bool := decide (48 ≤ c ∧ c ≤ 57)
def hex (c : Int) : Int :=
  if 48 ≤ c ∧ c ≤ 57 then c - 48 else if 97 ≤ c ∧ c ≤ 102 then c - 97 + 10 else if 65 ≤ c ∧ c ≤ 70 then c - 65 + 10 else -1

/-- Goes on while a rune passes. -/
def goWhile (p : Int → Bool) : Nat → St → St
  | 0, x => x
  | f + 1, x => if p (x.peek 0) then goWhile p f x.step else x
def St.skip (p : Int → Bool) (x : St) : St := goWhile p (x.l.length - x.at_) x
def runesBytes (l : List Int) : List UInt8 := l.flatMap fun r => (Utf8.encode r).data.toList
def nameCh (c : Int) : Bool := letter c || digit c
def St.name (x : St) : St :=
  let y := x.skip nameCh
  if 40 < y.at_ - x.at_ then y.fail x.line x.col 2
  else y.put 1 (runesBytes ((x.l.drop x.at_).take (y.at_ - x.at_))) 0 x.line x.col
/-- The digits of a number. -/
def digitsGo (base : Int) : Nat → Int → St → Int × St
  | 0, n, x => (n, x)
  | f + 1, n, x =>
    if hex (x.peek 0) < 0 ∨ base ≤ hex (x.peek 0) then (n, x)
    else digitsGo base f (min (n * base + hex (x.peek 0)) 4294967296) x.step
def St.digits (base n : Int) (x : St) : Int × St := digitsGo base (x.l.length - x.at_) n x
def St.number (x : St) : St :=
  let h := x.peek 0 = 48 ∧ x.peek 1 = 120 ∧ 0 ≤ hex (x.peek 2)
  let b := if h then x.step.step else x
  let r := b.digits (if h then 16 else 10) 0
  if letter (r.2.peek 0) then r.2.fail r.2.line r.2.col 3
  else if 4294967295 < r.1 then r.2.fail x.line x.col 6
  else r.2.put 2 [] r.1 x.line x.col
def St.escaped (x : St) (e : Int) : Int × St :=
  let c := x.peek 0
  if c = 10 ∨ c < 0 then (-1, x)
  else if c ≠ 92 then (c, x.step)
  else
    let y := x.step
    let d := y.peek 0
    if d = 110 then (10, y.step)
    else if d = 92 ∨ d = e then (d, y.step)
    else (-1, y)
def St.quoted (x : St) : St :=
  let y := x.step
  if y.peek 0 = 39 then y.quote x.line x.col
  else
    let r := y.escaped 39
    if r.1 < 0 ∨ r.2.peek 0 ≠ 39 then r.2.quote x.line x.col
    else r.2.step.put 2 [] r.1 x.line x.col
/-- A string's runes: what was read, and where it stands; none: it is no string (then: where it stands). -/
def textGo : Nat → List UInt8 → St → Option (List UInt8) × St
  | 0, _, x => (none, x)
  | f + 1, b, x =>
    if x.peek 0 = 34 then (some b, x)
    else
      let r := x.escaped 34
      if r.1 < 0 then (none, r.2)
      else textGo f (b ++ (Utf8.encode r.1).data.toList) r.2
def St.text (x : St) : St :=
  let y := x.step
  match textGo (y.l.length - y.at_ + 1) [] y with
  | (some b, z) => z.step.put 3 b 0 x.line x.col
  | (none, z) => z.quote x.line x.col
def sign (c : Int) : Bool := decide (c = 44 ∨ c = 58 ∨ c = 45 ∨ c = 43 ∨ c = 40 ∨ c = 41 ∨ c = 61)
def noteCh (c : Int) : Bool := decide (c ≠ 10 ∧ 0 ≤ c)
def St.one (x : St) : St :=
  let c := x.peek 0
  if c = 32 ∨ c = 9 ∨ c = 13 then x.step
  else if c = 59 then x.skip noteCh
  else if c = 10 then
    if 8000 < x.line then x.fail x.line x.col 2 else x.step.put 5 [] 0 x.line x.col
  else if letter c then x.name
  else if digit c then x.number
  else if c = 39 then x.quoted
  else if c = 34 then x.text
  else if sign c then x.step.put 4 (Utf8.encode c).data.toList 0 x.line x.col
  else x.fail x.line x.col 3
def runGo : Nat → St → St
  | 0, x => x
  | f + 1, x => if x.bad.isNone ∧ x.at_ < x.l.length then runGo f x.one else x
/-- The runes of a text, up to a byte that is none; is there one? -/
def decodeGo (s : ByteArray) : Nat → Nat → List Int × Bool
  | 0, _ => ([], false)
  | f + 1, i =>
    if s.size ≤ i then ([], false)
    else
      let d := Utf8.decode s i
      if d.1 = 65533 ∧ d.2 = 1 then ([], true)
      else
        let r := decodeGo s f (i + d.2)
        ((d.1 : Int) :: r.1, r.2)
def start (s : ByteArray) : St :=
  let d := decodeGo s (s.size + 1) 0
  { l := d.1, at_ := 0, line := 1, col := 1, out := [], bad := none, cut := d.2 }
def run (x : St) : St := runGo (x.l.length + 2) x
/-- The answer: tokens, or a place and an error. -/
def tokens (s : ByteArray) : List Tok × Int × Int × Int :=
  if 65536 < s.size then ([], 1, 1, 2)
  else
    let x := run (start s)
    let y := if x.cut then x.fail x.line x.col 4 else x
    match y.bad with
    | some (a, b, e) => ([], a, b, e)
    | none => ((y.put 6 [] 0 y.line y.col).out, 0, 0, 0)

end Lx
end Go.Proofs.YtoidmljhlekbkaaDoor
