/-
  Instructions, their words and their texts, in plain functions. No program is named here.
-/
import Derived.Below
namespace Go.Proofs.YtmfldcacjpligaaDoor
namespace Is
structure Ins where
  op : Int
  a : Int
  b : Int
  c : Int
  imm : Int
  deriving DecidableEq
/-- Of each operation: its form (0: there is none) and its name. -/
def table : List (UInt8 × List UInt8) :=
  [(0, []), (82, [97, 100, 100]), (82, [115, 117, 98]), (82, [97, 110, 100]), (82, [111, 114]), (82, [120, 111, 114]),
   (82, [115, 108, 108]), (82, [115, 114, 108]), (82, [115, 114, 97]), (82, [109, 117, 108]), (82, [115, 108, 116]), (82, [115, 108, 116, 117]),
   (82, [100, 105, 118, 117]), (82, [114, 101, 109, 117]), (0, []), (0, []), (73, [97, 100, 100, 105]), (85, [97, 110, 100, 105]),
   (85, [111, 114, 105]), (85, [120, 111, 114, 105]), (72, [115, 108, 108, 105]), (72, [115, 114, 108, 105]), (72, [115, 114, 97, 105]), (76, [108, 117, 105]),
   (73, [115, 108, 116, 105]), (0, []), (0, []), (0, []), (0, []), (0, []),
   (0, []), (0, []), (73, [108, 119]), (73, [108, 104]), (73, [108, 104, 117]), (73, [108, 98]),
   (73, [108, 98, 117]), (0, []), (0, []), (0, []), (73, [115, 119]), (73, [115, 104]),
   (73, [115, 98]), (0, []), (0, []), (0, []), (0, []), (0, []),
   (73, [98, 101, 113]), (73, [98, 110, 101]), (73, [98, 108, 116]), (73, [98, 103, 101]), (73, [98, 108, 116, 117]), (73, [98, 103, 101, 117]),
   (0, []), (0, []), (74, [106, 97, 108]), (73, [106, 97, 108, 114]), (0, []), (0, []),
   (0, []), (0, []), (0, []), (0, []), (78, [101, 99, 97, 108, 108]), (78, [115, 114, 101, 116]),
   (78, [119, 102, 105]), (0, []), (67, [99, 115, 114, 114]), (67, [99, 115, 114, 119]), (78, [98, 114, 107])]
def rowOf (op : Int) : UInt8 × List UInt8 := if 0 ≤ op ∧ op < 71 then table.getD op.toNat (0, []) else (0, [])
def form (op : Int) : UInt8 := (rowOf op).1
def name (op : Int) : List UInt8 := (rowOf op).2
/-- What a form has: registers, bits, the least and the greatest immediate. -/
structure Shape where
  regs : Int
  bits : Int
  low : Int
  high : Int
  deriving DecidableEq
def shapeOf (f : UInt8) : Shape :=
  if f = 82 then ⟨3, 0, 0, 0⟩ else if f = 73 then ⟨2, 16, -32768, 32767⟩ else if f = 85 then ⟨2, 16, 0, 65535⟩ else if f = 72 then ⟨2, 16, 0, 31⟩
  else if f = 76 then ⟨1, 16, 0, 65535⟩ else if f = 74 then ⟨1, 20, -524288, 524287⟩ else if f = 67 then ⟨1, 16, 0, 10⟩ else ⟨0, 0, 0, 0⟩
def regOk (s : Shape) (k : Int) (r : Int) : Bool := decide (0 ≤ r ∧ r ≤ 15 ∧ (s.regs ≤ k → r = 0))
def regsOk (i : Ins) : Bool := regOk (shapeOf (form i.op)) 0 i.a && regOk (shapeOf (form i.op)) 1 i.b && regOk (shapeOf (form i.op)) 2 i.c
def immOk (i : Ins) : Bool := decide ((shapeOf (form i.op)).low ≤ i.imm ∧ i.imm ≤ (shapeOf (form i.op)).high)
def word (i : Ins) : Int := i.op * 16777216 + i.a * 1048576 + i.b * 65536 + i.c * 4096 + i.imm % 2 ^ (shapeOf (form i.op)).bits.toNat
/-- The word of an instruction, or the error. -/
def enc (i : Ins) : Int × Int :=
  if form i.op = 0 then (0, 5) else if regsOk i = false then (0, 1) else if immOk i = false then (0, 6) else (word i, 0)
def sgn16 (n : Int) : Int := if 32768 ≤ n then n - 65536 else n
def sgn20 (n : Int) : Int := if 524288 ≤ n then n - 1048576 else n
/-- The instruction of a word from 0 to 2^32 - 1. -/
def decW (v : Int) : Option Ins :=
  let f := form (v / 16777216)
  if f = 82 then (if v % 4096 = 0 then some ⟨v / 16777216, v / 1048576 % 16, v / 65536 % 16, v / 4096 % 16, 0⟩ else none)
  else if f = 73 then some ⟨v / 16777216, v / 1048576 % 16, v / 65536 % 16, 0, sgn16 (v % 65536)⟩
  else if f = 85 then some ⟨v / 16777216, v / 1048576 % 16, v / 65536 % 16, 0, v % 65536⟩
  else if f = 72 then (if v % 65536 < 32 then some ⟨v / 16777216, v / 1048576 % 16, v / 65536 % 16, 0, v % 65536⟩ else none)
  else if f = 76 then (if v / 65536 % 16 = 0 then some ⟨v / 16777216, v / 1048576 % 16, 0, 0, v % 65536⟩ else none)
  else if f = 74 then some ⟨v / 16777216, v / 1048576 % 16, 0, 0, sgn20 (v % 1048576)⟩
  else if f = 67 then (if v / 65536 % 16 = 0 ∧ v % 65536 < 11 then some ⟨v / 16777216, v / 1048576 % 16, 0, 0, v % 65536⟩ else none)
  else if f = 78 then (if v % 16777216 = 0 then some ⟨v / 16777216, v / 1048576 % 16, 0, 0, 0⟩ else none)
  else none
def dec (w : Int) : Option Ins := decW (w % 4294967296)
/-! Texts. -/
def digits (n : Nat) : List UInt8 := if n ≤ 9 then [UInt8.ofNat (48 + n)] else digits (n / 10) ++ [UInt8.ofNat (48 + n % 10)]
def numStr (n : Int) : List UInt8 := if n < 0 then 45 :: digits (-n).toNat else digits n.toNat
def parts (i : Ins) : List (List UInt8) :=
  (([i.a, i.b, i.c].take (shapeOf (form i.op)).regs.toNat).map fun r => 114 :: numStr r) ++ (if 0 < (shapeOf (form i.op)).bits then [numStr i.imm] else [])
def joined : List (List UInt8) → List UInt8
  | [] => []
  | [x] => x
  | x :: y :: l => x ++ [44, 32] ++ joined (y :: l)
def text (i : Ins) : List UInt8 := if (enc i).2 = 0 then (if parts i = [] then name i.op else name i.op ++ 32 :: joined (parts i)) else []
/-- The operation of a name. -/
def opOf (n : List UInt8) : Int := ((table.map (·.2)).findIdx? (· == n)).getD 0
end Is
end Go.Proofs.YtmfldcacjpligaaDoor
