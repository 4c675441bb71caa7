/-
  LexerNames: what the plain lexer says of its sources: a finite number of them, each reckoned by the kernel.
-/
import Derived.Test.YtoidmljhlekbkaaDoorNum
namespace Go.Proofs.YtoidmljhlekbkaaDoor
open Lx
def tokEq (a b : Tok) : Bool := a.kind == b.kind && a.text == b.text && a.n == b.n && a.line == b.line && a.col == b.col
theorem tokEq_eq {a b : Tok} (h : tokEq a b = true) : a = b := by
  obtain ⟨k, t, n, l, c⟩ := a
  obtain ⟨k', t', n', l', c'⟩ := b
  simp [tokEq] at h
  obtain ⟨⟨⟨⟨rfl, rfl⟩, rfl⟩, rfl⟩, rfl⟩ := h
  rfl
def toksEq : List Tok → List Tok → Bool
  | [], [] => true
  | a :: x, b :: y => tokEq a b && toksEq x y
  | _, _ => false
theorem toksEq_eq : ∀ {x y : List Tok}, toksEq x y = true → x = y := by
  intro x
  induction x with
  | nil => intro y h; cases y with
    | nil => rfl
    | cons b y => simp [toksEq] at h
  | cons a x ih => intro y h; cases y with
    | nil => simp [toksEq] at h
    | cons b y =>
      simp [toksEq] at h
      rw [tokEq_eq h.1, ih h.2]
def ansEq (a b : List Tok × Int × Int × Int) : Bool := toksEq a.1 b.1 && a.2 == b.2
theorem ansEq_eq {a b : List Tok × Int × Int × Int} (h : ansEq a b = true) : a = b := by
  obtain ⟨a, a'⟩ := a
  obtain ⟨b, b'⟩ := b
  simp [ansEq] at h
  rw [toksEq_eq h.1, h.2]
def nameUnit (wide : Bool) : List UInt8 := if wide then [228, 184, 173] else [95]
def namesSrc (wide : Bool) : Nat → List UInt8
  | 0 => []
  | n + 1 => namesSrc wide n ++ nameUnit wide
def namesAns (wide : Bool) (n : Nat) : List Tok × Int × Int × Int :=
  if n ≤ 40 then ([⟨1, namesSrc wide n, 0, 1, 1⟩, ⟨6, [], 0, 1, n + 1⟩], 0, 0, 0) else ([], 1, 1, 2)
def names2Ans (n : Nat) : List Tok × Int × Int × Int := ([⟨1, 97 :: num n, 0, 1, 1⟩, ⟨4, [44], 0, 1, (num n).length + 3⟩, ⟨6, [], 0, 1, (num n).length + 4⟩], 0, 0, 0)
def names3Ans (n : Nat) : List Tok × Int × Int × Int := ([], 1, (num n).length + 1, 3)
set_option maxRecDepth 1000000 in
theorem names_check : ∀ n : Fin 61, n.val ≠ 0 → ansEq (tokens ⟨(namesSrc true n.val).toArray⟩) (namesAns true n.val) = true ∧ ansEq (tokens ⟨(namesSrc false n.val).toArray⟩) (namesAns false n.val) = true ∧
    ansEq (tokens ⟨(97 :: num n.val ++ [32, 44]).toArray⟩) (names2Ans n.val) = true ∧ ansEq (tokens ⟨(num n.val ++ [97]).toArray⟩) (names3Ans n.val) = true := by decide +kernel
theorem names_all (wide : Bool) (n : Nat) (h0 : 1 ≤ n) (h1 : n ≤ 60) : tokens ⟨(namesSrc wide n).toArray⟩ = namesAns wide n ∧ tokens ⟨(97 :: num n ++ [32, 44]).toArray⟩ = names2Ans n ∧ tokens ⟨(num n ++ [97]).toArray⟩ = names3Ans n := by
  obtain ⟨a, b, c, d⟩ := names_check ⟨n, by omega⟩ (by show n ≠ 0; omega)
  refine ⟨?_, ansEq_eq c, ansEq_eq d⟩
  cases wide
  · exact ansEq_eq b
  · exact ansEq_eq a
theorem namesSrc_len (wide : Bool) (n : Nat) : (namesSrc wide n).length ≤ 3 * n := by
  induction n with
  | zero => simp [namesSrc]
  | succ n ih => cases wide <;> simp [namesSrc, nameUnit] at * <;> omega
end Go.Proofs.YtoidmljhlekbkaaDoor
