/-
  PLAIN LEAN: what the functions of ent compute, over lists of bytes. No program and no memory in it.
-/
import Derived.Lib.Bytealg
import Derived.Lib.SlTrimSet
import Derived.Lib.RuneBytes
import Derived.Lib.SpaceU
namespace Go.Proofs.YtipbmagondoooaaGreatDoor.Spec

abbrev B := List UInt8

/-- The decimal digits, and the hexadecimal ones, as the program's constants have them. -/
def decs : B := [48, 49, 50, 51, 52, 53, 54, 55, 56, 57]
def hexs : B := [48, 49, 50, 51, 52, 53, 54, 55, 56, 57, 97, 98, 99, 100, 101, 102, 65, 66, 67, 68, 69, 70]

def named (s : B) : B :=
  if s = [97, 109, 112] then [38]
  else if s = [108, 116] then [60]
  else if s = [103, 116] then [62]
  else if s = [113, 117, 111, 116] then [34]
  else if s = [97, 112, 111, 115] then [39]
  else if s = [110, 98, 115, 112] then [194, 160]
  else if s = [99, 111, 112, 121] then [194, 169]
  else if s = [104, 101, 108, 108, 105, 112] then [226, 128, 166]
  else if s = [109, 100, 97, 115, 104] then [226, 128, 148]
  else []

/-- A digit's value. -/
def digV (c : UInt8) : Nat := if c.toNat ≤ 57 then c.toNat - 48 else if 97 ≤ c.toNat then c.toNat - 87 else c.toNat - 55
def numV (base : Nat) (l : B) : Nat := l.foldl (fun v c => v * base + digV c) 0
def validR (v : Nat) : Bool := decide (v < 55296) || (decide (57343 < v) && decide (v ≤ 1114111))
def runeOf (v : Nat) : Nat := if v ≠ 0 ∧ validR v = true then v else 65533

def number (l digits : B) (base most : Nat) : Option Nat :=
  if l = [] ∨ most < l.length ∨ l.all (digits.contains ·) = false then none else some (runeOf (numV base l))

/-- The number behind '&#'. -/
def ref (d : B) : Option Nat :=
  match d with
  | [] => none
  | c :: t => if c = 120 ∨ c = 88 then number t hexs 16 6 else number (c :: t) decs 10 7

/-- What stands between '&' and ';' stands for; none: nothing. -/
def inner (name : B) : Option B :=
  if named name ≠ [] then some (named name)
  else match name with
    | [] => none
    | c :: d => if c = 35 then (ref d).map (fun (r : Nat) => Lib.encodeRune (r : Int)) else none

def ent (s : B) : B × Nat :=
  match s with
  | [] => ([], 0)
  | c :: t =>
    if c = 38 ∧ 0 ≤ Lib.indexByte t 59 then
      match inner (t.take (Lib.indexByte t 59).toNat) with
      | some r => (r, (Lib.indexByte t 59).toNat + 2)
      | none => ([], 0)
    else ([], 0)

def sign (c : UInt8) : Bool :=
  (decide (33 ≤ c.toNat) && decide (c.toNat ≤ 47)) || (decide (58 ≤ c.toNat) && decide (c.toNat ≤ 64)) || (decide (91 ≤ c.toNat) && decide (c.toNat ≤ 96)) || (decide (123 ≤ c.toNat) && decide (c.toNat ≤ 126))

/-- Does a text begin with a sign? -/
def signed (t : B) : Bool :=
  match t with
  | [] => false
  | d :: _ => sign d
/-- One step of Unescape: what is written, and how many bytes are taken. -/
def step (s : B) : B × Nat :=
  match s with
  | [] => ([], 0)
  | c :: t =>
    if c = 92 ∧ signed t = true then (t.take 1, 2)
    else if 0 < (ent (c :: t)).2 then ent (c :: t) else ([c], 1)

def unescF : Nat → B → B
  | 0, _ => []
  | f + 1, s => if s = [] then [] else (step s).1 ++ unescF f (s.drop (step s).2)
def unesc (s : B) : B := unescF s.length s

/-! ### addresses -/
def letter (c : UInt8) : Bool := (decide (97 ≤ c.toNat) && decide (c.toNat ≤ 122)) || (decide (65 ≤ c.toNat) && decide (c.toNat ≤ 90)) || (decide (48 ≤ c.toNat) && decide (c.toNat ≤ 57))
/-- ;/?:@&=+$,-_.!~*'()# -/
def plains : B := [59, 47, 63, 58, 64, 38, 61, 43, 36, 44, 45, 95, 46, 33, 126, 42, 39, 40, 41, 35]
def isHex (s : B) : Bool :=
  match s with
  | a :: b :: _ => hexs.contains a && hexs.contains b
  | _ => false
def cap (n : Nat) : UInt8 := if n < 10 then (48 + n).toUInt8 else (55 + n).toUInt8
def uri : B → B
  | [] => []
  | c :: t => (if letter c = true ∨ plains.contains c = true ∨ (c = 37 ∧ isHex t = true) then [c] else [37, cap (c.toNat / 16), cap (c.toNat % 16)]) ++ uri t

/-! ### HTML, and runes spelt -/
def html1 (c : UInt8) : B := if c = 38 then [38, 97, 109, 112, 59] else if c = 60 then [38, 108, 116, 59] else if c = 62 then [38, 103, 116, 59] else if c = 34 then [38, 113, 117, 111, 116, 59] else [c]
def html (s : B) : B := s.flatMap html1
end Go.Proofs.YtipbmagondoooaaGreatDoor.Spec
