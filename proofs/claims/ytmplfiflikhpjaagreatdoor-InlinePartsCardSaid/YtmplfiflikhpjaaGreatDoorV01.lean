/-
  Texts of one proof, joined: Spec, InSpec, InR, InMt, InPar, PlA, PlB, PlC, ParF, PlD, PlE.
-/
import Derived.Laws.RangeString
import Derived.Lib.Bytealg
import Derived.Lib.RuneBytes
import Derived.Lib.RuneCount
import Derived.Lib.SlTrimSet
import Derived.Lib.SpaceU
import Derived.Lib.Strings
/-
  PLAIN LEAN: what the functions of ent compute, over lists of bytes. No program and no memory in it.
-/
namespace Go.Proofs.YtmplfiflikhpjaaGreatDoor.Spec

abbrev B := List UInt8

/-- The decimal digits, and the hexadecimal ones, as the program's constants have them. -/
def decs : B := [48, 49, 50, 51, 52, 53, 54, 55, 56, 57]
def hexs : B := [48, 49, 50, 51, 52, 53, 54, 55, 56, 57, 97, 98, 99, 100, 101, 102, 65, 66, 67, 68, 69, 70]

def named (s : B) : B :=
  if s = [97, 109, 112] then [38]
  else if s = [108, 116] then [60]
  else if s = [103, 116] then [62]
  else if s = [113, 117, 111, 116] then [34]
  else if s = [97, 112, 111, 115] then [39]
  else if s = [110, 98, 115, 112] then [194, 160]
  else if s = [99, 111, 112, 121] then [194, 169]
  else if s = [104, 101, 108, 108, 105, 112] then [226, 128, 166]
  else if s = [109, 100, 97, 115, 104] then [226, 128, 148]
  else []

/-- A digit's value. -/
def digV (c : UInt8) : Nat := if c.toNat ≤ 57 then c.toNat - 48 else if 97 ≤ c.toNat then c.toNat - 87 else c.toNat - 55
def numV (base : Nat) (l : B) : Nat := l.foldl (fun v c => v * base + digV c) 0
def validR (v : Nat) : Bool := decide (v < 55296) || (decide (57343 < v) && decide (v ≤ 1114111))
def runeOf (v : Nat) : Nat := if v ≠ 0 ∧ validR v = true then v else 65533

def number (l digits : B) (base most : Nat) : Option Nat :=
  if l = [] ∨ most < l.length ∨ l.all (digits.contains ·) = false then none else some (runeOf (numV base l))

/-- The number behind '&#'. -/
def ref (d : B) : Option Nat :=
  match d with
  | [] => none
  | c :: t => if c = 120 ∨ c = 88 then number t hexs 16 6 else number (c :: t) decs 10 7

/-- What stands between '&' and ';' stands for; none: nothing. -/
def inner (name : B) : Option B :=
  if named name ≠ [] then some (named name)
  else match name with
    | [] => none
    | c :: d => if c = 35 then (ref d).map (fun (r : Nat) => Lib.encodeRune (r : Int)) else none

def ent (s : B) : B × Nat :=
  match s with
  | [] => ([], 0)
  | c :: t =>
    if c = 38 ∧ 0 ≤ Lib.indexByte t 59 then
      match inner (t.take (Lib.indexByte t 59).toNat) with
      | some r => (r, (Lib.indexByte t 59).toNat + 2)
      | none => ([], 0)
    else ([], 0)

def sign (c : UInt8) : Bool :=
  (decide (33 ≤ c.toNat) && decide (c.toNat ≤ 47)) || (decide (58 ≤ c.toNat) && decide (c.toNat ≤ 64)) || (decide (91 ≤ c.toNat) && decide (c.toNat ≤ 96)) || (decide (123 ≤ c.toNat) && decide (c.toNat ≤ 126))

/-- Does a text begin with a sign? -/
def signed (t : B) : Bool :=
  match t with
  | [] => false
  | d :: _ => sign d
/-- One step of Unescape: what is written, and how many bytes are taken. -/
def step (s : B) : B × Nat :=
  match s with
  | [] => ([], 0)
  | c :: t =>
    if c = 92 ∧ signed t = true then (t.take 1, 2)
    else if 0 < (ent (c :: t)).2 then ent (c :: t) else ([c], 1)

def unescF : Nat → B → B
  | 0, _ => []
  | f + 1, s => if s = [] then [] else (step s).1 ++ unescF f (s.drop (step s).2)
def unesc (s : B) : B := unescF s.length s

/-! ### addresses -/
def letter (c : UInt8) : Bool := (decide (97 ≤ c.toNat) && decide (c.toNat ≤ 122)) || (decide (65 ≤ c.toNat) && decide (c.toNat ≤ 90)) || (decide (48 ≤ c.toNat) && decide (c.toNat ≤ 57))
/-- ;/?:@&=+$,-_.!~*'()# -/
def plains : B := [59, 47, 63, 58, 64, 38, 61, 43, 36, 44, 45, 95, 46, 33, 126, 42, 39, 40, 41, 35]
def isHex (s : B) : Bool :=
  match s with
  | a :: b :: _ => hexs.contains a && hexs.contains b
  | _ => false
def cap (n : Nat) : UInt8 := if n < 10 then (48 + n).toUInt8 else (55 + n).toUInt8
def uri : B → B
  | [] => []
  | c :: t => (if letter c = true ∨ plains.contains c = true ∨ (c = 37 ∧ isHex t = true) then [c] else [37, cap (c.toNat / 16), cap (c.toNat % 16)]) ++ uri t

/-! ### HTML, and runes spelt -/
def html1 (c : UInt8) : B := if c = 38 then [38, 97, 109, 112, 59] else if c = 60 then [38, 108, 116, 59] else if c = 62 then [38, 103, 116, 59] else if c = 34 then [38, 113, 117, 111, 116, 59] else [c]
def html (s : B) : B := s.flatMap html1
end Go.Proofs.YtmplfiflikhpjaaGreatDoor.Spec
/-
  PLAIN LEAN: what the functions of inline and delim compute, over lists of bytes. No program and no memory in it.
-/
namespace Go.Proofs.YtmplfiflikhpjaaGreatDoor.Spec

/-! ### code -/
/-- How many of a byte a text begins with. -/
def run (l : B) (c : UInt8) : Nat := (l.takeWhile (· == c)).length
def ticks (l : B) : Nat := run l 96
/-- Where so many ticks stand, no more and no fewer. -/
def codeAt (n : Nat) (l : B) : Nat → Nat → Option Nat
  | 0, _ => none
  | f + 1, i => if i < l.length then (if ticks (l.drop i) = n then some i else codeAt n l f (i + max 1 (ticks (l.drop i)))) else none
/-- Ends of lines as blanks; without one blank at each end. -/
def codeText (t : B) : B :=
  let u := t.map fun c => if c = 10 then 32 else c
  if 1 < u.length ∧ u.head? = some 32 ∧ u.getLast? = some 32 ∧ u.all (· == 32) = false then (u.drop 1).dropLast else u
def code (l : B) : B × Nat :=
  if ticks l = 0 then ([], 0) else
  match codeAt (ticks l) l (l.length + 1) (ticks l) with
  | some i => (codeText ((l.take i).drop (ticks l)), i + ticks l)
  | none => ([], 0)

/-! ### links in angles -/
def alpha (c : UInt8) : Bool := (decide (97 ≤ c.toNat) && decide (c.toNat ≤ 122)) || (decide (65 ≤ c.toNat) && decide (c.toNat ≤ 90))
def digit (c : UInt8) : Bool := decide (48 ≤ c.toNat) && decide (c.toNat ≤ 57)
def schemeC (c : UInt8) : Bool := alpha c || digit c || c == 43 || c == 46 || c == 45
/-- .!#$%&'*+/=?^_{|}~- -/
def mails : B := [46, 33, 35, 36, 37, 38, 39, 42, 43, 47, 61, 63, 94, 95, 123, 124, 125, 126, 45]
def mailC (c : UInt8) : Bool := alpha c || digit c || mails.contains c
def hostC (c : UInt8) : Bool := alpha c || digit c || c == 45
def angleC (c : UInt8) : Bool := decide (32 < c.toNat) && c != 60 && c != 62
/-- How many bytes a scheme and what stands behind it have. -/
def scheme (l : B) : Nat :=
  let n := (l.takeWhile schemeC).length
  if 2 ≤ n ∧ n ≤ 32 ∧ (l.head?.map alpha) = some true ∧ l[n]? = some 58 then n + ((l.drop n).takeWhile angleC).length else 0
def partOk (p : B) : Bool := decide (0 < p.length) && decide (p.length ≤ 63) && p.head? != some 45 && p.getLast? != some 45 && p.all hostC
/-- The parts between points. -/
def parts : B → List B
  | [] => [[]]
  | c :: t => if c = 46 then [] :: parts t else match parts t with
    | p :: ps => (c :: p) :: ps
    | [] => [[c]]
def host (l : B) : Bool := (parts l).all partOk
def mailto : B := [109, 97, 105, 108, 116, 111, 58]
/-- What stands ahead of a byte, and behind it. -/
def cutAt (c : UInt8) (l : B) : Option (B × B) :=
  if 0 ≤ Lib.indexByte l c then some (l.take (Lib.indexByte l c).toNat, l.drop ((Lib.indexByte l c).toNat + 1)) else none
def mail (l : B) : Bool :=
  match cutAt 64 l with
  | some (name, h) => decide (0 < name.length) && name.all mailC && host h
  | none => false
def auto (l : B) : B × B × Nat :=
  match l with
  | [] => ([], [], 0)
  | c :: t =>
    if c ≠ 60 then ([], [], 0) else
    if 0 < scheme t ∧ t[scheme t]? = some 62 then (t.take (scheme t), uri (t.take (scheme t)), scheme t + 2) else
    match cutAt 62 t with
    | some (x, _) => if mail x = true then (x, mailto ++ uri x, x.length + 2) else ([], [], 0)
    | none => ([], [], 0)

/-! ### where a link leads -/
/-- A stroke ahead of a sign. -/
def pair (l : B) : Bool :=
  match l with
  | c :: d :: _ => c == 92 && sign d
  | _ => false
/-- How many bytes stand ahead of the one that ends. -/
def until_ (e : UInt8) (no : B) : B → Option Nat
  | [] => none
  | [c] => if c = e then some 0 else none
  | c :: d :: u => if c = 92 ∧ sign d = true then (until_ e no u).map (· + 2) else if c = e then some 0 else if no.contains c = true then none else (until_ e no (d :: u)).map (· + 1)
/-- How many bytes an address without angles has. -/
def bare : Nat → B → Option Nat
  | deep, [] => if 0 < deep then none else some 0
  | deep, [c] => if c.toNat ≤ 32 then (if 0 < deep then none else some 0) else if c = 40 then none else if c = 41 then (if deep = 0 then some 0 else if 1 < deep then none else some 1) else if 0 < deep then none else some 1
  | deep, c :: d :: u =>
    if c.toNat ≤ 32 then (if 0 < deep then none else some 0)
    else if c = 92 ∧ sign d = true then (bare deep u).map (· + 2)
    else if c = 40 then (bare (deep + 1) (d :: u)).map (· + 1)
    else if c = 41 then (if deep = 0 then some 0 else (bare (deep - 1) (d :: u)).map (· + 1))
    else (bare deep (d :: u)).map (· + 1)
def address (l : B) : Option (B × Nat) :=
  match l with
  | [] => (bare 0 []).map fun n => ([], n)
  | c :: t => if c = 60 then (until_ 62 [60, 10] t).map fun n => (t.take n, n + 2) else (bare 0 (c :: t)).map fun n => ((c :: t).take n, n)
def said (l : B) : B × Nat :=
  match l with
  | [] => ([], 0)
  | c :: t =>
    if c = 34 ∨ c = 39 then (match until_ c [] t with | some n => (t.take n, n + 2) | none => ([], 0))
    else if c = 40 then (match until_ 41 [40] t with | some n => (t.take n, n + 2) | none => ([], 0))
    else ([], 0)
def whiteC (c : UInt8) : Bool := c == 32 || c == 9 || c == 10
def skipW (l : B) : B := l.dropWhile whiteC
def dest (l : B) : B × B × Nat :=
  match l with
  | [] => ([], [], 0)
  | c :: t =>
    if c ≠ 40 then ([], [], 0) else
    match address (skipW t) with
    | none => ([], [], 0)
    | some (a, k) =>
      let rest := (skipW t).drop k
      let x := skipW rest
      let r := if x.length < rest.length then ((said x).1, skipW (x.drop (said x).2)) else ([], rest)
      if r.2.head? = some 41 then (uri (unesc a), unesc r.1, (c :: t).length - r.2.length + 1) else ([], [], 0)

/-! ### marks -/
structure Mark where
  sign : UInt8
  n : Nat
  opn : Bool
  cls : Bool
structure Pair where
  from_ : Nat
  to : Nat
  strong : Bool
def within (r : Nat) : List Nat → Bool
  | a :: b :: t => (decide (a ≤ r) && decide (r ≤ b)) || within r t
  | _ => false
def blankR (r : Nat) : Bool := within r [9, 10, 12, 13, 32, 32, 160, 160, 5760, 5760, 8192, 8202, 8239, 8239, 8287, 8287, 12288, 12288]
def punctR (r : Nat) : Bool :=
  if r < 128 then sign r.toUInt8
  else within r [161, 169, 171, 172, 174, 177, 180, 180, 182, 184, 187, 187, 191, 191, 215, 215, 247, 247, 8208, 8231, 8240, 8286, 8352, 8384, 8592, 11263, 12289, 12291, 12296, 12320]
def look (c : UInt8) (n : Nat) (before after : Nat) : Mark :=
  let on := !blankR after && (!punctR after || blankR before || punctR before)
  let back := !blankR before && (!punctR before || blankR after || punctR after)
  if c = 95 then ⟨c, n, on && (!back || punctR before), back && (!on || punctR after)⟩ else ⟨c, n, on, back⟩

/-- Of marks: how many signs are left, and which are out. -/
structure MState where
  left : List Nat
  out : List Bool
def fits (l : List Mark) (s : MState) (i k : Nat) : Bool :=
  match l[i]?, l[k]? with
  | some a, some b =>
    !(s.out.getD i true) && a.opn && a.sign == b.sign && decide (0 < s.left.getD i 0) &&
      (!(a.opn && a.cls || b.opn && b.cls) || decide ((a.n % 3 + b.n % 3) % 3 ≠ 0) || (decide (a.n % 3 = 0) && decide (b.n % 3 = 0)))
  | _, _ => false
/-- The last one ahead of i that may be paired with k. -/
def opener (l : List Mark) (s : MState) (k : Nat) : Nat → Option Nat
  | 0 => none
  | i + 1 => if fits l s i k = true then some i else opener l s k i
def pairUp (s : MState) (i k : Nat) : Pair × MState :=
  let strong := decide (2 ≤ s.left.getD i 0) && decide (2 ≤ s.left.getD k 0)
  let n := if strong = true then 2 else 1
  let left := (s.left.set i (s.left.getD i 0 - n)).set k (s.left.getD k 0 - n)
  let out1 := (List.range s.out.length).map fun j => if i < j ∧ j < k then true else s.out.getD j true
  (⟨i, k, strong⟩, ⟨left, (out1.set i (left.getD i 0 == 0)).set k (left.getD k 0 == 0)⟩)
/-- One mark is matched, with so many pairs at most. -/
def matchAt (l : List Mark) (k : Nat) : Nat → MState → List Pair × MState
  | 0, s => ([], s)
  | f + 1, s =>
    match l[k]? with
    | none => ([], s)
    | some b =>
      if s.out.getD k true = false ∧ b.cls = true ∧ 0 < s.left.getD k 0 then
        match opener l s k k with
        | none => ([], ⟨s.left, s.out.set k (!b.opn)⟩)
        | some i => let r := pairUp s i k; let q := matchAt l k f r.2; (r.1 :: q.1, q.2)
      else ([], s)
def matchFrom (l : List Mark) (f : Nat) : Nat → Nat → MState → List Pair × MState
  | 0, _, s => ([], s)
  | m + 1, k, s => let p := matchAt l k f s; let q := matchFrom l f m (k + 1) p.2; (p.1 ++ q.1, q.2)
def most (l : List Mark) : Nat := l.foldl (fun a x => a + x.n) 0
def matches_ (l : List Mark) : List Pair := (matchFrom l (most l + 1) l.length 0 ⟨l.map (·.n), l.map (·.n == 0)⟩).1

/-! ### pieces -/
inductive Node where
  | mk (kind : Nat) (text url title : B) (kids : List Node)
def Node.kind : Node → Nat | .mk k _ _ _ _ => k
def Node.text : Node → B | .mk _ t _ _ _ => t
def Node.addText : Node → B → Node | .mk k t u v w, x => .mk k (t ++ x) u v w
def Node.setText : Node → B → Node | .mk k _ u v w, x => .mk k x u v w
def txt (t : B) : Node := .mk 10 t [] [] []

structure Piece where
  node : Node
  raw : Bool
  mark : Option Mark
  left : Nat
  image : Bool
  noted : Bool
  dead : Bool
def plainP (n : Node) : Piece := ⟨n, false, none, 0, false, false, false⟩
/-- A piece as a node. -/
def Piece.asNode (p : Piece) : Node :=
  match p.mark with
  | some m => txt (List.replicate p.left m.sign)
  | none => p.node
def addNode (out : List Node) (n : Node) : List Node :=
  match out.getLast? with
  | some k => if n.kind = 10 ∧ k.kind = 10 then out.dropLast ++ [k.addText n.text] else if n.kind ≠ 10 ∨ n.text ≠ [] then out ++ [n] else out
  | none => if n.kind ≠ 10 ∨ n.text ≠ [] then [n] else []
def flat (l : List Piece) : List Node := l.foldl (fun out p => addNode out p.asNode) []
/-- Pieces with the numbers of their marks. -/
def numbered : Nat → List Piece → List (Piece × Option Nat)
  | _, [] => []
  | n, p :: t => match p.mark with
    | some _ => (p, some n) :: numbered (n + 1) t
    | none => (p, none) :: numbered n t
def wrap (l : List (Piece × Option Nat)) (p : Pair) : List (Piece × Option Nat) :=
  let a := l.findIdx (·.2 == some p.from_)
  let b := l.findIdx (·.2 == some p.to)
  let n := if p.strong = true then 2 else 1
  let l2 := (l.modify a fun x => ({ x.1 with left := x.1.left - n }, x.2)).modify b fun x => ({ x.1 with left := x.1.left - n }, x.2)
  l2.take (a + 1) ++ (plainP (.mk (if p.strong = true then 14 else 13) [] [] [] (flat (((l.take b).drop (a + 1)).map (·.1)))), none) :: l2.drop b
def nodes (l : List Piece) : List Node :=
  flat (((matches_ (l.filterMap (·.mark))).foldl wrap (numbered 0 l)).map (·.1))

/-! ### the parser -/
def addText (ps : List Piece) (t : B) (raw : Bool) : List Piece :=
  match ps.getLast? with
  | some p => if p.raw = true ∧ raw = true ∧ p.node.kind = 10 ∧ p.noted = false then ps.dropLast ++ [{ p with node := p.node.addText t }] else ps ++ [⟨txt t, raw, none, 0, false, false, false⟩]
  | none => [⟨txt t, raw, none, 0, false, false, false⟩]
def blank2 (c : UInt8) : Bool := c == 32 || c == 9
def skipB (l : B) : B := l.dropWhile blank2
def lastNoted (ps : List Piece) : Option Nat := (List.range ps.length).reverse.find? fun i => (ps[i]?.map (·.noted)).getD false
/-- ']': how many bytes are taken, and the pieces; s: what stands behind it. -/
def bracket (t : B) (ps : List Piece) : Nat × List Piece :=
  match lastNoted ps with
  | none => (1, addText ps [93] true)
  | some i =>
    match ps[i]? with
    | none => (1, ps)
    | some b =>
      let d := dest t
      if b.dead = true ∨ d.2.2 = 0 then (1, addText (ps.modify i fun p => { p with noted := false, raw := false }) [93] true)
      else
        let x := Node.mk (if b.image = true then 17 else 16) [] d.1 d.2.1 (nodes (ps.drop (i + 1)))
        (d.2.2 + 1, ((ps.take i).map fun p => if b.image = false ∧ p.noted = true ∧ p.image = false then { p with dead := true } else p) ++ [plainP x])
def newline (t : B) (ps : List Piece) : Nat × List Piece :=
  let r : Nat × List Piece := match ps.getLast? with
    | some p => if p.raw = true then
        (if 2 ≤ p.node.text.length - (Lib.trimRightS p.node.text [32]).length then 12 else 11, ps.dropLast ++ [{ p with node := p.node.setText (Lib.trimRightS p.node.text [32]) }])
      else (11, ps)
    | none => (11, ps)
  (1 + t.length - (skipB t).length, r.2 ++ [plainP (.mk r.1 [] [] [] [])])
def meant : B := [92, 96, 60, 38, 42, 95, 33, 91, 93, 10]
/-- One step: how many bytes are taken, and the pieces; before: the rune ahead; after: the rune that a text begins with. -/
def stepP (before : Nat) (after : B → Nat) (s : B) (ps : List Piece) : Nat × List Piece :=
  match s with
  | [] => (0, ps)
  | c :: t =>
    if c = 92 then
      (if t.head? = some 10 then (2 + (t.drop 1).length - (skipB (t.drop 1)).length, ps ++ [plainP (.mk 12 [] [] [] [])])
       else if pair s = true then (2, addText ps (t.take 1) false) else (1, addText ps [92] true))
    else if c = 96 then
      (let k := code s; if 0 < k.2 then (k.2, ps ++ [plainP (.mk 15 k.1 [] [] [])]) else (ticks s, addText ps (s.take (ticks s)) true))
    else if c = 60 then
      (let k := auto s; if 0 < k.2.2 then (k.2.2, ps ++ [plainP (.mk 16 [] k.2.1 [] [txt k.1])]) else (1, addText ps [60] true))
    else if c = 38 then
      (let k := ent s; if 0 < k.2 then (k.2, addText ps k.1 false) else (1, addText ps [38] true))
    else if c = 42 ∨ c = 95 then
      (let n := run s c; (n, ps ++ [⟨.mk 0 [] [] [] [], false, some (look c n before (after (s.drop n))), n, false, false, false⟩]))
    else if c = 33 then
      (if t.head? = some 91 then (2, ps ++ [⟨txt [33, 91], false, none, 0, true, true, false⟩]) else (1, addText ps [33] true))
    else if c = 91 then (1, ps ++ [⟨txt [91], false, none, 0, false, true, false⟩])
    else if c = 93 then bracket t ps
    else if c = 10 then newline t ps
    else (let n := 1 + (t.takeWhile fun d => !meant.contains d).length; (n, addText ps (s.take n) true))
end Go.Proofs.YtmplfiflikhpjaaGreatDoor.Spec
/-
  PLAIN LEAN: the rune that a text begins with, and the last one.
-/
namespace Go.Proofs.YtmplfiflikhpjaaGreatDoor

def firstR (s : ByteArray) : Nat := if 0 < s.size then (Utf8.decode s 0).1 else 10
def lastFrom (s : ByteArray) : Nat → Nat → Nat → Nat
  | 0, _, acc => acc
  | f + 1, pos, acc => if pos < s.size then lastFrom s f (pos + (Utf8.decode s pos).2) (Utf8.decode s pos).1 else acc
def lastR (s : ByteArray) : Nat := lastFrom s s.size 0 10
theorem lastFrom_end (s : ByteArray) (f pos acc : Nat) (h : s.size ≤ pos) : lastFrom s f pos acc = acc := by
  cases f with
  | zero => rfl
  | succ f => rw [lastFrom, if_neg (by omega)]
def last16 (s : ByteArray) : ByteArray := s.extract (s.size - 16) s.size
end Go.Proofs.YtmplfiflikhpjaaGreatDoor
/-
  PLAIN LEAN: what the matching of Marks keeps: how many signs are left, how many Pairs there can be.
-/
namespace Go.Proofs.YtmplfiflikhpjaaGreatDoor

theorem sum_set (l : List Nat) (i v : Nat) (h : i < l.length) : (l.set i v).sum + l.getD i 0 = l.sum + v := by
  induction l generalizing i with
  | nil => simp at h
  | cons a t ih =>
    cases i with
    | zero => simp [List.getD]; omega
    | succ i =>
      have := ih i (by simpa using h)
      simp only [List.set_cons_succ, List.sum_cons, List.getD_cons_succ] at this ⊢
      omega
theorem le_sum (l : List Nat) (i : Nat) : l.getD i 0 ≤ l.sum := by
  induction l generalizing i with
  | nil => simp [List.getD]
  | cons a t ih =>
    cases i with
    | zero => simp [List.getD]
    | succ i =>
      have := ih i
      simp only [List.sum_cons, List.getD_cons_succ]
      omega
theorem most_sum (l : List Spec.Mark) : Spec.most l = (l.map (·.n)).sum := by
  have h : ∀ (l : List Spec.Mark) (a : Nat), l.foldl (fun a x => a + x.n) a = a + (l.map (·.n)).sum := by
    intro l
    induction l with
    | nil => intro a; simp
    | cons x t ih => intro a; rw [List.foldl_cons, ih, List.map_cons, List.sum_cons]; omega
  unfold Spec.most
  rw [h, Nat.zero_add]
theorem opener_some (l : List Spec.Mark) (s : Spec.MState) (k : Nat) : ∀ (i j : Nat), Spec.opener l s k i = some j → j < i ∧ Spec.fits l s j k = true
  | 0, _, h => by cases h
  | i + 1, j, h => by
    unfold Spec.opener at h
    by_cases hf : Spec.fits l s i k = true
    · rw [if_pos hf] at h
      obtain rfl := Option.some.inj h
      exact ⟨by omega, hf⟩
    · rw [if_neg hf] at h
      have := opener_some l s k i j h
      exact ⟨by omega, this.2⟩
theorem fits_left (l : List Spec.Mark) (s : Spec.MState) (i k : Nat) (h : Spec.fits l s i k = true) : 0 < s.left.getD i 0 := by
  unfold Spec.fits at h
  split at h
  · simp only [Bool.and_eq_true, decide_eq_true_eq] at h
    exact h.1.2
  · cases h
/-- How many signs a Pair takes of each. -/
def takes (st : Spec.MState) (i k : Nat) : Nat := if (decide (2 ≤ st.left.getD i 0) && decide (2 ≤ st.left.getD k 0)) = true then 2 else 1
theorem takes_le (st : Spec.MState) (i k : Nat) (h0 : 0 < st.left.getD i 0) (h1 : 0 < st.left.getD k 0) : 1 ≤ takes st i k ∧ takes st i k ≤ st.left.getD i 0 ∧ takes st i k ≤ st.left.getD k 0 := by
  unfold takes
  split
  · rename_i h
    simp only [Bool.and_eq_true, decide_eq_true_eq] at h
    omega
  · omega
theorem pairUp_left (st : Spec.MState) (i k : Nat) : (Spec.pairUp st i k).2.left = (st.left.set i (st.left.getD i 0 - takes st i k)).set k (st.left.getD k 0 - takes st i k) := rfl
theorem pairUp_len (st : Spec.MState) (i k : Nat) : (Spec.pairUp st i k).2.left.length = st.left.length ∧ (Spec.pairUp st i k).2.out.length = st.out.length := by
  constructor
  · rw [pairUp_left]; simp
  · unfold Spec.pairUp; simp
theorem pairUp_sum (st : Spec.MState) (i k : Nat) (hik : i < k) (hk : k < st.left.length) (h0 : 0 < st.left.getD i 0) (h1 : 0 < st.left.getD k 0) : (Spec.pairUp st i k).2.left.sum + 2 ≤ st.left.sum := by
  have ht := takes_le st i k h0 h1
  rw [pairUp_left]
  have e1 := sum_set st.left i (st.left.getD i 0 - takes st i k) (by omega)
  have e2 := sum_set (st.left.set i (st.left.getD i 0 - takes st i k)) k (st.left.getD k 0 - takes st i k) (by rw [List.length_set]; exact hk)
  have e3 : (st.left.set i (st.left.getD i 0 - takes st i k)).getD k 0 = st.left.getD k 0 := by
    simp [List.getD, show ¬ i = k by omega]
  rw [e3] at e2
  omega
theorem pairUp_leftk (st : Spec.MState) (i k : Nat) (_hik : i < k) (hk : k < st.left.length) (h0 : 0 < st.left.getD i 0) (h1 : 0 < st.left.getD k 0) : (Spec.pairUp st i k).2.left.getD k 0 < st.left.getD k 0 := by
  have ht := takes_le st i k h0 h1
  rw [pairUp_left]
  have : ((st.left.set i (st.left.getD i 0 - takes st i k)).set k (st.left.getD k 0 - takes st i k)).getD k 0 = st.left.getD k 0 - takes st i k := by
    simp [List.getD, hk]
  rw [this]
  omega
theorem matchAt_stop (l : List Spec.Mark) (k f : Nat) (s : Spec.MState) (b : Spec.Mark) (hb : l[k]? = some b) (h : ¬ (s.out.getD k true = false ∧ b.cls = true ∧ 0 < s.left.getD k 0)) : Spec.matchAt l k (f + 1) s = ([], s) := by
  unfold Spec.matchAt
  rw [hb]
  simp only
  rw [if_neg h]
theorem matchAt_none (l : List Spec.Mark) (k f : Nat) (s : Spec.MState) (b : Spec.Mark) (hb : l[k]? = some b) (h : s.out.getD k true = false ∧ b.cls = true ∧ 0 < s.left.getD k 0) (ho : Spec.opener l s k k = none) :
    Spec.matchAt l k (f + 1) s = ([], ⟨s.left, s.out.set k (!b.opn)⟩) := by
  unfold Spec.matchAt
  rw [hb]
  simp only
  rw [if_pos h, ho]
theorem matchAt_some (l : List Spec.Mark) (k f : Nat) (s : Spec.MState) (b : Spec.Mark) (hb : l[k]? = some b) (h : s.out.getD k true = false ∧ b.cls = true ∧ 0 < s.left.getD k 0) (i : Nat) (ho : Spec.opener l s k k = some i) :
    Spec.matchAt l k (f + 1) s = ((Spec.pairUp s i k).1 :: (Spec.matchAt l k f (Spec.pairUp s i k).2).1, (Spec.matchAt l k f (Spec.pairUp s i k).2).2) := by
  conv => lhs; unfold Spec.matchAt
  rw [hb]
  simp only
  rw [if_pos h, ho]
theorem matchFrom_succ (l : List Spec.Mark) (f m k : Nat) (s : Spec.MState) : Spec.matchFrom l f (m + 1) k s = ((Spec.matchAt l k f s).1 ++ (Spec.matchFrom l f m (k + 1) (Spec.matchAt l k f s).2).1, (Spec.matchFrom l f m (k + 1) (Spec.matchAt l k f s).2).2) := rfl

/-- The first loop's work, so far. -/
def leftTo (l : List Spec.Mark) (i : Nat) : List Nat := (List.range l.length).map fun j => if j < i then (l[j]?.map (·.n)).getD 0 else 0
def outIn (l : List Spec.Mark) (i : Nat) : List Bool := (List.range l.length).map fun j => if j < i then (l[j]?.map (·.n)).getD 0 == 0 else false
theorem range_map_set {α : Type} (n : Nat) (f g : Nat → α) (i : Nat) (v : α) (hv : g i = v) (h : ∀ j, j ≠ i → g j = f j) : ((List.range n).map f).set i v = (List.range n).map g := by
  apply List.ext_getElem?
  intro x
  rw [List.getElem?_set]
  by_cases e : i = x
  · subst e
    rw [if_pos rfl]
    by_cases hx : i < n
    · rw [if_pos (by simpa using hx), List.getElem?_map, List.getElem?_range hx]
      simp [hv]
    · rw [if_neg (by simpa using hx), List.getElem?_eq_none (by simpa using hx)]
  · rw [if_neg e, List.getElem?_map, List.getElem?_map]
    by_cases hx : x < n
    · rw [List.getElem?_range hx]
      simp [h x (fun e2 => e e2.symm)]
    · rw [List.getElem?_eq_none (by simpa using hx)]; rfl
theorem leftTo_step (l : List Spec.Mark) (i : Nat) (b : Spec.Mark) (hb : l[i]? = some b) : (leftTo l i).set i b.n = leftTo l (i + 1) := by
  unfold leftTo
  refine range_map_set _ _ _ i b.n (by rw [if_pos (by omega), hb]; rfl) (fun j hj => ?_)
  by_cases h : j < i
  · rw [if_pos h, if_pos (by omega)]
  · rw [if_neg h, if_neg (by omega)]
theorem outIn_step (l : List Spec.Mark) (i : Nat) (b : Spec.Mark) (hb : l[i]? = some b) : (outIn l i).set i (b.n == 0) = outIn l (i + 1) := by
  unfold outIn
  refine range_map_set _ _ _ i (b.n == 0) (by rw [if_pos (by omega), hb]; rfl) (fun j hj => ?_)
  by_cases h : j < i
  · rw [if_pos h, if_pos (by omega)]
  · rw [if_neg h, if_neg (by omega)]
theorem leftTo_all (l : List Spec.Mark) : leftTo l l.length = l.map (·.n) := by
  unfold leftTo
  apply List.ext_getElem?
  intro x
  rw [List.getElem?_map, List.getElem?_map]
  by_cases hx : x < l.length
  · rw [List.getElem?_range hx]
    simp [hx]
  · rw [List.getElem?_eq_none (by simpa using hx), List.getElem?_eq_none (by omega)]; rfl
theorem outIn_all (l : List Spec.Mark) : outIn l l.length = l.map (·.n == 0) := by
  unfold outIn
  apply List.ext_getElem?
  intro x
  rw [List.getElem?_map, List.getElem?_map]
  by_cases hx : x < l.length
  · rw [List.getElem?_range hx]
    simp [hx]
  · rw [List.getElem?_eq_none (by simpa using hx), List.getElem?_eq_none (by omega)]; rfl
theorem leftTo_zero (l : List Spec.Mark) : leftTo l 0 = List.replicate l.length 0 := by
  unfold leftTo
  simp [List.map_const']
theorem outIn_zero (l : List Spec.Mark) : outIn l 0 = List.replicate l.length false := by
  unfold outIn
  simp [List.map_const']
theorem leftTo_length (l : List Spec.Mark) (i : Nat) : (leftTo l i).length = l.length := by simp [leftTo]
theorem outIn_length (l : List Spec.Mark) (i : Nat) : (outIn l i).length = l.length := by simp [outIn]
end Go.Proofs.YtmplfiflikhpjaaGreatDoor
/-
  PLAIN LEAN: a text as pieces, all of it; pieces that are text alone come to one text.
-/
namespace Go.Proofs.YtmplfiflikhpjaaGreatDoor.Pl
open Go.Proofs.YtmplfiflikhpjaaGreatDoor.Spec (B Piece txt)

/-- One step at a place. -/
def stepAt (s : B) (k : Nat) (ps : List Piece) : Nat × List Piece :=
  Spec.stepP (lastR (last16 ⟨(s.take k).toArray⟩)) (fun l => firstR ⟨l.toArray⟩) (s.drop k) ps
def parseF (s : B) : Nat → Nat → List Piece → List Piece
  | 0, _, ps => ps
  | f + 1, k, ps => if k < s.length then parseF s f (k + (stepAt s k ps).1) (stepAt s k ps).2 else ps
def parse (s : B) : List Spec.Node := Spec.nodes (parseF s s.length 0 [])

theorem numbered_fst (l : List Piece) : ∀ n, (Spec.numbered n l).map (·.1) = l := by
  induction l with
  | nil => intro n; rfl
  | cons p t ih =>
    intro n
    unfold Spec.numbered
    cases p.mark with
    | none => simp [ih]
    | some m => simp [ih]
theorem matches_nil : Spec.matches_ [] = [] := rfl
theorem nodes_unmarked (l : List Piece) (h : ∀ p ∈ l, p.mark = none) : Spec.nodes l = Spec.flat l := by
  unfold Spec.nodes
  have e : l.filterMap (·.mark) = [] := by
    rw [List.filterMap_eq_nil_iff]
    exact h
  rw [e, matches_nil, List.foldl_nil, numbered_fst]

/-- A piece of text. -/
def IsText (p : Piece) : Prop := p.mark = none ∧ p.node = txt p.node.text
def one (t : B) : List Spec.Node := if t = [] then [] else [txt t]
theorem addNode_one (t u : B) : Spec.addNode (one t) (txt u) = one (t ++ u) := by
  unfold one
  by_cases ht : t = []
  · subst ht
    by_cases hu : u = []
    · subst hu; rfl
    · simp [Spec.addNode, txt, Spec.Node.kind, Spec.Node.text, hu]
  · have : t ++ u ≠ [] := by simp [ht]
    rw [if_neg ht, if_neg this]
    simp [Spec.addNode, txt, Spec.Node.kind, Spec.Node.addText, Spec.Node.text]
def textsOf (l : List Piece) : B := l.flatMap (·.node.text)
theorem flat_texts_from (l : List Piece) (h : ∀ p ∈ l, IsText p) : ∀ t, l.foldl (fun out p => Spec.addNode out p.asNode) (one t) = one (t ++ textsOf l) := by
  induction l with
  | nil => intro t; simp [textsOf]
  | cons p r ih =>
    intro t
    have hp := h p (by simp)
    have e : p.asNode = txt p.node.text := by
      unfold Spec.Piece.asNode
      rw [hp.1]
      exact hp.2
    rw [List.foldl_cons, e, addNode_one, ih (fun q hq => h q (by simp [hq]))]
    simp [textsOf]
theorem flat_texts (l : List Piece) (h : ∀ p ∈ l, IsText p) : Spec.flat l = one (textsOf l) := by
  have := flat_texts_from l h []
  simpa [one, Spec.flat] using this
theorem nodes_texts (l : List Piece) (h : ∀ p ∈ l, IsText p) : Spec.nodes l = one (textsOf l) := by
  rw [nodes_unmarked l (fun p hp => (h p hp).1), flat_texts l h]

theorem isText_txt (t : B) (raw image noted dead : Bool) (n : Nat) : IsText ⟨txt t, raw, none, n, image, noted, dead⟩ := ⟨rfl, rfl⟩
/-- Text is laid behind text. -/
theorem addText_texts (ps : List Piece) (t : B) (raw : Bool) (h : ∀ p ∈ ps, IsText p) : (∀ p ∈ Spec.addText ps t raw, IsText p) ∧ textsOf (Spec.addText ps t raw) = textsOf ps ++ t := by
  unfold Spec.addText
  cases hl : ps.getLast? with
  | none =>
    rw [List.getLast?_eq_none_iff] at hl
    subst hl
    refine ⟨fun p hp => ?_, by simp [textsOf, txt, Spec.Node.text]⟩
    simp only [List.mem_singleton] at hp
    subst hp
    exact isText_txt _ _ _ _ _ _
  | some q =>
    obtain ⟨a, rfl⟩ := List.getLast?_eq_some_iff.1 hl
    have hq := h q (by simp)
    simp only
    split
    · rw [List.dropLast_concat]
      refine ⟨fun p hp => ?_, ?_⟩
      · rcases List.mem_append.1 hp with h1 | h1
        · exact h p (by simp [h1])
        · simp only [List.mem_singleton] at h1
          subst h1
          refine ⟨hq.1, ?_⟩
          show q.node.addText t = txt (q.node.addText t).text
          rw [hq.2]
          rfl
      · simp only [textsOf, List.flatMap_append, List.flatMap_cons, List.flatMap_nil, List.append_nil, List.append_assoc]
        congr 1
        cases q.node
        rfl
    · refine ⟨fun p hp => ?_, by simp [textsOf, txt, Spec.Node.text]⟩
      rcases List.mem_append.1 hp with h1 | h1
      · exact h p h1
      · simp only [List.mem_singleton] at h1
        subst h1
        exact isText_txt _ _ _ _ _ _

theorem parseF_done (s : B) (f k : Nat) (ps : List Piece) (h : s.length ≤ k) : parseF s f k ps = ps := by
  cases f with
  | zero => rfl
  | succ f => rw [parseF, if_neg (by omega)]
theorem parseF_step (s : B) (f k : Nat) (ps : List Piece) (h : k < s.length) : parseF s (f + 1) k ps = parseF s f (k + (stepAt s k ps).1) (stepAt s k ps).2 := by
  rw [parseF, if_pos h]
/-- What is kept by each step, and every step takes something: it holds of what comes out. -/
theorem parseF_keep (s : B) (P : Nat → List Piece → Prop) (hstep : ∀ k ps, k < s.length → P k ps → P (k + (stepAt s k ps).1) (stepAt s k ps).2 ∧ 0 < (stepAt s k ps).1 ∧ k + (stepAt s k ps).1 ≤ s.length) :
    ∀ f k ps, s.length ≤ k + f → k ≤ s.length → P k ps → P s.length (parseF s f k ps)
  | 0, k, ps, hf, hk, h => by
    obtain rfl : k = s.length := by omega
    exact h
  | f + 1, k, ps, hf, hk, h => by
    by_cases hp : k < s.length
    · rw [parseF_step s f k ps hp]
      obtain ⟨h1, h2, h3⟩ := hstep k ps hp h
      exact parseF_keep s P hstep f _ _ (by omega) h3 h1
    · obtain rfl : k = s.length := by omega
      rw [parseF_done s _ _ _ (Nat.le_refl _)]
      exact h
end Go.Proofs.YtmplfiflikhpjaaGreatDoor.Pl
/-
  PLAIN LEAN: texts without marks: one text; signs behind strokes; brackets that lead nowhere; broken lines.
-/
namespace Go.Proofs.YtmplfiflikhpjaaGreatDoor.Pl
open Go.Proofs.YtmplfiflikhpjaaGreatDoor.Spec (B Piece txt)

theorem takeWhile_all {α : Type} (p : α → Bool) (l : List α) (h : ∀ x ∈ l, p x = true) : l.takeWhile p = l := by
  induction l with
  | nil => rfl
  | cons a t ih => rw [List.takeWhile_cons, if_pos (h a (by simp)), ih (fun x hx => h x (by simp [hx]))]
theorem takeWhile_app {α : Type} (p : α → Bool) (l : List α) (x : α) (r : List α) (h : ∀ y ∈ l, p y = true) (hx : p x = false) : (l ++ x :: r).takeWhile p = l := by
  induction l with
  | nil => simp [hx]
  | cons a t ih => rw [List.cons_append, List.takeWhile_cons, if_pos (h a (by simp)), ih (fun y hy => h y (by simp [hy]))]
theorem dropWhile_app {α : Type} (p : α → Bool) (l r : List α) (h : ∀ y ∈ l, p y = true) (hr : ∀ x, r.head? = some x → p x = false) : (l ++ r).dropWhile p = r := by
  induction l with
  | nil =>
    cases r with
    | nil => rfl
    | cons x t => rw [List.nil_append, List.dropWhile_cons, if_neg (by rw [hr x rfl]; decide)]
  | cons a t ih => rw [List.cons_append, List.dropWhile_cons, if_pos (h a (by simp)), ih (fun y hy => h y (by simp [hy]))]
/-- What means nothing else. -/
def Dull (c : UInt8) : Prop := Spec.meant.contains c = false
theorem dull_ne (c : UInt8) (h : Dull c) : c ≠ 92 ∧ c ≠ 96 ∧ c ≠ 60 ∧ c ≠ 38 ∧ c ≠ 42 ∧ c ≠ 95 ∧ c ≠ 33 ∧ c ≠ 91 ∧ c ≠ 93 ∧ c ≠ 10 := by
  unfold Dull Spec.meant at h
  simp only [List.contains_eq_mem, decide_eq_false_iff_not, List.mem_cons, List.not_mem_nil, or_false, not_or] at h
  obtain ⟨h1, h2, h3, h4, h5, h6, h7, h8, h9, h10⟩ := h
  exact ⟨h1, h2, h3, h4, h5, h6, h7, h8, h9, h10⟩
theorem stepP_dull (b : Nat) (a : B → Nat) (c : UInt8) (t : B) (ps : List Piece) (h : Dull c) :
    Spec.stepP b a (c :: t) ps = (1 + (t.takeWhile fun d => !Spec.meant.contains d).length, Spec.addText ps ((c :: t).take (1 + (t.takeWhile fun d => !Spec.meant.contains d).length)) true) := by
  obtain ⟨h1, h2, h3, h4, h5, h6, h7, h8, h9, h10⟩ := dull_ne c h
  unfold Spec.stepP
  simp only [h1, h2, h3, h4, h5, h6, h7, h8, h9, h10, if_false, or_self]

/-! ### letters, digits, blanks -/
theorem parse_plain (s : B) (h0 : s ≠ []) (h : ∀ c ∈ s, Dull c) : parse s = [txt s] := by
  obtain ⟨c, t, rfl⟩ : ∃ c t, s = c :: t := by
    cases s with
    | nil => exact absurd rfl h0
    | cons c t => exact ⟨c, t, rfl⟩
  have htw : (t.takeWhile fun d => !Spec.meant.contains d) = t := takeWhile_all _ _ (fun d hd => by have := h d (by simp [hd]); unfold Dull at this; rw [this]; rfl)
  have hst : stepAt (c :: t) 0 [] = (1 + t.length, Spec.addText [] (c :: t) true) := by
    unfold stepAt
    rw [List.drop_zero, stepP_dull _ _ _ _ _ (h c (by simp)), htw, List.take_of_length_le (by simp; omega)]
  unfold parse
  rw [show (c :: t).length = t.length + 1 from rfl, parseF_step _ _ _ _ (by simp), hst, parseF_done _ _ _ _ (by simp; omega)]
  rw [nodes_texts _ (fun p hp => ((addText_texts [] (c :: t) true (fun p hp => absurd hp (by simp))).1) p hp)]
  rw [(addText_texts [] (c :: t) true (fun p hp => absurd hp (by simp))).2]
  simp [textsOf, one]

/-! ### signs behind strokes -/
def escaped (s : B) : B := s.flatMap fun c => [92, c]
theorem escaped_len (s : B) : (escaped s).length = 2 * s.length := by
  induction s with
  | nil => rfl
  | cons c t ih =>
    have : escaped (c :: t) = 92 :: c :: escaped t := rfl
    rw [this, List.length_cons, List.length_cons, ih, List.length_cons]
    omega
theorem escaped_drop (s : B) : ∀ j, (escaped s).drop (2 * j) = escaped (s.drop j) := by
  induction s with
  | nil => intro j; simp [escaped]
  | cons c t ih =>
    intro j
    cases j with
    | zero => rfl
    | succ j =>
      have : escaped (c :: t) = 92 :: c :: escaped t := rfl
      rw [this, show 2 * (j + 1) = 2 * j + 1 + 1 by omega, List.drop_succ_cons, List.drop_succ_cons, ih j, List.drop_succ_cons]
theorem sign_ne10 (c : UInt8) (h : Spec.sign c = true) : c ≠ 10 := by
  rintro rfl
  revert h
  decide
theorem parse_escaped (s : B) (h0 : s ≠ []) (h : ∀ c ∈ s, Spec.sign c = true) : parse (escaped s) = [txt s] := by
  have key := parseF_keep (escaped s) (fun k ps => ∃ j, j ≤ s.length ∧ k = 2 * j ∧ (∀ p ∈ ps, IsText p) ∧ textsOf ps = s.take j) (by
    rintro k ps hk ⟨j, hj, rfl, hT, hx⟩
    rw [escaped_len] at hk
    have hjs : j < s.length := by omega
    have hd : (escaped s).drop (2 * j) = 92 :: s[j] :: escaped (s.drop (j + 1)) := by
      rw [escaped_drop, List.drop_eq_getElem_cons hjs]
      rfl
    have hs := h s[j] (List.getElem_mem _)
    have hst : stepAt (escaped s) (2 * j) ps = (2, Spec.addText ps [s[j]] false) := by
      unfold stepAt
      rw [hd]
      unfold Spec.stepP
      simp [Spec.pair, hs, sign_ne10 _ hs]
    rw [hst]
    have ha := addText_texts ps [s[j]] false hT
    refine ⟨⟨j + 1, by omega, by simp; omega, ha.1, ?_⟩, by simp, by rw [escaped_len]; simp; omega⟩
    rw [ha.2, hx, List.take_add_one, List.getElem?_eq_getElem hjs]
    rfl) (escaped s).length 0 [] (by omega) (by omega) ⟨0, by omega, rfl, fun p hp => absurd hp (by simp), rfl⟩
  obtain ⟨j, hj, hk, hT, hx⟩ := key
  rw [escaped_len] at hk
  obtain rfl : j = s.length := by omega
  unfold parse
  rw [nodes_texts _ hT, hx, List.take_length]
  unfold one
  rw [if_neg h0]

/-! ### brackets that lead nowhere -/
theorem textsOf_modify (ps : List Piece) (i : Nat) (f : Piece → Piece) (hf : ∀ p, (f p).node = p.node ∧ (f p).mark = p.mark) (h : ∀ p ∈ ps, IsText p) : (∀ p ∈ ps.modify i f, IsText p) ∧ textsOf (ps.modify i f) = textsOf ps := by
  induction ps generalizing i with
  | nil => simp
  | cons p t ih =>
    have hp := h p (by simp)
    cases i with
    | zero =>
      refine ⟨fun q hq => ?_, ?_⟩
      · rcases List.mem_cons.1 (by simpa using hq) with rfl | h1
        · unfold IsText; rw [(hf p).1, (hf p).2]; exact hp
        · exact h q (by simp [h1])
      · simp [textsOf, (hf p).1]
    | succ i =>
      have := ih i (fun q hq => h q (by simp [hq]))
      refine ⟨fun q hq => ?_, ?_⟩
      · rcases List.mem_cons.1 (by simpa using hq) with rfl | h1
        · exact hp
        · exact this.1 q h1
      · have e := this.2
        unfold textsOf at e ⊢
        rw [List.modify_succ_cons, List.flatMap_cons, List.flatMap_cons, e]
theorem dest_none (t : B) (h : t.head? ≠ some 40) : Spec.dest t = ([], [], 0) := by
  cases t with
  | nil => rfl
  | cons c u =>
    unfold Spec.dest
    simp only
    rw [if_pos (by simpa using h)]
theorem bracket_none (t : B) (h : t.head? ≠ some 40) (ps : List Piece) (hT : ∀ p ∈ ps, IsText p) : (Spec.bracket t ps).1 = 1 ∧ (∀ p ∈ (Spec.bracket t ps).2, IsText p) ∧ textsOf (Spec.bracket t ps).2 = textsOf ps ++ [93] := by
  unfold Spec.bracket
  cases hl : Spec.lastNoted ps with
  | none => exact ⟨rfl, (addText_texts ps [93] true hT).1, (addText_texts ps [93] true hT).2⟩
  | some i =>
    simp only
    cases hb : ps[i]? with
    | none =>
      exfalso
      unfold Spec.lastNoted at hl
      have := List.find?_some hl
      rw [hb] at this
      simp at this
    | some b =>
      simp only
      rw [dest_none t h, if_pos (Or.inr rfl)]
      have hm := textsOf_modify ps i (fun p => { p with noted := false, raw := false }) (fun p => ⟨rfl, rfl⟩) hT
      have ha := addText_texts _ [93] true hm.1
      exact ⟨rfl, ha.1, by rw [ha.2, hm.2]⟩
def brk (c : UInt8) : Prop := c = 91 ∨ c = 93 ∨ c = 33 ∨ c = 97 ∨ c = 40 ∨ c = 41
theorem parse_brackets (s : B) (h0 : s ≠ []) (h : ∀ c ∈ s, brk c) (hn : ∀ i : Nat, s[i]? = some (93 : UInt8) → s[i + 1]? ≠ some (40 : UInt8)) : parse s = [txt s] := by
  have key := parseF_keep s (fun k ps => (∀ p ∈ ps, IsText p) ∧ textsOf ps = s.take k) (by
    rintro k ps hk ⟨hT, hx⟩
    have hd : s.drop k = s[k] :: s.drop (k + 1) := List.drop_eq_getElem_cons hk
    have hc := h s[k] (List.getElem_mem _)
    have ht1 : s.take (k + 1) = s.take k ++ [s[k]] := by rw [List.take_add_one, List.getElem?_eq_getElem hk]; rfl
    have hap : ∀ (p : Piece), IsText p → (∀ q ∈ ps ++ [p], IsText q) ∧ textsOf (ps ++ [p]) = textsOf ps ++ p.node.text := fun p hp => ⟨fun q hq => by
      rcases List.mem_append.1 hq with h1 | h1
      · exact hT q h1
      · simp only [List.mem_singleton] at h1; subst h1; exact hp, by simp [textsOf]⟩
    unfold stepAt
    rw [hd]
    rcases hc with e | e | e | e | e | e
    · rw [e]
      have hst : ∀ b a, Spec.stepP b a (91 :: s.drop (k + 1)) ps = (1, ps ++ [⟨txt [91], false, none, 0, false, true, false⟩]) := fun b a => by
        unfold Spec.stepP
        simp
      rw [hst]
      have := hap ⟨txt [91], false, none, 0, false, true, false⟩ ⟨rfl, rfl⟩
      exact ⟨⟨this.1, by rw [this.2, hx, ht1, e]; rfl⟩, by simp, by simp; omega⟩
    · rw [e]
      have hh : (s.drop (k + 1)).head? ≠ some 40 := by
        rw [List.head?_drop]
        exact hn k (by rw [List.getElem?_eq_getElem hk, e])
      have hst : ∀ b a, Spec.stepP b a (93 :: s.drop (k + 1)) ps = Spec.bracket (s.drop (k + 1)) ps := fun b a => by
        unfold Spec.stepP
        simp
      rw [hst]
      obtain ⟨b1, b2, b3⟩ := bracket_none _ hh ps hT
      rw [b1]
      exact ⟨⟨b2, by rw [b3, hx, ht1, e]⟩, by omega, by omega⟩
    · rw [e]
      by_cases hh : (s.drop (k + 1)).head? = some 91
      · have hst : ∀ b a, Spec.stepP b a (33 :: s.drop (k + 1)) ps = (2, ps ++ [⟨txt [33, 91], false, none, 0, true, true, false⟩]) := fun b a => by
          unfold Spec.stepP
          simp [hh]
        rw [hst]
        rw [List.head?_drop] at hh
        have hk1 : k + 1 < s.length := (List.getElem?_eq_some_iff.1 hh).1
        have := hap ⟨txt [33, 91], false, none, 0, true, true, false⟩ ⟨rfl, rfl⟩
        refine ⟨⟨this.1, ?_⟩, by simp, by simp; omega⟩
        rw [this.2, hx, show k + (2, ps ++ [(⟨txt [33, 91], false, none, 0, true, true, false⟩ : Piece)]).1 = k + 1 + 1 from rfl, List.take_add_one, hh, ht1, e]
        simp [txt, Spec.Node.text]
      · have hst : ∀ b a, Spec.stepP b a (33 :: s.drop (k + 1)) ps = (1, Spec.addText ps [33] true) := fun b a => by
          unfold Spec.stepP
          have hh2 := hh
          rw [List.head?_drop] at hh2
          simp [hh2]
        rw [hst]
        have ha := addText_texts ps [33] true hT
        exact ⟨⟨ha.1, by rw [ha.2, hx, ht1, e]⟩, by simp, by simp; omega⟩
    all_goals
      rw [stepP_dull _ _ _ _ _ (by rw [e]; unfold Dull; decide)]
      rw [← hd]
      have hle : ((s.drop (k + 1)).takeWhile fun d => !Spec.meant.contains d).length ≤ (s.drop (k + 1)).length := (List.takeWhile_sublist _).length_le
      rw [List.length_drop] at hle
      have ha := addText_texts ps ((s.drop k).take (1 + ((s.drop (k + 1)).takeWhile fun d => !Spec.meant.contains d).length)) true hT
      refine ⟨⟨ha.1, ?_⟩, by show 0 < 1 + _; omega, by show k + (1 + _) ≤ _; omega⟩
      rw [ha.2, hx]
      show _ = s.take (k + (1 + _))
      exact (List.take_add ..).symm) s.length 0 [] (by omega) (by omega) ⟨fun p hp => absurd hp (by simp), rfl⟩
  unfold parse
  rw [nodes_texts _ key.1, key.2, List.take_length]
  unfold one
  rw [if_neg h0]
end Go.Proofs.YtmplfiflikhpjaaGreatDoor.Pl
/-
  PLAIN LEAN: broken lines.
-/
namespace Go.Proofs.YtmplfiflikhpjaaGreatDoor.Pl
open Go.Proofs.YtmplfiflikhpjaaGreatDoor.Spec (B Piece txt)

def blanksL (n : Nat) : B := List.replicate n 32
/-- A letter or a digit. -/
def Wordy (c : UInt8) : Prop := Spec.letter c = true
theorem wordy_dull (c : UInt8) (h : Wordy c) : Dull c := by
  unfold Dull
  cases hc : Spec.meant.contains c with
  | false => rfl
  | true =>
    exfalso
    unfold Spec.meant at hc
    simp only [List.contains_eq_mem, decide_eq_true_eq, List.mem_cons, List.not_mem_nil, or_false] at hc
    unfold Wordy at h
    rcases hc with rfl | rfl | rfl | rfl | rfl | rfl | rfl | rfl | rfl | rfl <;> revert h <;> decide
theorem wordy_ne (c d : UInt8) (h : Wordy c) (hd : Spec.letter d = false) : c ≠ d := by
  rintro rfl
  unfold Wordy at h
  rw [hd] at h
  cases h
theorem dull32 : Dull 32 := by unfold Dull; decide
theorem stepP_dulls (b : Nat) (a : B → Nat) (x : B) (h0 : x ≠ []) (hx : ∀ c ∈ x, Dull c) (r : B) (hr : ∀ c, r.head? = some c → ¬ Dull c) (ps : List Piece) :
    Spec.stepP b a (x ++ r) ps = (x.length, Spec.addText ps x true) := by
  obtain ⟨c, t, rfl⟩ : ∃ c t, x = c :: t := by
    cases x with
    | nil => exact absurd rfl h0
    | cons c t => exact ⟨c, t, rfl⟩
  have htw : ((t ++ r).takeWhile fun d => !Spec.meant.contains d) = t := by
    cases r with
    | nil => rw [List.append_nil]; exact takeWhile_all _ _ (fun d hd => by have := hx d (by simp [hd]); unfold Dull at this; rw [this]; rfl)
    | cons d u =>
      refine takeWhile_app _ _ _ _ (fun d hd => by have := hx d (by simp [hd]); unfold Dull at this; rw [this]; rfl) ?_
      have := hr d rfl
      unfold Dull at this
      cases h : Spec.meant.contains d with
      | true => rfl
      | false => exact absurd h this
  rw [List.cons_append, stepP_dull _ _ _ _ _ (hx c (by simp)), htw, ← List.cons_append]
  rw [show 1 + t.length = (c :: t).length by simp; omega, List.take_left']
  rfl
theorem trimRight_blanks (a : B) (n : Nat) (_h0 : a ≠ []) (ha : ∀ c ∈ a, Wordy c) : Lib.trimRightS (a ++ blanksL n) [32] = a := by
  unfold Lib.trimRightS
  have : (a ++ blanksL n).reverse.dropWhile ([32].contains ·) = a.reverse := by
    rw [List.reverse_append]
    refine dropWhile_app _ _ _ (fun y hy => ?_) (fun x hx => ?_)
    · rw [List.mem_reverse] at hy
      unfold blanksL at hy
      rw [List.eq_of_mem_replicate hy]
      rfl
    · have hm : x ∈ a := by
        rw [List.head?_reverse] at hx
        exact List.mem_of_getLast? hx
      have := wordy_ne x 32 (ha x hm) (by decide)
      simpa using this
  rw [this, List.reverse_reverse]
theorem skipB_blanks (n : Nat) (b : B) (hb : ∀ c, b.head? = some c → Wordy c) : Spec.skipB (blanksL n ++ b) = b := by
  unfold Spec.skipB
  refine dropWhile_app _ _ _ (fun y hy => ?_) (fun x hx => ?_)
  · unfold blanksL at hy
    rw [List.eq_of_mem_replicate hy]
    rfl
  · have h := hb x hx
    have h1 := wordy_ne x 32 h (by decide)
    have h2 := wordy_ne x 9 h (by decide)
    unfold Spec.blank2
    simp [h1, h2]
theorem flat_three (x y : B) (hx : x ≠ []) (hy : y ≠ []) (k : Nat) (hk : k ≠ 10) (p q r : Piece) (hp : p.mark = none ∧ p.node = txt x) (hq : q.mark = none ∧ q.node = .mk k [] [] [] []) (hr : r.mark = none ∧ r.node = txt y) :
    Spec.nodes [p, q, r] = [txt x, .mk k [] [] [] [], txt y] := by
  rw [nodes_unmarked _ (fun z hz => by
    simp only [List.mem_cons, List.not_mem_nil, or_false] at hz
    rcases hz with rfl | rfl | rfl
    · exact hp.1
    · exact hq.1
    · exact hr.1)]
  have e : ∀ z : Piece, z.mark = none → z.asNode = z.node := fun z hz => by unfold Spec.Piece.asNode; rw [hz]
  unfold Spec.flat
  simp only [List.foldl_cons, List.foldl_nil, e p hp.1, e q hq.1, e r hr.1, hp.2, hq.2, hr.2]
  simp [Spec.addNode, txt, Spec.Node.kind, Spec.Node.text, hx, hy, hk]
/-- A text, a line's end, a text. -/
theorem parse_breaks (a b : B) (n m : Nat) (ha0 : a ≠ []) (hb0 : b ≠ []) (ha : ∀ c ∈ a, Wordy c) (hb : ∀ c ∈ b, Wordy c) :
    parse ((a ++ blanksL n) ++ (10 :: (blanksL m ++ b))) = [txt a, .mk (if 2 ≤ n then 12 else 11) [] [] [] [], txt b] ∧
    parse ((a ++ blanksL n) ++ (92 :: 10 :: (blanksL m ++ b))) = [txt (a ++ blanksL n), .mk 12 [] [] [] [], txt b] := by
  have hx0 : a ++ blanksL n ≠ [] := by simp [ha0]
  have hx : ∀ c ∈ a ++ blanksL n, Dull c := fun c hc => by
    rcases List.mem_append.1 hc with h | h
    · exact wordy_dull c (ha c h)
    · unfold blanksL at h; rw [List.eq_of_mem_replicate h]; exact dull32
  have hbh : ∀ c, b.head? = some c → Wordy c := fun c hc => hb c (List.mem_of_head? hc)
  have hbd : ∀ c ∈ b, Dull c := fun c hc => wordy_dull c (hb c hc)
  have hbl : 0 < b.length := List.length_pos_iff.2 hb0
  have hskip := skipB_blanks m b hbh
  have hml : (blanksL m ++ b).length = m + b.length := by simp [blanksL]
  have last : ∀ (s : B) (f k : Nat) (ps : List Piece) (p : Piece), s.drop k = b → k + b.length = s.length → ps.getLast? = some p → p.raw = false → parseF s (f + 1) k ps = ps ++ [⟨txt b, true, none, 0, false, false, false⟩] := by
    intro s f k ps p hd hk hl hp
    have hst : stepAt s k ps = (b.length, Spec.addText ps b true) := by
      unfold stepAt
      rw [hd]
      have := stepP_dulls (lastR (last16 ⟨(s.take k).toArray⟩)) (fun l => firstR ⟨l.toArray⟩) b hb0 hbd [] (by simp) ps
      rwa [List.append_nil] at this
    rw [parseF_step _ _ _ _ (by omega), hst, parseF_done _ _ _ _ (by simp; omega)]
    unfold Spec.addText
    rw [hl]
    simp [hp]
  constructor
  · have hst : stepAt ((a ++ blanksL n) ++ (10 :: (blanksL m ++ b))) 0 [] = ((a ++ blanksL n).length, Spec.addText [] (a ++ blanksL n) true) := by
      unfold stepAt
      rw [List.drop_zero]
      exact stepP_dulls _ _ _ hx0 hx _ (by rintro c hc; obtain rfl : 10 = c := (by simpa using hc); unfold Dull; decide) _
    have hadd : Spec.addText [] (a ++ blanksL n) true = [⟨txt (a ++ blanksL n), true, none, 0, false, false, false⟩] := rfl
    have hst2 : stepAt ((a ++ blanksL n) ++ (10 :: (blanksL m ++ b))) (a ++ blanksL n).length [⟨txt (a ++ blanksL n), true, none, 0, false, false, false⟩] = (1 + m, [⟨txt a, true, none, 0, false, false, false⟩, Spec.plainP (.mk (if 2 ≤ n then 12 else 11) [] [] [] [])]) := by
      unfold stepAt
      rw [List.drop_left']
      · unfold Spec.stepP
        simp only [show ¬ ((10 : UInt8) = 92) by decide, show ¬ ((10 : UInt8) = 96) by decide, show ¬ ((10 : UInt8) = 60) by decide, show ¬ ((10 : UInt8) = 38) by decide, show ¬ ((10 : UInt8) = 42 ∨ (10 : UInt8) = 95) by decide, show ¬ ((10 : UInt8) = 33) by decide, show ¬ ((10 : UInt8) = 91) by decide, show ¬ ((10 : UInt8) = 93) by decide, if_false, if_true]
        unfold Spec.newline
        simp only [List.getLast?_singleton, if_true]
        rw [hskip, hml]
        have ht : (txt (a ++ blanksL n)).text = a ++ blanksL n := rfl
        rw [ht, trimRight_blanks a n ha0 ha]
        have hl : (a ++ blanksL n).length - a.length = n := by simp [blanksL]
        rw [hl]
        refine Prod.ext ?_ ?_
        · show 1 + (m + b.length) - b.length = 1 + m
          omega
        · rfl
      · rfl
    unfold parse
    obtain ⟨f, hf⟩ : ∃ f, ((a ++ blanksL n) ++ (10 :: (blanksL m ++ b))).length = f + 3 := ⟨((a ++ blanksL n) ++ (10 :: (blanksL m ++ b))).length - 3, by
      have := List.length_pos_iff.2 hx0
      rw [List.length_append, List.length_cons, hml]; omega⟩
    rw [hf, parseF_step _ _ _ _ (by rw [hf]; omega), hst, hadd, Nat.zero_add, parseF_step _ _ _ _ (by simp), hst2]
    rw [last _ f _ _ (Spec.plainP (.mk (if 2 ≤ n then 12 else 11) [] [] [] [])) ?_ ?_ rfl rfl]
    · exact flat_three a b ha0 hb0 _ (by split <;> decide) _ _ _ ⟨rfl, rfl⟩ ⟨rfl, rfl⟩ ⟨rfl, rfl⟩
    · rw [← List.drop_drop, List.drop_left' rfl]
      show (10 :: (blanksL m ++ b)).drop (1 + m) = b
      rw [show 1 + m = m + 1 by omega, List.drop_succ_cons]
      exact List.drop_left' (by simp [blanksL])
    · rw [List.length_append (as := a ++ blanksL n), List.length_cons, hml]
      show _ + (1 + m) + _ = _
      omega
  · have hst : stepAt ((a ++ blanksL n) ++ (92 :: 10 :: (blanksL m ++ b))) 0 [] = ((a ++ blanksL n).length, Spec.addText [] (a ++ blanksL n) true) := by
      unfold stepAt
      rw [List.drop_zero]
      exact stepP_dulls _ _ _ hx0 hx _ (by rintro c hc; obtain rfl : 92 = c := (by simpa using hc); unfold Dull; decide) _
    have hadd : Spec.addText [] (a ++ blanksL n) true = [⟨txt (a ++ blanksL n), true, none, 0, false, false, false⟩] := rfl
    have hst2 : stepAt ((a ++ blanksL n) ++ (92 :: 10 :: (blanksL m ++ b))) (a ++ blanksL n).length [⟨txt (a ++ blanksL n), true, none, 0, false, false, false⟩] = (2 + m, [⟨txt (a ++ blanksL n), true, none, 0, false, false, false⟩, Spec.plainP (.mk 12 [] [] [] [])]) := by
      unfold stepAt
      rw [List.drop_left']
      · unfold Spec.stepP
        simp only [List.head?_cons, List.drop_succ_cons, List.drop_zero, if_true]
        rw [hskip, hml]
        refine Prod.ext ?_ ?_
        · show 2 + (m + b.length) - b.length = 2 + m
          omega
        · rfl
      · rfl
    unfold parse
    obtain ⟨f, hf⟩ : ∃ f, ((a ++ blanksL n) ++ (92 :: 10 :: (blanksL m ++ b))).length = f + 3 := ⟨((a ++ blanksL n) ++ (92 :: 10 :: (blanksL m ++ b))).length - 3, by
      have := List.length_pos_iff.2 hx0
      rw [List.length_append, List.length_cons, List.length_cons, hml]; omega⟩
    rw [hf, parseF_step _ _ _ _ (by rw [hf]; omega), hst, hadd, Nat.zero_add, parseF_step _ _ _ _ (by simp), hst2]
    rw [last _ f _ _ (Spec.plainP (.mk 12 [] [] [] [])) ?_ ?_ rfl rfl]
    · exact flat_three _ b hx0 hb0 _ (by decide) _ _ _ ⟨rfl, rfl⟩ ⟨rfl, rfl⟩ ⟨rfl, rfl⟩
    · rw [← List.drop_drop, List.drop_left' rfl]
      show (92 :: 10 :: (blanksL m ++ b)).drop (2 + m) = b
      rw [show 2 + m = m + 1 + 1 by omega, List.drop_succ_cons, List.drop_succ_cons]
      exact List.drop_left' (by simp [blanksL])
    · rw [List.length_append (as := a ++ blanksL n), List.length_cons, List.length_cons, hml]
      show _ + (2 + m) + _ = _
      omega
end Go.Proofs.YtmplfiflikhpjaaGreatDoor.Pl
/-
  PLAIN LEAN: code between marks; where a link leads.
-/
namespace Go.Proofs.YtmplfiflikhpjaaGreatDoor.Pl
open Go.Proofs.YtmplfiflikhpjaaGreatDoor.Spec (B)

def marksL (n : Nat) : B := List.replicate n 96
theorem ticks_marks (n : Nat) (r : B) (h : r.head? ≠ some 96) : Spec.ticks (marksL n ++ r) = n := by
  unfold Spec.ticks Spec.run
  induction n with
  | zero =>
    cases r with
    | nil => rfl
    | cons c t =>
      have : (c == 96) = false := by simpa using h
      simp [marksL, this]
  | succ n ih =>
    have : marksL (n + 1) ++ r = 96 :: (marksL n ++ r) := rfl
    rw [this, List.takeWhile_cons, if_pos (by rfl), List.length_cons, ih]
theorem ticks_none (c : UInt8) (t : B) (h : c ≠ 96) : Spec.ticks (c :: t) = 0 := by
  unfold Spec.ticks Spec.run
  rw [List.takeWhile_cons, if_neg (by simpa using h)]
  rfl
theorem codeAt_succ (n : Nat) (l : B) (f i : Nat) : Spec.codeAt n l (f + 1) i = (if i < l.length then (if Spec.ticks (l.drop i) = n then some i else Spec.codeAt n l f (i + max 1 (Spec.ticks (l.drop i)))) else none) := rfl
/-- Behind bytes that are no marks. -/
theorem codeAt_skip (n : Nat) (hn : 0 < n) (p s r : B) (hs : ∀ c ∈ s, c ≠ 96) : ∀ (f : Nat), s.length ≤ f → Spec.codeAt n (p ++ s ++ r) f p.length = Spec.codeAt n (p ++ s ++ r) (f - s.length) (p.length + s.length) := by
  induction s generalizing p with
  | nil => intro f _; rfl
  | cons c t ih =>
    intro f hf
    obtain ⟨g, rfl⟩ : ∃ g, f = g + 1 := ⟨f - 1, by simp at hf; omega⟩
    have hd : (p ++ (c :: t) ++ r).drop p.length = c :: (t ++ r) := by
      rw [List.append_assoc, List.drop_left' rfl]
      rfl
    have e : p ++ (c :: t) ++ r = (p ++ [c]) ++ t ++ r := by simp
    have := ih (p ++ [c]) (fun x hx => hs x (by simp [hx])) g (by simp at hf; omega)
    rw [← e] at this
    rw [codeAt_succ, if_pos (by simp), hd, ticks_none _ _ (hs c (by simp)), if_neg (by omega)]
    rw [show p.length + max 1 0 = (p ++ [c]).length by simp, this]
    rw [show g + 1 - (c :: t).length = g - t.length by simp, show (p ++ [c]).length + t.length = p.length + (c :: t).length by simp; omega]
theorem map_same (s : B) (h : ∀ c ∈ s, c ≠ 10) : s.map (fun c => if c = 10 then 32 else c) = s := by
  induction s with
  | nil => rfl
  | cons c t ih => rw [List.map_cons, if_neg (h c (by simp)), ih (fun x hx => h x (by simp [hx]))]
def wanted (s : B) : B := if 1 < s.length ∧ s.head? = some 32 ∧ s.getLast? = some 32 ∧ s.all (· == 32) = false then (s.drop 1).dropLast else s
theorem codeText_same (s : B) (h : ∀ c ∈ s, c ≠ 10) : Spec.codeText s = wanted s := by
  unfold Spec.codeText wanted
  simp only [map_same s h]
theorem head_code (_n : Nat) (s r : B) (h0 : s ≠ []) (hs : ∀ c ∈ s, c ≠ 96) : (s ++ r).head? ≠ some 96 := by
  cases s with
  | nil => exact absurd rfl h0
  | cons c t => simpa using hs c (by simp)
theorem code_found (n : Nat) (hn : 0 < n) (s r : B) (h0 : s ≠ []) (hs : ∀ c ∈ s, c ≠ 96) (h10 : ∀ c ∈ s, c ≠ 10) (hr : r.head? ≠ some 96) :
    Spec.code (marksL n ++ s ++ (marksL n ++ r)) = (wanted s, s.length + 2 * n) := by
  have ht : Spec.ticks (marksL n ++ s ++ (marksL n ++ r)) = n := by rw [List.append_assoc]; exact ticks_marks n _ (head_code n s _ h0 hs)
  have hml : (marksL n).length = n := by simp [marksL]
  have hsk := codeAt_skip n hn (marksL n) s (marksL n ++ r) hs ((marksL n ++ s ++ (marksL n ++ r)).length + 1) (by simp; omega)
  rw [hml] at hsk
  have hfound : Spec.codeAt n (marksL n ++ s ++ (marksL n ++ r)) ((marksL n ++ s ++ (marksL n ++ r)).length + 1 - s.length) (n + s.length) = some (n + s.length) := by
    obtain ⟨g, hg⟩ : ∃ g, (marksL n ++ s ++ (marksL n ++ r)).length + 1 - s.length = g + 1 := ⟨(marksL n ++ s ++ (marksL n ++ r)).length - s.length, by simp; omega⟩
    rw [hg, codeAt_succ, if_pos (by simp [hml]; omega), List.drop_left' (by simp [hml]), if_pos (ticks_marks n r hr)]
  unfold Spec.code
  rw [ht, if_neg (by omega), hsk, hfound]
  simp only
  rw [List.take_left' (by simp [hml]), List.drop_left' hml, codeText_same s h10]
  refine Prod.ext rfl ?_
  show n + s.length + n = s.length + 2 * n
  omega
theorem code_lost (n : Nat) (hn : 0 < n) (s : B) (h0 : s ≠ []) (hs : ∀ c ∈ s, c ≠ 96) : (Spec.code (marksL n ++ s ++ marksL (n + 1))).2 = 0 := by
  have ht : Spec.ticks (marksL n ++ s ++ marksL (n + 1)) = n := by rw [List.append_assoc]; exact ticks_marks n _ (head_code n s _ h0 hs)
  have hml : (marksL n).length = n := by simp [marksL]
  have hsk := codeAt_skip n hn (marksL n) s (marksL (n + 1)) hs ((marksL n ++ s ++ marksL (n + 1)).length + 1) (by simp; omega)
  rw [hml] at hsk
  have hl : (marksL n ++ s ++ marksL (n + 1)).length = n + s.length + (n + 1) := by simp [marksL]; omega
  have hno : Spec.codeAt n (marksL n ++ s ++ marksL (n + 1)) ((marksL n ++ s ++ marksL (n + 1)).length + 1 - s.length) (n + s.length) = none := by
    obtain ⟨g, hg⟩ : ∃ g, (marksL n ++ s ++ marksL (n + 1)).length + 1 - s.length = g + 1 + 1 := ⟨(marksL n ++ s ++ marksL (n + 1)).length + 1 - s.length - 2, by rw [hl]; omega⟩
    have ht2 : Spec.ticks ((marksL n ++ s ++ marksL (n + 1)).drop (n + s.length)) = n + 1 := by
      rw [List.drop_left' (by simp [hml])]
      have := ticks_marks (n + 1) [] (by simp)
      rwa [List.append_nil] at this
    rw [hg, codeAt_succ, if_pos (by rw [hl]; omega), ht2, if_neg (by omega), codeAt_succ, if_neg (by rw [hl]; omega)]
  unfold Spec.code
  rw [ht, if_neg (by omega), hsk, hno]

/-! ### where a link leads -/
def urlC (c : UInt8) : Prop := (97 ≤ c.toNat ∧ c.toNat ≤ 122) ∨ (48 ≤ c.toNat ∧ c.toNat ≤ 57) ∨ c = 47 ∨ c = 58 ∨ c = 46
theorem urlC_ok (c : UInt8) (h : urlC c) : (Spec.letter c = true ∨ Spec.plains.contains c = true) ∧ 32 < c.toNat ∧ c ≠ 92 ∧ c ≠ 38 ∧ c ≠ 40 ∧ c ≠ 41 ∧ c ≠ 60 ∧ c ≠ 62 ∧ c ≠ 10 := by
  have ne : ∀ d : UInt8, ¬ urlC d → c ≠ d := fun d hd e => hd (e ▸ h)
  refine ⟨?_, ?_, ne 92 (by unfold urlC; decide), ne 38 (by unfold urlC; decide), ne 40 (by unfold urlC; decide), ne 41 (by unfold urlC; decide), ne 60 (by unfold urlC; decide), ne 62 (by unfold urlC; decide), ne 10 (by unfold urlC; decide)⟩
  · rcases h with ⟨h1, h2⟩ | ⟨h1, h2⟩ | rfl | rfl | rfl
    · left; simp [Spec.letter, h1, h2]
    · left; simp [Spec.letter, h1, h2]
    · right; decide
    · right; decide
    · right; decide
  · rcases h with ⟨h1, h2⟩ | ⟨h1, h2⟩ | rfl | rfl | rfl
    · omega
    · omega
    · decide
    · decide
    · decide
theorem uri_same (u : B) (h : ∀ c ∈ u, urlC c) : Spec.uri u = u := by
  induction u with
  | nil => rfl
  | cons c t ih =>
    unfold Spec.uri
    rw [ih (fun x hx => h x (by simp [hx])), if_pos]
    · rfl
    · rcases (urlC_ok c (h c (by simp))).1 with h1 | h1
      · exact .inl h1
      · exact .inr (.inl h1)
theorem unescF_same (u : B) (h : ∀ c ∈ u, c ≠ 92 ∧ c ≠ 38) : ∀ f, u.length ≤ f → Spec.unescF f u = u := by
  induction u with
  | nil => intro f _; cases f <;> rfl
  | cons c t ih =>
    intro f hf
    obtain ⟨g, rfl⟩ : ∃ g, f = g + 1 := ⟨f - 1, by simp at hf; omega⟩
    have hc := h c (by simp)
    have hs : Spec.step (c :: t) = ([c], 1) := by
      unfold Spec.step
      simp only
      have he : Spec.ent (c :: t) = ([], 0) := by
        unfold Spec.ent
        simp only
        rw [if_neg (fun e => hc.2 e.1)]
      rw [if_neg (fun e => hc.1 e.1), he, if_neg (by simp)]
    unfold Spec.unescF
    rw [if_neg (by simp), hs]
    simp only [List.drop_succ_cons, List.drop_zero]
    rw [ih (fun x hx => h x (by simp [hx])) g (by simp at hf; omega)]
    rfl
theorem unesc_same (u : B) (h : ∀ c ∈ u, c ≠ 92 ∧ c ≠ 38) : Spec.unesc u = u := unescF_same u h u.length (Nat.le_refl _)
theorem until_found (e : UInt8) (no u r : B) (he : e ≠ 92) (h : ∀ c ∈ u, c ≠ 92 ∧ c ≠ e ∧ no.contains c = false) : Spec.until_ e no (u ++ e :: r) = some u.length := by
  induction u with
  | nil =>
    cases r with
    | nil => simp [Spec.until_]
    | cons d t =>
      show Spec.until_ e no (e :: d :: t) = _
      unfold Spec.until_
      rw [if_neg (fun h => he h.1), if_pos rfl]
      rfl
  | cons c t ih =>
    obtain ⟨h1, h2, h3⟩ := h c (by simp)
    have ih := ih (fun x hx => h x (by simp [hx]))
    have step : ∀ d v, Spec.until_ e no (c :: d :: v) = (Spec.until_ e no (d :: v)).map (· + 1) := fun d v => by
      rw [Spec.until_]
      rw [if_neg (fun h => h1 h.1), if_neg h2, if_neg (by rw [h3]; decide)]
    cases t with
    | nil =>
      show Spec.until_ e no (c :: e :: r) = _
      rw [step]
      simp only [List.nil_append] at ih
      rw [ih]
      rfl
    | cons d v =>
      show Spec.until_ e no (c :: d :: (v ++ e :: r)) = _
      rw [step]
      simp only [List.cons_append] at ih
      rw [ih]
      rfl
/-- An address without angles ends at a blank or the end of a bracket. -/
theorem bare_found (u r : B) (d : UInt8) (hd : d = 32 ∨ d = 41) (h : ∀ c ∈ u, urlC c) : Spec.bare 0 (u ++ d :: r) = some u.length := by
  have hbase : ∀ r, Spec.bare 0 (d :: r) = some 0 := fun r => by
    rcases hd with rfl | rfl
    · cases r with
      | nil => simp [Spec.bare]
      | cons x t => simp [Spec.bare]
    · cases r with
      | nil => simp [Spec.bare]
      | cons x t => simp [Spec.bare]
  induction u with
  | nil => exact hbase r
  | cons c t ih =>
    obtain ⟨_, h1, h2, _, h3, h4, _, _, _⟩ := urlC_ok c (h c (by simp))
    have ih := ih (fun x hx => h x (by simp [hx]))
    have step : ∀ x v, Spec.bare 0 (c :: x :: v) = (Spec.bare 0 (x :: v)).map (· + 1) := fun x v => by
      rw [Spec.bare]
      rw [if_neg (by omega), if_neg (fun h => h2 h.1), if_neg h3, if_neg h4]
    cases t with
    | nil =>
      show Spec.bare 0 (c :: d :: r) = _
      rw [step, hbase r]
      rfl
    | cons x v =>
      show Spec.bare 0 (c :: x :: (v ++ d :: r)) = _
      rw [step]
      simp only [List.cons_append] at ih
      rw [ih]
      rfl
def angled (a : Bool) (u : B) : B := if a = true then 60 :: (u ++ [62]) else u
theorem address_found (a : Bool) (u r : B) (d : UInt8) (hd : d = 32 ∨ d = 41) (h : ∀ c ∈ u, urlC c) (h0 : angled a u ≠ []) : Spec.address (angled a u ++ d :: r) = some (u, (angled a u).length) := by
  cases a with
  | true =>
    have e : angled true u ++ d :: r = 60 :: (u ++ 62 :: (d :: r)) := by simp [angled]
    rw [e]
    unfold Spec.address
    simp only [if_true]
    rw [until_found 62 [60, 10] u (d :: r) (by decide) (fun c hc => by
      obtain ⟨_, _, h2, _, _, _, h6, h7, h8⟩ := urlC_ok c (h c hc)
      exact ⟨h2, h7, by simp [h6, h8]⟩)]
    simp [angled]
  | false =>
    have e : angled false u = u := rfl
    rw [e] at h0 ⊢
    obtain ⟨c, t, rfl⟩ : ∃ c t, u = c :: t := by
      cases u with
      | nil => exact absurd rfl h0
      | cons c t => exact ⟨c, t, rfl⟩
    obtain ⟨_, _, _, _, _, _, h6, _, _⟩ := urlC_ok c (h c (by simp))
    have hb := bare_found (c :: t) r d hd h
    rw [List.cons_append] at hb ⊢
    unfold Spec.address
    simp only
    rw [if_neg h6, hb]
    simp only [Option.map_some]
    rw [← List.cons_append, List.take_left' rfl]
theorem skipW_not (c : UInt8) (t : B) (h : Spec.whiteC c = false) : Spec.skipW (c :: t) = c :: t := by
  unfold Spec.skipW
  rw [List.dropWhile_cons, if_neg (by rw [h]; decide)]
theorem skipW_angled (a : Bool) (u r : B) (h : ∀ c ∈ u, urlC c) (h0 : angled a u ≠ []) : Spec.skipW (angled a u ++ r) = angled a u ++ r := by
  cases a with
  | true => exact skipW_not 60 _ (by decide)
  | false =>
    have e : angled false u = u := rfl
    rw [e] at h0 ⊢
    obtain ⟨c, t, rfl⟩ : ∃ c t, u = c :: t := by
      cases u with
      | nil => exact absurd rfl h0
      | cons c t => exact ⟨c, t, rfl⟩
    obtain ⟨_, h1, _⟩ := urlC_ok c (h c (by simp))
    rw [List.cons_append]
    refine skipW_not c _ ?_
    unfold Spec.whiteC
    have n1 : c ≠ 32 := by rintro rfl; exact absurd h1 (by decide)
    have n2 : c ≠ 9 := by rintro rfl; exact absurd h1 (by decide)
    have n3 : c ≠ 10 := by rintro rfl; exact absurd h1 (by decide)
    simp [n1, n2, n3]
theorem dest_bare (a : Bool) (u x : B) (h : ∀ c ∈ u, urlC c) (h0 : angled a u ≠ []) : Spec.dest (40 :: (angled a u ++ (41 :: x))) = (u, [], (angled a u).length + 2) := by
  unfold Spec.dest
  simp only
  rw [if_neg (by decide), skipW_angled a u _ h h0, address_found a u x 41 (.inr rfl) h h0]
  simp only
  rw [List.drop_left' rfl, skipW_not 41 x (by decide)]
  simp only [Nat.lt_irrefl, if_false, List.head?_cons, if_true]
  rw [unesc_same u (fun c hc => by obtain ⟨_, _, h2, h3, _⟩ := urlC_ok c (h c hc); exact ⟨h2, h3⟩), uri_same u h]
  have : Spec.unesc [] = [] := rfl
  rw [this]
  refine Prod.ext rfl (Prod.ext rfl ?_)
  simp
  omega
theorem dest_said (a : Bool) (u t x : B) (h : ∀ c ∈ u, urlC c) (h0 : angled a u ≠ []) (ht : ∀ c ∈ t, c ≠ 34 ∧ c ≠ 92 ∧ c ≠ 38) :
    Spec.dest (40 :: (angled a u ++ (32 :: 34 :: (t ++ (34 :: 41 :: x))))) = (u, t, (angled a u).length + t.length + 5) := by
  have hs : Spec.skipW (32 :: 34 :: (t ++ (34 :: 41 :: x))) = 34 :: (t ++ (34 :: 41 :: x)) := by
    unfold Spec.skipW
    rw [List.dropWhile_cons, if_pos (by decide), List.dropWhile_cons, if_neg (by decide)]
  have hsaid : Spec.said (34 :: (t ++ (34 :: 41 :: x))) = (t, t.length + 2) := by
    unfold Spec.said
    simp only [true_or, if_true]
    rw [until_found 34 [] t (41 :: x) (by decide) (fun c hc => ⟨(ht c hc).2.1, (ht c hc).1, rfl⟩)]
    simp only
    rw [List.take_left' rfl]
  have hdrop : (34 :: (t ++ (34 :: 41 :: x))).drop (t.length + 2) = 41 :: x := by
    rw [show t.length + 2 = (t.length + 1) + 1 by omega, List.drop_succ_cons, ← List.drop_drop, List.drop_left' rfl]
    rfl
  have hr : (if (Spec.skipW (32 :: 34 :: (t ++ (34 :: 41 :: x)))).length < (32 :: 34 :: (t ++ (34 :: 41 :: x))).length then ((Spec.said (Spec.skipW (32 :: 34 :: (t ++ (34 :: 41 :: x))))).1, Spec.skipW ((Spec.skipW (32 :: 34 :: (t ++ (34 :: 41 :: x)))).drop (Spec.said (Spec.skipW (32 :: 34 :: (t ++ (34 :: 41 :: x))))).2)) else ([], 32 :: 34 :: (t ++ (34 :: 41 :: x)))) = (t, 41 :: x) := by
    rw [hs, if_pos (by simp), hsaid]
    simp only
    rw [hdrop, skipW_not 41 x (by decide)]
  unfold Spec.dest
  simp only
  rw [if_neg (by decide), skipW_angled a u _ h h0, address_found a u _ 32 (.inl rfl) h h0]
  simp only
  rw [List.drop_left' rfl, hr]
  simp only [List.head?_cons, if_true]
  rw [unesc_same u (fun c hc => by obtain ⟨_, _, h2, h3, _⟩ := urlC_ok c (h c hc); exact ⟨h2, h3⟩), uri_same u h, unesc_same t (fun c hc => (ht c hc).2)]
  refine Prod.ext rfl (Prod.ext rfl ?_)
  simp
  omega
end Go.Proofs.YtmplfiflikhpjaaGreatDoor.Pl
/-
  PLAIN LEAN: every step takes something, and no more than there is: how far the parsing goes does not hang on the count of rounds.
-/
namespace Go.Proofs.YtmplfiflikhpjaaGreatDoor.Pl
open Go.Proofs.YtmplfiflikhpjaaGreatDoor.Spec (B Piece txt)

theorem run_pos (c : UInt8) (t : B) : 0 < Spec.run (c :: t) c := by
  unfold Spec.run
  rw [List.takeWhile_cons, if_pos (by simp)]
  simp
theorem run_le (l : B) (c : UInt8) : Spec.run l c ≤ l.length := by
  unfold Spec.run
  exact (List.takeWhile_sublist _).length_le
theorem codeAt_lt (n : Nat) (l : B) : ∀ f i j, Spec.codeAt n l f i = some j → j < l.length ∧ Spec.ticks (l.drop j) = n
  | 0, _, _, h => by cases h
  | f + 1, i, j, h => by
    unfold Spec.codeAt at h
    by_cases h1 : i < l.length
    · rw [if_pos h1] at h
      by_cases h2 : Spec.ticks (l.drop i) = n
      · rw [if_pos h2] at h
        obtain rfl := Option.some.inj h
        exact ⟨h1, h2⟩
      · rw [if_neg h2] at h
        exact codeAt_lt n l f _ j h
    · rw [if_neg h1] at h; cases h
theorem code_le (l : B) : (Spec.code l).2 ≤ l.length := by
  unfold Spec.code
  split
  · exact Nat.zero_le _
  · cases h : Spec.codeAt (Spec.ticks l) l (l.length + 1) (Spec.ticks l) with
    | none => exact Nat.zero_le _
    | some i =>
      obtain ⟨h1, h2⟩ := codeAt_lt _ _ _ _ _ h
      have := run_le (l.drop i) 96
      rw [List.length_drop] at this
      have h3 : Spec.run (l.drop i) 96 = Spec.ticks l := h2
      show i + Spec.ticks l ≤ l.length
      omega
theorem scheme_le (l : B) : Spec.scheme l ≤ l.length := by
  unfold Spec.scheme
  simp only
  split
  · have h1 := (List.takeWhile_sublist Spec.angleC (l := l.drop (l.takeWhile Spec.schemeC).length)).length_le
    have h2 := (List.takeWhile_sublist Spec.schemeC (l := l)).length_le
    rw [List.length_drop] at h1
    omega
  · exact Nat.zero_le _
theorem indexByte_len (l : B) (c : UInt8) : Lib.indexByte l c < (l.length : Int) := by
  induction l with
  | nil => show (-1 : Int) < 0; omega
  | cons b t ih =>
    unfold Lib.indexByte
    rw [List.length_cons]
    split
    · omega
    · split <;> omega
theorem indexByte_lt (l : B) (c : UInt8) (h : 0 ≤ Lib.indexByte l c) : (Lib.indexByte l c).toNat < l.length := by
  have := indexByte_len l c
  omega
theorem auto_le (l : B) : (Spec.auto l).2.2 ≤ l.length := by
  cases l with
  | nil => exact Nat.le_refl _
  | cons c t =>
    unfold Spec.auto
    simp only
    split
    · exact Nat.zero_le _
    · split
      · rename_i h
        have := (List.getElem?_eq_some_iff.1 h.2).1
        simp
        omega
      · cases hc : Spec.cutAt 62 t with
        | none => exact Nat.zero_le _
        | some p =>
          simp only
          split
          · unfold Spec.cutAt at hc
            split at hc
            · rename_i h1
              obtain rfl := Option.some.inj hc
              have := indexByte_lt t 62 h1
              simp
              omega
            · cases hc
          · exact Nat.zero_le _
theorem ent_le (l : B) : (Spec.ent l).2 ≤ l.length := by
  cases l with
  | nil => exact Nat.le_refl _
  | cons c t =>
    unfold Spec.ent
    simp only
    split
    · rename_i h
      have := indexByte_lt t 59 h.2
      split
      · simp; omega
      · exact Nat.zero_le _
    · exact Nat.zero_le _
theorem skipB_le (l : B) : (Spec.skipB l).length ≤ l.length := by
  unfold Spec.skipB
  exact (List.dropWhile_sublist _).length_le
theorem skipW_le (l : B) : (Spec.skipW l).length ≤ l.length := by
  unfold Spec.skipW
  exact (List.dropWhile_sublist _).length_le
theorem dest_le (l : B) : (Spec.dest l).2.2 ≤ l.length := by
  cases l with
  | nil => exact Nat.le_refl _
  | cons c t =>
    unfold Spec.dest
    simp only
    split
    · exact Nat.zero_le _
    · cases ha : Spec.address (Spec.skipW t) with
      | none => exact Nat.zero_le _
      | some p =>
        have key : ∀ r : B × B, (if r.2.head? = some 41 then (Spec.uri (Spec.unesc p.1), Spec.unesc r.1, (c :: t).length - r.2.length + 1) else (([], [], 0) : B × B × Nat)).2.2 ≤ (c :: t).length := by
          intro r
          split
          · rename_i h
            have : 0 < r.2.length := by
              cases hr : r.2 with
              | nil => rw [hr] at h; cases h
              | cons a b => simp
            simp
            omega
          · exact Nat.zero_le _
        exact key _
theorem bracket_pos (t : B) (ps : List Piece) : 0 < (Spec.bracket t ps).1 ∧ (Spec.bracket t ps).1 ≤ t.length + 1 := by
  unfold Spec.bracket
  cases Spec.lastNoted ps with
  | none => simp
  | some i =>
    simp only
    cases ps[i]? with
    | none => simp
    | some b =>
      simp only
      have := dest_le t
      split
      · simp
      · simp; omega
theorem stepP_pos (b : Nat) (a : B → Nat) (c : UInt8) (t : B) (ps : List Piece) : 0 < (Spec.stepP b a (c :: t) ps).1 ∧ (Spec.stepP b a (c :: t) ps).1 ≤ t.length + 1 := by
  unfold Spec.stepP
  simp only
  by_cases h1 : c = 92
  · rw [if_pos h1]
    split
    · rename_i h
      have : 0 < t.length := by cases t with
        | nil => cases h
        | cons x y => simp
      have := skipB_le (t.drop 1)
      simp only [List.length_drop] at this ⊢
      omega
    · split
      · rename_i h
        have : 0 < t.length := by cases t with
          | nil => cases h
          | cons x y => simp
        simp; omega
      · simp
  rw [if_neg h1]
  by_cases h2 : c = 96
  · rw [if_pos h2]
    have := code_le (c :: t)
    have h3 := run_le (c :: t) 96
    split
    · simp at this ⊢; omega
    · simp only [Spec.ticks]
      subst h2
      have := run_pos 96 t
      simp at h3 ⊢
      omega
  rw [if_neg h2]
  by_cases h3 : c = 60
  · rw [if_pos h3]
    have := auto_le (c :: t)
    split
    · simp at this ⊢; omega
    · simp
  rw [if_neg h3]
  by_cases h4 : c = 38
  · rw [if_pos h4]
    have := ent_le (c :: t)
    split
    · simp at this ⊢; omega
    · simp
  rw [if_neg h4]
  by_cases h5 : c = 42 ∨ c = 95
  · rw [if_pos h5]
    have h6 := run_le (c :: t) c
    have := run_pos c t
    simp at h6 ⊢
    omega
  rw [if_neg h5]
  by_cases h6 : c = 33
  · rw [if_pos h6]
    split
    · rename_i h
      have : 0 < t.length := by cases t with
        | nil => cases h
        | cons x y => simp
      simp; omega
    · simp
  rw [if_neg h6]
  by_cases h7 : c = 91
  · rw [if_pos h7]; simp
  rw [if_neg h7]
  by_cases h8 : c = 93
  · rw [if_pos h8]; exact bracket_pos t ps
  rw [if_neg h8]
  by_cases h9 : c = 10
  · rw [if_pos h9]
    unfold Spec.newline
    have := skipB_le t
    simp only
    omega
  rw [if_neg h9]
  have := (List.takeWhile_sublist (fun d => !Spec.meant.contains d) (l := t)).length_le
  simp only
  omega
theorem stepAt_pos (s : B) (k : Nat) (ps : List Piece) (h : k < s.length) : 0 < (stepAt s k ps).1 ∧ k + (stepAt s k ps).1 ≤ s.length := by
  unfold stepAt
  rw [List.drop_eq_getElem_cons h]
  have := stepP_pos (lastR (last16 ⟨(s.take k).toArray⟩)) (fun l => firstR ⟨l.toArray⟩) s[k] (s.drop (k + 1)) ps
  rw [List.length_drop] at this
  omega
theorem parseF_enough (s : B) : ∀ f g k ps, s.length - k ≤ f → s.length - k ≤ g → parseF s f k ps = parseF s g k ps
  | 0, g, k, ps, hf, _ => by rw [parseF_done s 0 k ps (by omega), parseF_done s g k ps (by omega)]
  | f + 1, 0, k, ps, _, hg => by rw [parseF_done s _ k ps (by omega), parseF_done s 0 k ps (by omega)]
  | f + 1, g + 1, k, ps, hf, hg => by
    by_cases h : k < s.length
    · have := stepAt_pos s k ps h
      rw [parseF_step s f k ps h, parseF_step s g k ps h]
      exact parseF_enough s f g _ _ (by omega) (by omega)
    · rw [parseF_done s _ k ps (by omega), parseF_done s _ k ps (by omega)]
/-- What comes out from a place on. -/
def parseC (s : B) (k : Nat) (ps : List Piece) : List Piece := parseF s (s.length - k) k ps
theorem parseC_step (s : B) (k : Nat) (ps : List Piece) (h : k < s.length) : parseC s k ps = parseC s (k + (stepAt s k ps).1) (stepAt s k ps).2 := by
  unfold parseC
  have := stepAt_pos s k ps h
  obtain ⟨f, hf⟩ : ∃ f, s.length - k = f + 1 := ⟨s.length - k - 1, by omega⟩
  rw [hf, parseF_step s f k ps h]
  exact parseF_enough s _ _ _ _ (by omega) (by omega)
theorem parseC_end (s : B) (ps : List Piece) : parseC s s.length ps = ps := by
  unfold parseC
  exact parseF_done s _ _ _ (Nat.le_refl _)
theorem parse_eq (s : B) : parse s = Spec.nodes (parseC s 0 []) := by
  unfold parse parseC
  rw [Nat.sub_zero]
end Go.Proofs.YtmplfiflikhpjaaGreatDoor.Pl
/-
  PLAIN LEAN: words in stresses, links and images within one another: the marks' pairs, and what they come to.
-/
namespace Go.Proofs.YtmplfiflikhpjaaGreatDoor.Pl
open Go.Proofs.YtmplfiflikhpjaaGreatDoor.Spec (B Piece txt MState)

inductive Nest where
  | word (w : B)
  | emph (strong : Bool) (e : Nest)
  | link (image : Bool) (e : Nest)
def stars (b : Bool) : B := if b = true then [42, 42] else [42]
def Nest.text : Nest → B
  | .word w => w
  | .emph b e => stars b ++ ([120, 32] ++ e.text ++ [32, 121] ++ stars b)
  | .link i e => (if i = true then [33, 91] else [91]) ++ ([120] ++ e.text ++ [121] ++ [93, 40, 117, 41])
def joinN (pre : B) (n : Spec.Node) (post : B) : List Spec.Node := if n.kind = 10 then [txt (pre ++ n.text ++ post)] else [txt pre, n, txt post]
def Nest.node : Nest → Spec.Node
  | .word w => txt w
  | .emph b e => .mk (if b = true then 14 else 13) [] [] [] (joinN [120, 32] e.node [32, 121])
  | .link i e => .mk (if i = true then 17 else 16) [] [117] [] (joinN [120] e.node [121])
def Nest.isWord : Nest → Bool
  | .word _ => true
  | _ => false
def Nest.noLink : Nest → Prop
  | .word _ => True
  | .emph _ e => e.noLink
  | .link i e => i = true ∧ e.noLink
def Nest.ok : Nest → Prop
  | .word w => w ≠ [] ∧ ∀ c ∈ w, Wordy c
  | .emph _ e => e.ok
  | .link i e => e.ok ∧ (i = false → e.noLink)
def Nest.deep : Nest → Nat
  | .emph _ e => e.deep + 1
  | _ => 0
/-- How many signs a mark has. -/
def nOf (b : Bool) : Nat := if b = true then 2 else 1
def rawP (t : B) : Piece := ⟨txt t, true, none, 0, false, false, false⟩
def markM (b op cl : Bool) : Spec.Mark := ⟨42, nOf b, op, cl⟩
def markP (b op cl : Bool) (n : Nat) : Piece := ⟨.mk 0 [] [] [] [], false, some (markM b op cl), n, false, false, false⟩
def grp (pre : B) (isw : Bool) (t : B) (L : List Piece) (post : B) : List Piece := if isw = true then [rawP (pre ++ t ++ post)] else rawP pre :: (L ++ [rawP post])
def Nest.pcs : Bool → Nest → List Piece
  | _, .word w => [rawP w]
  | bk, .emph b e => markP b true bk (nOf b) :: (grp [120, 32] e.isWord e.text (e.pcs false) [32, 121] ++ [markP b bk true (nOf b)])
  | _, .link i e => [Spec.plainP (Nest.link i e).node]
/-! ### the marks -/
def Nest.ms : Bool → Nest → List Spec.Mark
  | bk, .emph b e => markM b true bk :: (e.ms false ++ [markM b bk true])
  | _, _ => []
def Nest.prs : Nat → Nest → List Spec.Pair
  | i, .emph b e => e.prs (i + 1) ++ [⟨i, i + 2 * e.deep + 1, b⟩]
  | _, _ => []
theorem ms_len (e : Nest) : ∀ bk, (e.ms bk).length = 2 * e.deep := by
  induction e with
  | word w => intro bk; rfl
  | link i e _ => intro bk; rfl
  | emph b e ih =>
    intro bk
    unfold Nest.ms Nest.deep
    rw [List.length_cons, List.length_append, ih]
    simp
    omega
theorem marks_app (a b : List Piece) : (a ++ b).filterMap (·.mark) = a.filterMap (·.mark) ++ b.filterMap (·.mark) := List.filterMap_append
theorem pcs_marks (e : Nest) : ∀ bk, (e.pcs bk).filterMap (·.mark) = e.ms bk := by
  induction e with
  | word w => intro bk; rfl
  | link i e _ => intro bk; rfl
  | emph b e ih =>
    intro bk
    unfold Nest.pcs Nest.ms
    have hg : (grp [120, 32] e.isWord e.text (e.pcs false) [32, 121]).filterMap (·.mark) = e.ms false := by
      unfold grp
      cases hw : e.isWord with
      | true =>
        cases e with
        | word w => rfl
        | emph b e => cases hw
        | link i e => cases hw
      | false =>
        have := ih false
        simp [rawP, this]
    rw [List.filterMap_cons]
    show markM b true bk :: _ = _
    rw [marks_app, hg]
    rfl
theorem grp_marks (e : Nest) (bk : Bool) (pre post : B) : (grp pre e.isWord e.text (e.pcs bk) post).filterMap (·.mark) = e.ms bk := by
  unfold grp
  cases hw : e.isWord with
  | true =>
    cases e with
    | word w => rfl
    | emph b e => cases hw
    | link i e => cases hw
  | false =>
    have := pcs_marks e bk
    simp [rawP, this]

/-- A state with so many marks from a place on all used up. -/
def clr (s : MState) (i n : Nat) : MState := ⟨(List.range s.left.length).map fun x => if i ≤ x ∧ x < i + n then 0 else s.left.getD x 0, (List.range s.out.length).map fun x => if i ≤ x ∧ x < i + n then true else s.out.getD x true⟩
theorem clr_left (s : MState) (i n x : Nat) : (clr s i n).left.getD x 0 = if i ≤ x ∧ x < i + n then 0 else s.left.getD x 0 := by
  unfold clr
  simp only [List.getD, List.getElem?_map]
  by_cases h : x < s.left.length
  · rw [List.getElem?_range h]; rfl
  · rw [List.getElem?_eq_none (by simpa using h), List.getElem?_eq_none (by omega)]
    simp
theorem clr_out (s : MState) (i n x : Nat) : (clr s i n).out.getD x true = if i ≤ x ∧ x < i + n then true else s.out.getD x true := by
  unfold clr
  simp only [List.getD, List.getElem?_map]
  by_cases h : x < s.out.length
  · rw [List.getElem?_range h]; rfl
  · rw [List.getElem?_eq_none (by simpa using h), List.getElem?_eq_none (by omega)]
    simp
theorem clr_len (s : MState) (i n : Nat) : (clr s i n).left.length = s.left.length ∧ (clr s i n).out.length = s.out.length := by
  constructor <;> simp [clr]
theorem range_getD {α : Type} (l : List α) (d : α) : (List.range l.length).map (fun x => l.getD x d) = l := by
  apply List.ext_getElem?
  intro x
  rw [List.getElem?_map]
  by_cases h : x < l.length
  · rw [List.getElem?_range h]
    simp [List.getD, List.getElem?_eq_getElem h]
  · rw [List.getElem?_eq_none (by simpa using h), List.getElem?_eq_none (by omega)]
    rfl
theorem clr_zero (s : MState) (i : Nat) : clr s i 0 = s := by
  have h : ∀ x, ¬ (i ≤ x ∧ x < i + 0) := fun x h => by omega
  unfold clr
  simp only [h, if_false]
  rw [range_getD, range_getD]
theorem list_getD_ext {α : Type} (a b : List α) (d : α) (hl : a.length = b.length) (h : ∀ x, x < a.length → a.getD x d = b.getD x d) : a = b := by
  apply List.ext_getElem hl
  intro x h1 h2
  have := h x h1
  simpa [List.getD, List.getElem?_eq_getElem h1, List.getElem?_eq_getElem h2] using this
theorem state_ext (a b : MState) (h1 : a.left.length = b.left.length) (h2 : a.out.length = b.out.length) (h3 : ∀ x, a.left.getD x 0 = b.left.getD x 0) (h4 : ∀ x, a.out.getD x true = b.out.getD x true) : a = b := by
  have e1 := list_getD_ext a.left b.left 0 h1 (fun x _ => h3 x)
  have e2 := list_getD_ext a.out b.out true h2 (fun x _ => h4 x)
  cases a
  cases b
  simp only at e1 e2
  rw [e1, e2]
theorem getD_set_eq {α : Type} (l : List α) (i : Nat) (v d : α) (h : i < l.length) : (l.set i v).getD i d = v := by
  simp [List.getD, h]
theorem getD_set_ne {α : Type} (l : List α) (i j : Nat) (v d : α) (h : i ≠ j) : (l.set i v).getD j d = l.getD j d := by
  simp [List.getD, h]
theorem matchFrom_add (l : List Spec.Mark) (f : Nat) : ∀ (m n k : Nat) (s : MState), Spec.matchFrom l f (m + n) k s = ((Spec.matchFrom l f m k s).1 ++ (Spec.matchFrom l f n (k + m) (Spec.matchFrom l f m k s).2).1, (Spec.matchFrom l f n (k + m) (Spec.matchFrom l f m k s).2).2)
  | 0, n, k, s => by rw [Nat.zero_add]; rfl
  | m + 1, n, k, s => by
    rw [show m + 1 + n = (m + n) + 1 by omega, matchFrom_succ, matchFrom_succ, matchFrom_add l f m n (k + 1)]
    simp only [List.append_assoc]
    rw [show k + 1 + m = k + (m + 1) by omega]
theorem opener_found (l : List Spec.Mark) (s : MState) (k i : Nat) (hf : Spec.fits l s i k = true) : ∀ n, (∀ j, i < j → j < i + 1 + n → Spec.fits l s j k = false) → Spec.opener l s k (i + 1 + n) = some i
  | 0, _ => by
    show (if Spec.fits l s i k = true then some i else Spec.opener l s k i) = some i
    rw [if_pos hf]
  | n + 1, h => by
    show (if Spec.fits l s (i + 1 + n) k = true then some (i + 1 + n) else Spec.opener l s k (i + 1 + n)) = some i
    rw [if_neg (by rw [h (i + 1 + n) (by omega) (by omega)]; decide)]
    exact opener_found l s k i hf n (fun j h1 h2 => h j h1 (by omega))
theorem fits_out (l : List Spec.Mark) (s : MState) (i k : Nat) (h : s.out.getD i true = true) : Spec.fits l s i k = false := by
  unfold Spec.fits
  split
  · rw [h]; rfl
  · rfl
/-- Marks within marks are paired with one another. -/
theorem seg (e : Nest) : ∀ (bk : Bool) (l : List Spec.Mark) (f i : Nat) (s : MState), 2 ≤ f → (bk = true → i = 0) → (∀ j x, (e.ms bk)[j]? = some x → l[i + j]? = some x ∧ s.left.getD (i + j) 0 = x.n ∧ s.out.getD (i + j) true = false) →
    i + 2 * e.deep ≤ s.left.length → i + 2 * e.deep ≤ s.out.length → Spec.matchFrom l f (2 * e.deep) i s = (e.prs i, clr s i (2 * e.deep)) := by
  induction e with
  | word w => intro bk l f i s _ _ _ _ _; rw [show 2 * (Nest.word w).deep = 0 from rfl, clr_zero]; rfl
  | link im e _ => intro bk l f i s _ _ _ _ _; rw [show 2 * (Nest.link im e).deep = 0 from rfl, clr_zero]; rfl
  | emph b e ih =>
    intro bk l f i s hf hbk hm hl1 hl2
    have hd : (Nest.emph b e).deep = e.deep + 1 := rfl
    rw [hd] at hl1 hl2 ⊢
    obtain ⟨d, hdd⟩ : ∃ d, d = e.deep := ⟨_, rfl⟩
    have hlen : (e.ms false).length = 2 * d := by rw [ms_len, hdd]
    rw [← hdd] at hl1 hl2 ⊢
    have hms : (Nest.emph b e).ms bk = markM b true bk :: (e.ms false ++ [markM b bk true]) := rfl
    rw [hms] at hm
    obtain ⟨m1, m2, m3⟩ := hm 0 _ rfl
    obtain ⟨k1, k2, k3⟩ := hm (2 * d + 1) (markM b bk true) (by rw [List.getElem?_cons_succ, List.getElem?_append_right (by omega), hlen, Nat.sub_self]; rfl)
    rw [Nat.add_zero] at m1 m2 m3
    rw [show i + (2 * d + 1) = i + 2 * d + 1 by omega] at k1 k2 k3
    have hn : 1 ≤ nOf b := by unfold nOf; split <;> omega
    obtain ⟨g, rfl⟩ : ∃ g, f = g + 2 := ⟨f - 2, by omega⟩
    -- the one that opens
    have hopen : Spec.matchAt l i (g + 2) s = ([], s) := by
      cases bk with
      | false => exact matchAt_stop l i (g + 1) s _ m1 (fun h => by cases h.2.1)
      | true =>
        obtain rfl := hbk rfl
        rw [matchAt_none l 0 (g + 1) s _ m1 ⟨m3, rfl, by rw [m2]; exact hn⟩ rfl]
        have : s.out.set 0 (!(markM b true true).opn) = s.out := by
          refine list_getD_ext _ _ true (by simp) (fun x hx => ?_)
          cases x with
          | zero =>
            rw [m3]
            simp [List.getD, show 0 < s.out.length by omega, markM]
          | succ x => simp [List.getD]
        rw [this]
    -- those within
    have hin := ih false l (g + 2) (i + 1) s hf (fun h => by cases h) (fun j x hx => by
      have hj : j < 2 * d := by rw [← hlen]; exact (List.getElem?_eq_some_iff.1 hx).1
      have := hm (j + 1) x (by rw [List.getElem?_cons_succ, List.getElem?_append_left (by omega)]; exact hx)
      rw [show i + (j + 1) = i + 1 + j by omega] at this
      exact this) (by omega) (by omega)
    rw [← hdd] at hin
    -- the one that closes
    obtain ⟨s1, hs1⟩ : ∃ s1, s1 = clr s (i + 1) (2 * d) := ⟨_, rfl⟩
    have c1 : ∀ x, s1.left.getD x 0 = if i + 1 ≤ x ∧ x < i + 1 + 2 * d then 0 else s.left.getD x 0 := fun x => by rw [hs1, clr_left]
    have c2 : ∀ x, s1.out.getD x true = if i + 1 ≤ x ∧ x < i + 1 + 2 * d then true else s.out.getD x true := fun x => by rw [hs1, clr_out]
    have c3 : s1.left.length = s.left.length := by rw [hs1]; exact (clr_len _ _ _).1
    have c4 : s1.out.length = s.out.length := by rw [hs1]; exact (clr_len _ _ _).2
    rw [← hs1] at hin
    have l1i : s1.left.getD i 0 = nOf b := by rw [c1, if_neg (by omega), m2]; rfl
    have l1k : s1.left.getD (i + 2 * d + 1) 0 = nOf b := by rw [c1, if_neg (by omega), k2]; rfl
    have o1i : s1.out.getD i true = false := by rw [c2, if_neg (by omega), m3]
    have o1k : s1.out.getD (i + 2 * d + 1) true = false := by rw [c2, if_neg (by omega), k3]
    have hfit : Spec.fits l s1 i (i + 2 * d + 1) = true := by
      unfold Spec.fits
      rw [m1, k1]
      simp only
      rw [o1i, l1i]
      cases b <;> cases bk <;> decide
    have hop : Spec.opener l s1 (i + 2 * d + 1) (i + 2 * d + 1) = some i := by
      have := opener_found l s1 (i + 2 * d + 1) i hfit (2 * d) (fun j h1 h2 => fits_out l s1 j _ (by rw [c2, if_pos (by omega)]))
      rwa [show i + 1 + 2 * d = i + 2 * d + 1 by omega] at this
    have hpair : Spec.pairUp s1 i (i + 2 * d + 1) = (⟨i, i + 2 * d + 1, b⟩, clr s i (2 * (d + 1))) := by
      have hst : (decide (2 ≤ s1.left.getD i 0) && decide (2 ≤ s1.left.getD (i + 2 * d + 1) 0)) = b := by
        rw [l1i, l1k]; cases b <;> decide
      refine Prod.ext ?_ ?_
      · unfold Spec.pairUp
        simp only [hst]
      · have ht : takes s1 i (i + 2 * d + 1) = nOf b := by unfold takes; rw [hst]; rfl
        have hL := pairUp_left s1 i (i + 2 * d + 1)
        rw [ht, l1i, l1k, Nat.sub_self] at hL
        have hlen2 := pairUp_len s1 i (i + 2 * d + 1)
        have hcl := clr_len s i (2 * (d + 1))
        refine state_ext _ _ ?_ ?_ (fun x => ?_) (fun x => ?_)
        · rw [hlen2.1, hcl.1, c3]
        · rw [hlen2.2, hcl.2, c4]
        · rw [hL, clr_left]
          by_cases e1 : x = i + 2 * d + 1
          · subst e1
            rw [if_pos (by omega), getD_set_eq _ _ _ _ (by rw [List.length_set]; omega)]
          · rw [getD_set_ne _ _ _ _ _ (Ne.symm e1)]
            by_cases e2 : x = i
            · subst e2
              rw [if_pos (by omega), getD_set_eq _ _ _ _ (by omega)]
            · rw [getD_set_ne _ _ _ _ _ (Ne.symm e2), c1]
              by_cases h : i + 1 ≤ x ∧ x < i + 1 + 2 * d
              · rw [if_pos h, if_pos (by omega)]
              · rw [if_neg h, if_neg (by omega)]
        · rw [clr_out]
          have hO : (Spec.pairUp s1 i (i + 2 * d + 1)).2.out = (((List.range s1.out.length).map fun j => if i < j ∧ j < i + 2 * d + 1 then true else s1.out.getD j true).set i ((Spec.pairUp s1 i (i + 2 * d + 1)).2.left.getD i 0 == 0)).set (i + 2 * d + 1) ((Spec.pairUp s1 i (i + 2 * d + 1)).2.left.getD (i + 2 * d + 1) 0 == 0) := rfl
          have z2 : (Spec.pairUp s1 i (i + 2 * d + 1)).2.left.getD (i + 2 * d + 1) 0 = 0 := by
            rw [hL, getD_set_eq _ _ _ _ (by rw [List.length_set]; omega)]
          have z1 : (Spec.pairUp s1 i (i + 2 * d + 1)).2.left.getD i 0 = 0 := by
            rw [hL, getD_set_ne _ _ _ _ _ (by omega), getD_set_eq _ _ _ _ (by omega)]
          rw [hO, z1, z2]
          by_cases e1 : x = i + 2 * d + 1
          · subst e1
            rw [if_pos (by omega), getD_set_eq _ _ _ _ (by rw [List.length_set, List.length_map, List.length_range]; omega)]
            rfl
          · rw [getD_set_ne _ _ _ _ _ (Ne.symm e1)]
            by_cases e2 : x = i
            · subst e2
              rw [if_pos (by omega), getD_set_eq _ _ _ _ (by rw [List.length_map, List.length_range]; omega)]
              rfl
            · rw [getD_set_ne _ _ _ _ _ (Ne.symm e2)]
              by_cases hx : x < s1.out.length
              · have h1 : ((List.range s1.out.length).map fun j => if i < j ∧ j < i + 2 * d + 1 then true else s1.out.getD j true).getD x true = if i < x ∧ x < i + 2 * d + 1 then true else s1.out.getD x true := by
                  rw [List.getD, List.getElem?_map, List.getElem?_range hx]
                  rfl
                rw [h1, c2]
                by_cases h : i + 1 ≤ x ∧ x < i + 1 + 2 * d
                · rw [if_pos (by omega), if_pos (by omega)]
                · rw [if_neg (by omega), if_neg h, if_neg (by omega)]
              · have h1 : ∀ (l : List Bool), l.length ≤ x → l.getD x true = true := fun l h => by
                  simp only [List.getD, List.getElem?_eq_none h, Option.getD_none]
                rw [h1 _ (by rw [List.length_map, List.length_range]; omega)]
                split
                · rfl
                · rw [h1 _ (by omega)]
    have hclose : Spec.matchAt l (i + 2 * d + 1) (g + 2) s1 = ([⟨i, i + 2 * d + 1, b⟩], clr s i (2 * (d + 1))) := by
      rw [matchAt_some l (i + 2 * d + 1) (g + 1) s1 _ k1 ⟨o1k, rfl, by rw [l1k]; exact hn⟩ i hop, hpair]
      simp only
      rw [matchAt_stop l (i + 2 * d + 1) g _ _ k1 (fun h => by
        rw [clr_out, if_pos (by omega)] at h
        cases h.1)]
    rw [show 2 * (d + 1) = 1 + (2 * d + 1) by omega, matchFrom_add, matchFrom_add]
    have e1 : Spec.matchFrom l (g + 2) 1 i s = ([], s) := by
      rw [matchFrom_succ, hopen]
      rfl
    rw [e1]
    simp only [List.nil_append]
    rw [hin]
    have e2 : Spec.matchFrom l (g + 2) 1 (i + 1 + 2 * d) s1 = ([⟨i, i + 2 * d + 1, b⟩], clr s i (2 * (d + 1))) := by
      rw [show i + 1 + 2 * d = i + 2 * d + 1 by omega, matchFrom_succ, hclose]
      rfl
    simp only [e2]
    rw [show 1 + (2 * d + 1) = 2 * (d + 1) by omega]
    refine Prod.ext ?_ rfl
    show _ = e.prs (i + 1) ++ [⟨i, i + 2 * e.deep + 1, b⟩]
    rw [hdd]
theorem ms_n (e : Nest) : ∀ (bk : Bool) (j : Nat) (x : Spec.Mark), (e.ms bk)[j]? = some x → x.n ≠ 0 := by
  induction e with
  | word w => intro bk j x h; cases h
  | link i e _ => intro bk j x h; cases h
  | emph b e ih =>
    intro bk j x h
    have hn : nOf b ≠ 0 := by unfold nOf; split <;> omega
    have hms : (Nest.emph b e).ms bk = markM b true bk :: (e.ms false ++ [markM b bk true]) := rfl
    rw [hms] at h
    have hm : x ∈ markM b true bk :: (e.ms false ++ [markM b bk true]) := List.mem_of_getElem? h
    simp only [List.mem_cons, List.mem_append, List.not_mem_nil, or_false] at hm
    rcases hm with rfl | hm | rfl
    · exact hn
    · obtain ⟨q, hq⟩ := List.mem_iff_getElem?.1 hm
      exact ih false q x hq
    · exact hn
theorem matches_nest (e : Nest) (bk : Bool) : Spec.matches_ (e.ms bk) = e.prs 0 := by
  by_cases h0 : e.deep = 0
  · have h1 : e.ms bk = [] := List.eq_nil_of_length_eq_zero (by rw [ms_len, h0])
    have h2 : e.prs 0 = [] := by
      cases e with
      | word w => rfl
      | link i e => rfl
      | emph b e => simp [Nest.deep] at h0
    rw [h1, h2]
    rfl
  · unfold Spec.matches_
    have hlen := ms_len e bk
    have hmost : 1 ≤ Spec.most (e.ms bk) := by
      rw [most_sum]
      cases hm : e.ms bk with
      | nil => rw [hm] at hlen; simp at hlen; omega
      | cons a t =>
        have := ms_n e bk 0 a (by rw [hm]; rfl)
        rw [List.map_cons, List.sum_cons]
        omega
    have := seg e bk (e.ms bk) (Spec.most (e.ms bk) + 1) 0 ⟨(e.ms bk).map (·.n), (e.ms bk).map (·.n == 0)⟩ (by omega) (fun _ => rfl) (fun j x hx => by
      rw [Nat.zero_add]
      refine ⟨hx, ?_, ?_⟩
      · simp [List.getD, hx]
      · have := ms_n e bk j x hx
        simp [List.getD, hx, this]) (by simp [hlen]) (by simp [hlen])
    rw [hlen, this]
end Go.Proofs.YtmplfiflikhpjaaGreatDoor.Pl
/-
  PLAIN LEAN: words in stresses, links and images within one another: how they are told.
-/
namespace Go.Proofs.YtmplfiflikhpjaaGreatDoor.Pl
open Go.Proofs.YtmplfiflikhpjaaGreatDoor.Spec (B Piece txt MState)

def Nest.fin : Nat → Bool → Nest → List (Piece × Option Nat)
  | _, _, .word w => [(rawP w, none)]
  | i, bk, .emph b e => [(markP b true bk 0, some i), (Spec.plainP (Nest.emph b e).node, none), (markP b bk true 0, some (i + 2 * e.deep + 1))]
  | _, _, .link im e => [(Spec.plainP (Nest.link im e).node, none)]
theorem numbered_app (a b : List Piece) : ∀ n, Spec.numbered n (a ++ b) = Spec.numbered n a ++ Spec.numbered (n + (a.filterMap (·.mark)).length) b := by
  induction a with
  | nil => intro n; rfl
  | cons p t ih =>
    intro n
    cases hm : p.mark with
    | none =>
      have e : ∀ t, Spec.numbered n (p :: t) = (p, none) :: Spec.numbered n t := fun t => by rw [Spec.numbered]; simp only [hm]
      rw [List.cons_append, e, e, ih, List.filterMap_cons]
      simp only [hm, List.cons_append]
    | some m =>
      have e : ∀ t, Spec.numbered n (p :: t) = (p, some n) :: Spec.numbered (n + 1) t := fun t => by rw [Spec.numbered]; simp only [hm]
      rw [List.cons_append, e, e, ih, List.filterMap_cons]
      simp only [hm, List.cons_append, List.length_cons]
      rw [show n + 1 + (t.filterMap (·.mark)).length = n + ((t.filterMap (·.mark)).length + 1) by omega]
theorem numbered_raw (n : Nat) (u : B) (l : List Piece) : Spec.numbered n (rawP u :: l) = (rawP u, none) :: Spec.numbered n l := rfl
theorem findIdx_mid {α : Type} (p : α → Bool) (A : List α) (x : α) (C : List α) (hA : ∀ y ∈ A, p y = false) (hx : p x = true) : (A ++ x :: C).findIdx p = A.length := by
  induction A with
  | nil => simp [List.findIdx_cons, hx]
  | cons a t ih => rw [List.cons_append, List.findIdx_cons, hA a (by simp), ih (fun y hy => hA y (by simp [hy]))]; rfl
theorem modify_mid {α : Type} (A : List α) (x : α) (C : List α) (f : α → α) : (A ++ x :: C).modify A.length f = A ++ f x :: C := by
  induction A with
  | nil => rfl
  | cons a t ih => rw [List.cons_append, List.length_cons, List.modify_succ_cons, ih]; rfl
def cutP (p : Piece) (n : Nat) : Piece := { p with left := p.left - n }
theorem wrap_at (A M C : List (Piece × Option Nat)) (p q : Piece) (i k : Nat) (b : Bool) (hik : i ≠ k) (hA : ∀ x ∈ A, x.2 ≠ some i ∧ x.2 ≠ some k) (hM : ∀ x ∈ M, x.2 ≠ some k) :
    Spec.wrap (A ++ (p, some i) :: (M ++ (q, some k) :: C)) ⟨i, k, b⟩ = A ++ (cutP p (nOf b), some i) :: (Spec.plainP (.mk (if b = true then 14 else 13) [] [] [] (Spec.flat (M.map (·.1)))), none) :: (cutP q (nOf b), some k) :: C := by
  have fa : (A ++ (p, some i) :: (M ++ (q, some k) :: C)).findIdx (·.2 == some i) = A.length :=
    findIdx_mid _ _ _ _ (fun y hy => by simpa using (hA y hy).1) (by simp)
  have fb : (A ++ (p, some i) :: (M ++ (q, some k) :: C)).findIdx (·.2 == some k) = A.length + 1 + M.length := by
    have e : A ++ (p, some i) :: (M ++ (q, some k) :: C) = (A ++ (p, some i) :: M) ++ (q, some k) :: C := by simp
    rw [e, findIdx_mid]
    · simp; omega
    · intro y hy
      rcases List.mem_append.1 hy with h | h
      · simpa using (hA y h).2
      · rcases List.mem_cons.1 h with rfl | h
        · simpa using hik
        · simpa using hM y h
    · simp
  unfold Spec.wrap
  simp only [fa, fb]
  have e1 : (A ++ (p, some i) :: (M ++ (q, some k) :: C)).modify A.length (fun x => ({ x.1 with left := x.1.left - if b = true then 2 else 1 }, x.2)) = A ++ (cutP p (nOf b), some i) :: (M ++ (q, some k) :: C) := modify_mid _ _ _ _
  rw [e1]
  have e2 : (A ++ (cutP p (nOf b), some i) :: (M ++ (q, some k) :: C)).modify (A.length + 1 + M.length) (fun x => ({ x.1 with left := x.1.left - if b = true then 2 else 1 }, x.2)) = A ++ (cutP p (nOf b), some i) :: (M ++ (cutP q (nOf b), some k) :: C) := by
    have e : A ++ (cutP p (nOf b), some i) :: (M ++ (q, some k) :: C) = (A ++ (cutP p (nOf b), some i) :: M) ++ (q, some k) :: C := by simp
    have hl : A.length + 1 + M.length = (A ++ (cutP p (nOf b), some i) :: M).length := by simp; omega
    rw [e, hl, modify_mid]
    simp [cutP, nOf]
  rw [e2]
  have t1 : (A ++ (cutP p (nOf b), some i) :: (M ++ (cutP q (nOf b), some k) :: C)).take (A.length + 1) = A ++ [(cutP p (nOf b), some i)] := by
    have e : A ++ (cutP p (nOf b), some i) :: (M ++ (cutP q (nOf b), some k) :: C) = (A ++ [(cutP p (nOf b), some i)]) ++ (M ++ (cutP q (nOf b), some k) :: C) := by simp
    rw [e, List.take_left' (by simp)]
  have t2 : (A ++ (cutP p (nOf b), some i) :: (M ++ (cutP q (nOf b), some k) :: C)).drop (A.length + 1 + M.length) = (cutP q (nOf b), some k) :: C := by
    have e : A ++ (cutP p (nOf b), some i) :: (M ++ (cutP q (nOf b), some k) :: C) = (A ++ (cutP p (nOf b), some i) :: M) ++ (cutP q (nOf b), some k) :: C := by simp
    rw [e, List.drop_left' (by simp; omega)]
  have t3 : ((A ++ (p, some i) :: (M ++ (q, some k) :: C)).take (A.length + 1 + M.length)).drop (A.length + 1) = M := by
    have e : A ++ (p, some i) :: (M ++ (q, some k) :: C) = (A ++ (p, some i) :: M) ++ (q, some k) :: C := by simp
    have e3 : A ++ (p, some i) :: M = (A ++ [(p, some i)]) ++ M := by simp
    rw [e, List.take_left' (by simp; omega), e3, List.drop_left' (by simp)]
  rw [t1, t2, t3]
  simp
theorem addNode_empty (out : List Spec.Node) : Spec.addNode out (txt []) = out := by
  unfold Spec.addNode
  cases h : out.getLast? with
  | none =>
    rw [List.getLast?_eq_none_iff] at h
    subst h
    rfl
  | some k =>
    obtain ⟨a, rfl⟩ := List.getLast?_eq_some_iff.1 h
    simp only
    split
    · rw [List.dropLast_concat]
      congr 2
      cases k
      simp [Spec.Node.addText, txt, Spec.Node.text]
    · simp [txt, Spec.Node.kind, Spec.Node.text]
theorem plainP_node (n : Spec.Node) : (Spec.plainP n).asNode = n := rfl
theorem rawP_node (t : B) : (rawP t).asNode = txt t := rfl
theorem markP_zero (b o c : Bool) : (markP b o c 0).asNode = txt [] := rfl
theorem fin_flat (e : Nest) (i : Nat) (bk : Bool) (out : List Spec.Node) : ((e.fin i bk).map (·.1)).foldl (fun out p => Spec.addNode out p.asNode) out = Spec.addNode out e.node := by
  cases e with
  | word w => rfl
  | link im e => rfl
  | emph b e =>
    show Spec.addNode (Spec.addNode (Spec.addNode out (txt [])) (Nest.emph b e).node) (txt []) = _
    rw [addNode_empty, addNode_empty]
theorem node_kind (e : Nest) (h : e.isWord = false) : e.node.kind ≠ 10 := by
  cases e with
  | word w => cases h
  | link im e => cases im <;> (intro h; simp [Nest.node, Spec.Node.kind] at h)
  | emph b e => cases b <;> (intro h; simp [Nest.node, Spec.Node.kind] at h)
theorem flat_ends (pre post : B) (n : Spec.Node) (hn : n.kind ≠ 10) (h1 : pre ≠ []) (h2 : post ≠ []) : Spec.addNode (Spec.addNode (Spec.addNode [] (txt pre)) n) (txt post) = joinN pre n post := by
  unfold joinN
  rw [if_neg hn]
  simp [Spec.addNode, txt, Spec.Node.kind, Spec.Node.text, h1, h2]
  have h3 : ∀ n : Spec.Node, n.kind ≠ 10 → (Spec.Node.kind n = 10) = False := fun n h => eq_false h
  have hn' := h3 n hn
  unfold Spec.Node.kind at hn'
  simp [hn']
theorem flat_fin (e : Nest) (h : e.isWord = false) (i : Nat) (bk : Bool) (pre post : B) (h1 : pre ≠ []) (h2 : post ≠ []) :
    Spec.flat (((rawP pre, (none : Option Nat)) :: (e.fin i bk ++ [(rawP post, none)])).map (·.1)) = joinN pre e.node post := by
  unfold Spec.flat
  rw [List.map_cons, List.map_append, List.foldl_cons, List.foldl_append, fin_flat]
  exact flat_ends pre post e.node (node_kind e h) h1 h2
theorem flat_word (w pre post : B) (h : pre ++ w ++ post ≠ []) : Spec.flat [rawP (pre ++ w ++ post)] = joinN pre (txt w) post := by
  unfold Spec.flat joinN
  rw [List.foldl_cons, List.foldl_nil, rawP_node]
  have hk : (txt w).kind = 10 := rfl
  have ht : (txt w).text = w := rfl
  rw [if_pos hk, ht]
  have := addNode_one [] (pre ++ w ++ post)
  unfold one at this
  rw [if_pos rfl, List.nil_append, if_neg h] at this
  exact this
/-- Numbers that lie apart from some. -/
def Apart (L : List (Piece × Option Nat)) (i n : Nat) : Prop := ∀ x ∈ L, ∀ q, x.2 = some q → q < i ∨ i + n ≤ q
theorem wraps (e : Nest) : ∀ (bk : Bool) (i : Nat) (A C : List (Piece × Option Nat)), Apart A i (2 * e.deep) → Apart C i (2 * e.deep) →
    (e.prs i).foldl Spec.wrap (A ++ Spec.numbered i (e.pcs bk) ++ C) = A ++ e.fin i bk ++ C := by
  induction e with
  | word w => intro bk i A C _ _; rfl
  | link im e _ => intro bk i A C _ _; rfl
  | emph b e ih =>
    intro bk i A C hA hC
    have hd : (Nest.emph b e).deep = e.deep + 1 := rfl
    rw [hd] at hA hC
    have hn : nOf b - nOf b = 0 := Nat.sub_self _
    -- the whole list as an opener, what is within, a closer
    have hnum : ∀ (G : List Piece), G.filterMap (·.mark) = e.ms false → Spec.numbered i (markP b true bk (nOf b) :: (G ++ [markP b bk true (nOf b)])) = (markP b true bk (nOf b), some i) :: (Spec.numbered (i + 1) G ++ [(markP b bk true (nOf b), some (i + 2 * e.deep + 1))]) := fun G hG => by
      have e1 : ∀ n (p : Piece) t, p.mark ≠ none → Spec.numbered n (p :: t) = (p, some n) :: Spec.numbered (n + 1) t := fun n p t hp => by
        rw [Spec.numbered]
        cases hm : p.mark with
        | none => exact absurd hm hp
        | some m => rfl
      rw [e1 i _ _ (by simp [markP]), numbered_app, hG, ms_len, e1 _ _ _ (by simp [markP])]
      rw [show i + 1 + 2 * e.deep = i + 2 * e.deep + 1 by omega]
      rfl
    have hfin : ∀ M : List (Piece × Option Nat), (∀ x ∈ M, x.2 ≠ some (i + 2 * e.deep + 1)) → Spec.flat (M.map (·.1)) = joinN [120, 32] e.node [32, 121] →
        Spec.wrap (A ++ (markP b true bk (nOf b), some i) :: (M ++ (markP b bk true (nOf b), some (i + 2 * e.deep + 1)) :: C)) ⟨i, i + 2 * e.deep + 1, b⟩ = A ++ (Nest.emph b e).fin i bk ++ C := fun M hM hfl => by
      rw [wrap_at A M C _ _ i _ b (by omega) (fun x hx => ⟨fun h => by have := hA x hx i h; omega, fun h => by have := hA x hx _ h; omega⟩) hM, hfl]
      have c1 : ∀ o c, cutP (markP b o c (nOf b)) (nOf b) = markP b o c 0 := fun o c => by unfold cutP markP; rw [hn]
      rw [c1, c1]
      simp [Nest.fin, Nest.node]
    have hpcs : (Nest.emph b e).pcs bk = markP b true bk (nOf b) :: (grp [120, 32] e.isWord e.text (e.pcs false) [32, 121] ++ [markP b bk true (nOf b)]) := rfl
    have hprs : (Nest.emph b e).prs i = e.prs (i + 1) ++ [⟨i, i + 2 * e.deep + 1, b⟩] := rfl
    rw [hpcs, hprs, hnum _ (grp_marks e false _ _), List.foldl_append, List.foldl_cons, List.foldl_nil]
    cases hw : e.isWord with
    | true =>
      cases e with
      | emph b e => cases hw
      | link im e => cases hw
      | word w =>
        have h0 : (Nest.word w).prs (i + 1) = [] := rfl
        rw [h0, List.foldl_nil]
        have h1 : Spec.numbered (i + 1) (grp [120, 32] true (Nest.word w).text ((Nest.word w).pcs false) [32, 121]) = [(rawP ([120, 32] ++ w ++ [32, 121]), none)] := rfl
        rw [h1]
        have e2 : A ++ ((markP b true bk (nOf b), some i) :: ([(rawP ([120, 32] ++ w ++ [32, 121]), none)] ++ [(markP b bk true (nOf b), some (i + 2 * (Nest.word w).deep + 1))])) ++ C = A ++ (markP b true bk (nOf b), some i) :: ([(rawP ([120, 32] ++ w ++ [32, 121]), none)] ++ (markP b bk true (nOf b), some (i + 2 * (Nest.word w).deep + 1)) :: C) := by simp
        rw [e2]
        refine hfin _ (fun x hx => ?_) (flat_word w [120, 32] [32, 121] (by simp))
        simp only [List.mem_singleton] at hx
        subst hx
        simp
    | false =>
      have h1 : Spec.numbered (i + 1) (grp [120, 32] false e.text (e.pcs false) [32, 121]) = (rawP [120, 32], none) :: (Spec.numbered (i + 1) (e.pcs false) ++ [(rawP [32, 121], none)]) := by
        unfold grp
        rw [if_neg (by decide), numbered_raw, numbered_app]
        rfl
      rw [h1]
      have e2 : A ++ ((markP b true bk (nOf b), some i) :: ((rawP [120, 32], none) :: (Spec.numbered (i + 1) (e.pcs false) ++ [(rawP [32, 121], none)]) ++ [(markP b bk true (nOf b), some (i + 2 * e.deep + 1))])) ++ C =
          (A ++ [(markP b true bk (nOf b), some i), (rawP [120, 32], none)]) ++ Spec.numbered (i + 1) (e.pcs false) ++ ((rawP [32, 121], none) :: (markP b bk true (nOf b), some (i + 2 * e.deep + 1)) :: C) := by simp
      rw [e2, ih false (i + 1) _ _ ?_ ?_]
      · have e3 : (A ++ [(markP b true bk (nOf b), some i), (rawP [120, 32], none)]) ++ e.fin (i + 1) false ++ ((rawP [32, 121], none) :: (markP b bk true (nOf b), some (i + 2 * e.deep + 1)) :: C) =
            A ++ (markP b true bk (nOf b), some i) :: (((rawP [120, 32], none) :: (e.fin (i + 1) false ++ [(rawP [32, 121], none)])) ++ (markP b bk true (nOf b), some (i + 2 * e.deep + 1)) :: C) := by simp
        rw [e3]
        refine hfin _ (fun x hx => ?_) (flat_fin e hw (i + 1) false [120, 32] [32, 121] (by simp) (by simp))
        rcases List.mem_cons.1 hx with rfl | hx
        · simp
        · rcases List.mem_append.1 hx with hx | hx
          · cases e with
            | word w => cases hw
            | link im e =>
              simp only [Nest.fin, List.mem_singleton] at hx
              subst hx
              simp
            | emph b2 ee =>
              simp only [Nest.fin, List.mem_cons, List.not_mem_nil, or_false] at hx
              have hdd : (Nest.emph b2 ee).deep = ee.deep + 1 := rfl
              rw [hdd]
              rcases hx with rfl | rfl | rfl
              · simp <;> omega
              · simp
              · simp <;> omega
          · simp only [List.mem_singleton] at hx
            subst hx
            simp
      · intro x hx q hq
        rcases List.mem_append.1 hx with hx | hx
        · have := hA x hx q hq; omega
        · simp only [List.mem_cons, List.not_mem_nil, or_false] at hx
          rcases hx with rfl | rfl
          · obtain rfl := Option.some.inj hq; omega
          · cases hq
      · intro x hx q hq
        simp only [List.mem_cons] at hx
        rcases hx with rfl | rfl | hx
        · cases hq
        · obtain rfl := Option.some.inj hq; omega
        · have := hC x hx q hq; omega
theorem nodes_grp (e : Nest) (bk : Bool) (pre post : B) (h1 : pre ≠ []) (h2 : post ≠ []) : Spec.nodes (grp pre e.isWord e.text (e.pcs bk) post) = joinN pre e.node post := by
  unfold Spec.nodes
  rw [grp_marks, matches_nest]
  cases hw : e.isWord with
  | true =>
    cases e with
    | emph b e => cases hw
    | link im e => cases hw
    | word w => exact flat_word w pre post (by simp [h1])
  | false =>
    have h3 : Spec.numbered 0 (grp pre false e.text (e.pcs bk) post) = [(rawP pre, none)] ++ Spec.numbered 0 (e.pcs bk) ++ [(rawP post, none)] := by
      unfold grp
      rw [if_neg (by decide), numbered_raw, numbered_app]
      rfl
    rw [h3, wraps e bk 0 _ _ (fun x hx q hq => by simp only [List.mem_singleton] at hx; subst hx; cases hq) (fun x hx q hq => by simp only [List.mem_singleton] at hx; subst hx; cases hq)]
    exact flat_fin e hw 0 bk pre post h1 h2
theorem nodes_top (e : Nest) (he : e.ok) : Spec.nodes (e.pcs false) = [e.node] := by
  unfold Spec.nodes
  rw [pcs_marks, matches_nest]
  have := wraps e false 0 [] [] (fun x hx => absurd hx (by simp)) (fun x hx => absurd hx (by simp))
  rw [List.nil_append, List.append_nil, List.nil_append, List.append_nil] at this
  rw [this]
  unfold Spec.flat
  rw [fin_flat]
  cases e with
  | word w =>
    have := addNode_one [] w
    unfold one at this
    rw [if_pos rfl, List.nil_append, if_neg he.1] at this
    exact this
  | link im e =>
    have hk := node_kind (Nest.link im e) rfl
    unfold Spec.addNode
    simp only [List.getLast?_nil]
    rw [if_pos (Or.inl hk)]
  | emph b e =>
    have hk := node_kind (Nest.emph b e) rfl
    unfold Spec.addNode
    simp only [List.getLast?_nil]
    rw [if_pos (Or.inl hk)]

/-! ### parsing -/
theorem drop_at_data (s : ByteArray) (pos : Nat) (h : pos < s.size) : s.data.toList.drop pos = (s[pos]'h) :: s.data.toList.drop (pos + 1) := by
  rw [List.drop_eq_getElem_cons (by simpa using h)]; rfl
theorem lastFrom_ascii (s : ByteArray) (ha : ∀ (j : Nat) (h : j < s.size), (s[j]'h).toNat < 128) : ∀ f pos acc, pos < s.size → s.size - pos ≤ f → lastFrom s f pos acc = (s.data.toList.getLast?.map (·.toNat)).getD 10
  | 0, pos, acc, h, hf => by omega
  | f + 1, pos, acc, h, hf => by
    rw [lastFrom, if_pos h, Go.decode_ascii s pos h (ha pos h)]
    simp only
    by_cases h2 : pos + 1 < s.size
    · exact lastFrom_ascii s ha f _ _ h2 (by omega)
    · rw [lastFrom_end _ _ _ _ (by omega)]
      have hs : s.size = pos + 1 := by omega
      have hl : s.data.toList.length = pos + 1 := by rw [← Lib.size_eq, hs]
      rw [List.getLast?_eq_getElem?, hl, Nat.add_sub_cancel, List.getElem?_eq_getElem (by omega)]
      rfl
theorem lastR_ascii (l : B) (ha : ∀ c ∈ l, c.toNat < 128) : lastR (last16 ⟨l.toArray⟩) = (l.getLast?.map (·.toNat)).getD 10 := by
  obtain ⟨u, hu⟩ : ∃ u, u = last16 ⟨l.toArray⟩ := ⟨_, rfl⟩
  have hd : u.data.toList = l.drop (l.length - 16) := by
    rw [hu]
    unfold last16
    rw [Lib.extract_data]
    have : (⟨l.toArray⟩ : ByteArray).size = l.length := by simp [ByteArray.size]
    rw [this]
    show (l.drop (l.length - 16)).take _ = _
    rw [List.take_of_length_le (by rw [List.length_drop]; omega)]
  rw [← hu]
  have hsz : u.size = (l.drop (l.length - 16)).length := by rw [Lib.size_eq, hd]
  unfold lastR
  by_cases h0 : 0 < u.size
  · rw [lastFrom_ascii u (fun j h => by
      have hm : u[j] ∈ u.data.toList := by
        exact List.getElem_mem (l := u.data.toList) (n := j) (by simpa using h)
      rw [hd] at hm
      exact ha _ (List.mem_of_mem_drop hm)) _ _ _ h0 (by omega), hd]
    rw [List.getLast?_drop, if_neg]
    rw [hsz, List.length_drop] at h0
    omega
  · have hl : l = [] := by
      rw [hsz, List.length_drop] at h0
      cases l with
      | nil => rfl
      | cons a t => simp at h0; omega
    subst hl
    rw [lastFrom_end _ _ _ _ (by omega)]
    rfl
theorem firstR_ascii (l : B) (ha : ∀ c, l.head? = some c → c.toNat < 128) : firstR ⟨l.toArray⟩ = (l.head?.map (·.toNat)).getD 10 := by
  cases l with
  | nil => rfl
  | cons c t =>
    unfold firstR
    have h : 0 < (⟨(c :: t).toArray⟩ : ByteArray).size := by simp [ByteArray.size]
    rw [if_pos h, Go.decode_ascii _ 0 h (ha c rfl)]
    rfl
end Go.Proofs.YtmplfiflikhpjaaGreatDoor.Pl
