/- What the printer of terms computes, in plain Lean. -/
import Derived.Test.YtebdikbngnolbaaDoorModel
import Derived.Lib.ItoaNum
namespace Go.Proofs.YtebdikbngnolbaaDoor.Txt
set_option linter.unusedVariables false

/-- 'strconv.FormatInt(n, 16)' below 256. -/
def hexd (n : Nat) : UInt8 := if n < 10 then UInt8.ofNat (48 + n) else UInt8.ofNat (87 + n)
def hexT (n : Nat) : List UInt8 := if n < 16 then [hexd n] else [hexd (n / 16), hexd (n % 16)]

/-- How a rune stands in quotes. -/
def piece (r : Nat) : List UInt8 :=
  if r = 39 ∨ r = 92 then 92 :: (Utf8.encode (r : Int)).data.toList
  else if escape r ≠ 0 then [92, UInt8.ofNat (escape r)]
  else if r < 32 ∨ (128 ≤ r ∧ r < 160) then [92, 120, 123] ++ hexT r ++ [125]
  else (Utf8.encode (r : Int)).data.toList
def piecesF (s : ByteArray) : Nat → Nat → List UInt8
  | 0, _ => []
  | k + 1, p => if p < s.size then piece (Utf8.decode s p).1 ++ piecesF s k (p + (Utf8.decode s p).2) else []
def bare (s : ByteArray) : Bool := decide (s.size ≠ 0) && decide (s.size ≤ 255) && decide (runEnd s 0 = s.size) && !reserved s.data.toList
/-- An atom's text; an error. -/
def quote (s : ByteArray) : List UInt8 × Int :=
  if atomOk s then (if bare s then (s.data.toList, 0) else (39 :: (piecesF s s.size 0 ++ [39]), 0)) else ([], 20)

/-- A binary's text. -/
def plainB (l : List UInt8) : Bool := decide (l ≠ []) && l.all fun c => decide (32 ≤ c.toNat) && decide (c.toNat ≤ 126)
def slashed (l : List UInt8) : List UInt8 := l.flatMap fun c => if c = 34 ∨ c = 92 then [92, c] else [c]
def commas : List UInt8 → List UInt8
  | [] => []
  | c :: l => Lib.decDigits c.toNat ++ l.flatMap fun d => 44 :: Lib.decDigits d.toNat
def shown (l : List UInt8) : List UInt8 := if plainB l then [60, 60, 34] ++ slashed l ++ [34, 62, 62] else [60, 60] ++ commas l ++ [62, 62]

def leaf (c : Cl) : List UInt8 :=
  if c.kind = 1 then Lib.itoa c.n
  else if c.kind = 2 then (quote c.text).1
  else if c.kind = 3 then [35, 82, 101, 102, 60] ++ Lib.itoa c.n ++ [62]
  else if c.kind = 4 then [60] ++ Lib.itoa c.n ++ [62]
  else if c.kind = 6 then [91, 93]
  else if c.kind = 5 then [123, 125]
  else shown c.text.data.toList

/-- What is open: how many elements are to come; a list?; does its tail come? -/
structure Opn where
  left : Int
  list : Bool
  tail : Bool

/-- The stack has its top ahead. -/
def closed : List Opn → List UInt8 × List Opn
  | [] => ([], [])
  | o :: st =>
    if o.list && !o.tail then ([], { o with tail := true } :: st)
    else if o.list then (93 :: (closed st).1, (closed st).2)
    else if o.left > 1 then ([44], { o with left := o.left - 1 } :: st)
    else (125 :: (closed st).1, (closed st).2)

/-- One cell: what is written, the stack behind it. -/
def printC (c : Cl) (st : List Opn) : List UInt8 × List Opn :=
  let plain (pre : List UInt8) (st : List Opn) : List UInt8 × List Opn :=
    if c.kind = 7 then (pre ++ [91], ⟨0, true, false⟩ :: st)
    else if c.kind = 5 ∧ c.n > 0 then (pre ++ [123], ⟨c.n, false, false⟩ :: st)
    else (pre ++ leaf c ++ (closed st).1, (closed st).2)
  match st with
  | [] => plain [] []
  | o :: r =>
    if o.tail then
      if c.kind = 7 then ([44], { o with tail := false } :: r)
      else if c.kind = 6 then (93 :: (closed r).1, (closed r).2)
      else plain [124] (o :: r)
    else plain [] (o :: r)

def printF : List Cl → List UInt8 → List Opn → Option (List UInt8)
  | [], b, _ => if b.length > 65536 then none else some b
  | c :: t, b, st => if b.length > 65536 then none else printF t (b ++ (printC c st).1) (printC c st).2
def print (t : List Cl) : List UInt8 × Int :=
  if (right t).1 ≠ 0 then ([], (right t).1) else
  match printF t [] [] with
  | none => ([], 4)
  | some b => (b, 0)

end Go.Proofs.YtebdikbngnolbaaDoor.Txt
