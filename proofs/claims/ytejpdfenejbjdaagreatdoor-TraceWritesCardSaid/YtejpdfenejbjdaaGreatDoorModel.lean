/- What the parser of terms computes, in plain Lean: no program, no memory. -/
import GoSem.Core.Utf8
namespace Go.Proofs.YtejpdfenejbjdaaGreatDoor.Txt

def at? (s : ByteArray) (p : Nat) : Option UInt8 := if h : p < s.size then some s[p] else none

/-- The first place from p on whose byte is not of a kind. -/
def spanF (f : UInt8 → Bool) (s : ByteArray) : Nat → Nat → Nat
  | 0, p => p
  | k + 1, p => if h : p < s.size then (if f s[p] then spanF f s k (p + 1) else p) else p
def span (f : UInt8 → Bool) (s : ByteArray) (p : Nat) : Nat := spanF f s (s.size - p) p

def blankB (c : UInt8) : Bool := c == 32 || c == 10 || c == 9 || c == 13
def digitB (c : UInt8) : Bool := decide (48 ≤ c.toNat) && decide (c.toNat ≤ 57)
def smallB (c : UInt8) : Bool := decide (97 ≤ c.toNat) && decide (c.toNat ≤ 122)
def insideB (c : UInt8) : Bool := smallB c || (decide (65 ≤ c.toNat) && decide (c.toNat ≤ 90)) || digitB c || c == 95 || c == 64

def skip (s : ByteArray) (p : Nat) : Nat := span blankB s p
def digitsEnd (s : ByteArray) (p : Nat) : Nat := span digitB s p

/-- Does a sign stand at a place? -/
def starts (s : ByteArray) (p : Nat) : List UInt8 → Bool
  | [] => true
  | c :: l => decide (at? s p = some c) && starts s (p + 1) l
/-- How many bytes of a sign stand at a place. -/
def common (s : ByteArray) (p : Nat) : List UInt8 → Nat
  | [] => 0
  | c :: l => if at? s p = some c then common s (p + 1) l + 1 else 0

/-- The number that digits write. -/
def numOf (l : List UInt8) : Nat := l.foldl (fun n c => n * 10 + (c.toNat - 48)) 0

structure Cl where
  kind : Int
  n : Int
  text : ByteArray

inductive PR (α : Type) where
  | ok (v : α) (p : Nat)
  | bad (e : Int) (p : Nat)

def cut (s : ByteArray) (p q : Nat) : List UInt8 := (s.extract p q).data.toList
def bytes (l : List UInt8) : ByteArray := ⟨l.toArray⟩

def want (s : ByteArray) (p : Nat) (sign : List UInt8) : PR Unit :=
  if starts s (skip s p) sign then .ok () (skip s p + sign.length) else .bad 70 (skip s p + common s (skip s p) sign)

def whole (s : ByteArray) (p : Nat) : PR (List Cl) :=
  let neg := decide (at? s p = some 45)
  let q := if neg then p + 1 else p
  let r := digitsEnd s q
  if r = q then .bad 70 q
  else if numOf (cut s q r) > 9223372036854775808 ∨ (numOf (cut s q r) = 9223372036854775808 ∧ neg = false) then .bad 7 p
  else .ok [⟨1, if neg then -(numOf (cut s q r) : Int) else (numOf (cut s q r) : Int), .empty⟩] r

def idMost (kind : Int) : Nat := if kind = 3 then 281474976710656 else 1099511627776
def ident (s : ByteArray) (kind : Int) (start p : Nat) : PR (List Cl) :=
  let q := skip s p
  let r := digitsEnd s q
  if r = q then .bad 70 q
  else if numOf (cut s q r) < 1 ∨ numOf (cut s q r) > idMost kind then .bad 1 start
  else match want s r [62] with
    | .bad e a => .bad e a
    | .ok _ z => .ok [⟨kind, (numOf (cut s q r) : Int), .empty⟩] z

def quotedF (s : ByteArray) : Nat → Nat → List UInt8 → PR (List UInt8)
  | 0, _, _ => .bad 70 s.size
  | k + 1, p, acc => match at? s p with
    | none => .bad 70 s.size
    | some c =>
      if c = 34 then .ok acc (p + 1)
      else if c = 92 then match at? s (p + 1) with
        | none => .bad 70 s.size
        | some d => if d = 34 ∨ d = 92 then quotedF s k (p + 2) (acc ++ [d]) else .bad 70 p
      else quotedF s k (p + 1) (acc ++ [c])
/-- From the opening sign on. -/
def quoted (s : ByteArray) (p : Nat) : PR (List UInt8) := quotedF s (s.size - p) (p + 1) []

def bytesF (s : ByteArray) : Nat → Nat → List UInt8 → PR (List UInt8)
  | 0, p, _ => .bad 70 p
  | k + 1, p, acc =>
    let q := skip s p
    let r := digitsEnd s q
    if r = q then .bad 70 q
    else if numOf (cut s q r) > 255 then .bad 1 q
    else if at? s (skip s r) = some 44 then bytesF s k (skip s r + 1) (acc ++ [(numOf (cut s q r)).toUInt8])
    else match want s (skip s r) [62, 62] with
      | .bad e a => .bad e a
      | .ok _ z => .ok (acc ++ [(numOf (cut s q r)).toUInt8]) z

def binBytes (s : ByteArray) (p : Nat) : PR (List UInt8) :=
  let q := skip s p
  if at? s q = some 34 then match quoted s q with
    | .bad e a => .bad e a
    | .ok b r => match want s r [62, 62] with
      | .bad e a => .bad e a
      | .ok _ z => .ok b z
  else if starts s q [62, 62] then .ok [] (q + 2)
  else bytesF s (s.size - q + 1) q []
def binary (s : ByteArray) (start p : Nat) : PR (List Cl) :=
  match binBytes s p with
  | .bad e a => .bad e a
  | .ok b z => if b.length > 1024 then .bad 4 start else .ok [⟨8, 0, bytes b⟩] z

/-! atoms -/
def escape (r : Nat) : Nat :=
  if r = 8 then 98 else if r = 9 then 116 else if r = 10 then 110 else if r = 11 then 118 else if r = 12 then 102 else if r = 13 then 114 else if r = 27 then 101 else if r = 127 then 100 else 0
def unescape (c : Nat) : Option Nat :=
  if c = 115 then some 32 else if c = 98 then some 8 else if c = 116 then some 9 else if c = 110 then some 10 else if c = 118 then some 11 else if c = 102 then some 12
  else if c = 114 then some 13 else if c = 101 then some 27 else if c = 100 then some 127 else none

def words : List (List UInt8) :=
  [[97, 102, 116, 101, 114], [97, 110, 100], [97, 110, 100, 97, 108, 115, 111], [98, 97, 110, 100], [98, 101, 103, 105, 110], [98, 110, 111, 116], [98, 111, 114], [98, 115, 108], [98, 115, 114], [98, 120, 111, 114], [99, 97, 115, 101], [99, 97, 116, 99, 104], [99, 111, 110, 100], [100, 105, 118], [101, 108, 115, 101], [101, 110, 100], [102, 117, 110], [105, 102], [108, 101, 116], [109, 97, 121, 98, 101], [110, 111, 116], [111, 102], [111, 114], [111, 114, 101, 108, 115, 101], [114, 101, 99, 101, 105, 118, 101], [114, 101, 109], [116, 114, 121], [119, 104, 101, 110], [120, 111, 114]]
def reserved (l : List UInt8) : Bool := words.contains l

def runEnd (s : ByteArray) (p : Nat) : Nat := if h : p < s.size then (if smallB s[p] then span insideB s p else p) else p

/-- Right UTF-8, rune by rune. -/
def spelledF (s : ByteArray) : Nat → Nat → Bool
  | 0, _ => true
  | k + 1, p => if p < s.size then (if (Utf8.decode s p).1 = 65533 ∧ (Utf8.decode s p).2 = 1 then false else spelledF s k (p + (Utf8.decode s p).2)) else true
def spelled (s : ByteArray) : Bool := spelledF s s.size 0
/-- Can a text be an atom? -/
def atomOk (s : ByteArray) : Bool := decide (s.size ≤ 255) && spelled s

/-- The state of an atom's reader: the place, what is written, is it bad? -/
structure AS where
  p : Nat
  out : List UInt8
  bad : Bool

def lowerC (c : UInt8) : UInt8 := if 65 ≤ c.toNat ∧ c.toNat ≤ 90 then c + 32 else c
def hexVal (c : UInt8) : Option Nat :=
  let d := lowerC c
  if digitB d then some (d.toNat - 48) else if 97 ≤ d.toNat ∧ d.toNat ≤ 102 then some (d.toNat - 87) else none
def digVal (base : Nat) (c : UInt8) : Option Nat := (hexVal c).bind fun d => if d < base then some d else none

def putA (x : AS) (n : Nat) : AS :=
  if n > 1114111 ∨ (55296 ≤ n ∧ n < 57344) then { x with bad := true } else { x with out := x.out ++ (Utf8.encode n).data.toList }
/-- Digits: from a place, at most so many: how many, the number, the place behind them. -/
def digitsF (s : ByteArray) (base : Nat) : Nat → Nat → Nat → Nat → Nat × Nat × Nat
  | 0, p, n, k => (k, n, p)
  | m + 1, p, n, k => match (at? s p).bind (digVal base) with
    | none => (k, n, p)
    | some d => digitsF s base m (p + 1) (min (n * base + d) 4294967296) (k + 1)
def digitsA (s : ByteArray) (x : AS) (base least most : Nat) : Option AS :=
  let r := digitsF s base most x.p 0 0
  if r.1 < least then none else some (putA { x with p := r.2.2 } r.2.1)
def hexA (s : ByteArray) (x : AS) : Option AS :=
  if at? s x.p = some 123 then
    match digitsA s { x with p := x.p + 1 } 16 1 s.size with
    | none => none
    | some y => if at? s y.p = some 125 then some { y with p := y.p + 1 } else none
  else digitsA s x 16 2 2
def controlA (s : ByteArray) (x : AS) : Option AS :=
  match at? s x.p with
  | none => none
  | some c =>
    let d := if smallB c then c.toNat - 32 else c.toNat
    if d < 64 ∨ d > 95 then none else some (putA { x with p := x.p + 1 } (d - 64))
def specialA (s : ByteArray) (x : AS) : Option AS :=
  if x.p < s.size then
    let d := Utf8.decode s x.p
    if d.1 = 65533 ∧ d.2 < 2 then none
    else if d.1 = 120 then hexA s { x with p := x.p + 1 }
    else if d.1 = 94 then controlA s { x with p := x.p + 1 }
    else if 48 ≤ d.1 ∧ d.1 ≤ 55 then digitsA s x 8 1 3
    else
      let c := if d.2 = 1 then (unescape d.1).getD d.1 else d.1
      some { x with p := x.p + d.2, out := x.out ++ (Utf8.encode c).data.toList }
  else none
def quotedAF (s : ByteArray) : Nat → AS → Option AS
  | 0, _ => none
  | k + 1, x =>
    if x.p < s.size then
      let d := Utf8.decode s x.p
      if d.1 = 65533 ∧ d.2 < 2 then none
      else if d.1 = 39 then some { x with p := x.p + d.2 }
      else if d.1 = 92 then
        match specialA s { x with p := x.p + d.2 } with
        | none => none
        | some y => quotedAF s k y
      else quotedAF s k { x with p := x.p + d.2, out := x.out ++ (Utf8.encode d.1).data.toList }
    else none

/-- The atom that begins at a place. -/
def scan (s : ByteArray) (p : Nat) : PR ByteArray :=
  if at? s p = some 39 then
    match quotedAF s (s.size - p) ⟨p + 1, [], false⟩ with
    | none => .bad 70 p
    | some y => if y.bad || !atomOk (bytes y.out) then .bad 20 p else .ok (bytes y.out) y.p
  else if runEnd s p = p ∨ reserved (cut s p (runEnd s p)) = true then .bad 70 p
  else if runEnd s p - p > 255 then .bad 20 p
  else .ok (s.extract p (runEnd s p)) (runEnd s p)

def strCells : List UInt8 → List Cl
  | [] => [⟨6, 0, .empty⟩]
  | c :: l => ⟨7, 0, .empty⟩ :: ⟨1, (c.toNat : Int), .empty⟩ :: strCells l

mutual
def term : Nat → ByteArray → Nat → PR (List Cl)
  | 0, _, p => .bad 70 p
  | k + 1, s, p =>
    match at? s (skip s p) with
    | none => .bad 70 (skip s p)
    | some c =>
      if c = 34 then match quoted s (skip s p) with
        | .bad e a => .bad e a
        | .ok b r => .ok (strCells b) r
      else if c = 45 ∨ digitB c = true then whole s (skip s p)
      else if starts s (skip s p) [60, 60] then binary s (skip s p) (skip s p + 2)
      else if c = 60 then ident s 4 (skip s p) (skip s p + 1)
      else if c = 35 then match want s (skip s p) [35, 82, 101, 102] with
        | .bad e a => .bad e a
        | .ok _ r => match want s r [60] with
          | .bad e a => .bad e a
          | .ok _ z => ident s 3 (skip s p) z
      else if c = 123 then
        if starts s (skip s (skip s p + 1)) [125] then .ok [⟨5, 0, .empty⟩] (skip s (skip s p + 1) + 1)
        else tupleL k s (skip s (skip s p + 1)) [] 0
      else if c = 91 then
        if starts s (skip s (skip s p + 1)) [93] then .ok [⟨6, 0, .empty⟩] (skip s (skip s p + 1) + 1)
        else listL k s (skip s (skip s p + 1)) []
      else match scan s (skip s p) with
        | .bad e _ => .bad e (skip s p)
        | .ok b r => .ok [⟨2, 0, b⟩] r
def tupleL : Nat → ByteArray → Nat → List Cl → Nat → PR (List Cl)
  | 0, _, p, _, _ => .bad 70 p
  | k + 1, s, p, acc, n =>
    match term k s p with
    | .bad e a => .bad e a
    | .ok t q =>
      if at? s (skip s q) = some 125 then
        if n + 1 > 255 then .bad 70 (skip s q) else .ok (⟨5, (n + 1 : Nat), .empty⟩ :: (acc ++ t)) (skip s q + 1)
      else match want s (skip s q) [44] with
        | .bad e a => .bad e a
        | .ok _ z => tupleL k s z (acc ++ t) (n + 1)
def listL : Nat → ByteArray → Nat → List Cl → PR (List Cl)
  | 0, _, p, _ => .bad 70 p
  | k + 1, s, p, acc =>
    match term k s p with
    | .bad e a => .bad e a
    | .ok t q =>
      if at? s (skip s q) = some 93 then .ok (acc ++ [⟨7, 0, .empty⟩] ++ t ++ [⟨6, 0, .empty⟩]) (skip s q + 1)
      else if at? s (skip s q) = some 124 then
        match term k s (skip s q + 1) with
        | .bad e a => .bad e a
        | .ok u r => match want s r [93] with
          | .bad e a => .bad e a
          | .ok _ z => .ok (acc ++ [⟨7, 0, .empty⟩] ++ t ++ u) z
      else match want s (skip s q) [44] with
        | .bad e a => .bad e a
        | .ok _ z => listL k s z (acc ++ [⟨7, 0, .empty⟩] ++ t)
end

/-- Fuel that is enough. -/
def fuel (s : ByteArray) (p : Nat) : Nat := 2 * (s.size - p) + 2

/-- Parse: the term, the error, the place. -/
def parse (s : ByteArray) : List Cl × Int × Nat :=
  if s.size > 65536 then ([], 4, 0) else
  match term (fuel s 0) s 0 with
  | .bad e a => ([], e, a)
  | .ok t q => if skip s q < s.size then ([], 70, skip s q) else if t.length > 1024 then ([], 7, 0) else (t, 0, 0)

def parseAllF (s : ByteArray) : Nat → Nat → List (List Cl) → List (List Cl) × Int × Nat
  | 0, p, _ => ([], 70, p)
  | k + 1, p, acc =>
    if skip s p < s.size then
      match term (fuel s (skip s p)) s (skip s p) with
      | .bad e a => ([], e, a)
      | .ok t q => match want s q [46] with
        | .bad e a => ([], e, a)
        | .ok _ z => if t.length > 1024 then ([], 7, skip s p) else parseAllF s k z (acc ++ [t])
    else (acc, 0, 0)
def parseAll (s : ByteArray) : List (List Cl) × Int × Nat :=
  if s.size > 65536 then ([], 4, 0) else parseAllF s (s.size + 1) 0 []

end Go.Proofs.YtejpdfenejbjdaaGreatDoor.Txt

namespace Go.Proofs.YtejpdfenejbjdaaGreatDoor.Txt

theorem at?_lt {s : ByteArray} {p : Nat} (h : p < s.size) : at? s p = some s[p] := by simp [at?, h]
theorem at?_ge {s : ByteArray} {p : Nat} (h : s.size ≤ p) : at? s p = none := by simp [at?]; omega
theorem at?_some {s : ByteArray} {p : Nat} {c : UInt8} (h : at? s p = some c) : ∃ hp : p < s.size, s[p] = c := by
  unfold at? at h
  split at h
  · exact ⟨by assumption, by simpa using h⟩
  · cases h

theorem span_yes {f : UInt8 → Bool} {s : ByteArray} {p : Nat} (h : p < s.size) (hf : f s[p] = true) : span f s p = span f s (p + 1) := by
  unfold span
  rw [show s.size - p = (s.size - (p + 1)) + 1 by omega]
  simp [spanF, h, hf]
theorem span_no {f : UInt8 → Bool} {s : ByteArray} {p : Nat} (h : p < s.size) (hf : f s[p] = false) : span f s p = p := by
  unfold span
  rw [show s.size - p = (s.size - (p + 1)) + 1 by omega]
  simp [spanF, h, hf]
theorem span_end {f : UInt8 → Bool} {s : ByteArray} {p : Nat} (h : s.size ≤ p) : span f s p = p := by
  unfold span
  rw [show s.size - p = 0 by omega]
  rfl
theorem span_ge (f : UInt8 → Bool) (s : ByteArray) : ∀ (d p : Nat), s.size - p = d → p ≤ span f s p ∧ (p ≤ s.size → span f s p ≤ s.size) ∧ (∀ h : span f s p < s.size, f s[span f s p] = false) ∧ (∀ q, p ≤ q → (hq : q < span f s p) → ∃ h : q < s.size, f s[q] = true) := by
  intro d
  induction d with
  | zero =>
    intro p hd
    have e : span f s p = p := span_end (by omega)
    refine ⟨by omega, by omega, fun h => by rw [e] at h; omega, fun q h1 h2 => by omega⟩
  | succ d ih =>
    intro p hd
    have hp : p < s.size := by omega
    cases hf : f s[p] with
    | true =>
      obtain ⟨h1, h2, h3, h4⟩ := ih (p + 1) (by omega)
      have e := span_yes (f := f) hp hf
      refine ⟨by omega, fun _ => by rw [e]; exact h2 (by omega), ?_, ?_⟩
      · intro h; simp only [e]; exact h3 (by rw [← e]; exact h)
      · intro q hq1 hq2
        by_cases hq : q = p
        · subst hq; exact ⟨hp, hf⟩
        · exact h4 q (by omega) (by rw [← e]; exact hq2)
    | false =>
      have e := span_no (f := f) hp hf
      refine ⟨by omega, by omega, fun h => by simp only [e]; exact hf, fun q h1 h2 => by omega⟩
theorem le_span (f : UInt8 → Bool) (s : ByteArray) (p : Nat) : p ≤ span f s p := (span_ge f s _ p rfl).1
theorem span_le {f : UInt8 → Bool} {s : ByteArray} {p : Nat} (h : p ≤ s.size) : span f s p ≤ s.size := (span_ge f s _ p rfl).2.1 h
theorem span_stop {f : UInt8 → Bool} {s : ByteArray} {p : Nat} (h : span f s p < s.size) : f s[span f s p] = false := (span_ge f s _ p rfl).2.2.1 h
theorem span_in {f : UInt8 → Bool} {s : ByteArray} {p q : Nat} (h1 : p ≤ q) (h2 : q < span f s p) : ∃ h : q < s.size, f s[q] = true := (span_ge f s _ p rfl).2.2.2 q h1 h2
theorem le_skip (s : ByteArray) (p : Nat) : p ≤ skip s p := le_span _ _ _
theorem skip_le {s : ByteArray} {p : Nat} (h : p ≤ s.size) : skip s p ≤ s.size := span_le h
theorem le_digitsEnd (s : ByteArray) (p : Nat) : p ≤ digitsEnd s p := le_span _ _ _
theorem digitsEnd_le {s : ByteArray} {p : Nat} (h : p ≤ s.size) : digitsEnd s p ≤ s.size := span_le h

theorem starts_le {s : ByteArray} {l : List UInt8} : ∀ {p : Nat}, p ≤ s.size → starts s p l = true → p + l.length ≤ s.size := by
  induction l with
  | nil => intro p hp _; simpa using hp
  | cons c l ih =>
    intro p hp h
    simp only [starts, Bool.and_eq_true, decide_eq_true_eq] at h
    obtain ⟨h1, -⟩ := at?_some h.1
    have := ih (p := p + 1) (by omega) h.2
    simp; omega
theorem common_le {s : ByteArray} {l : List UInt8} : ∀ {p : Nat}, p ≤ s.size → p + common s p l ≤ s.size ∧ common s p l ≤ l.length := by
  induction l with
  | nil => intro p hp; simp [common]; exact hp
  | cons c l ih =>
    intro p hp
    by_cases h : at? s p = some c
    · obtain ⟨h1, -⟩ := at?_some h
      have := ih (p := p + 1) (by omega)
      simp only [common, h, if_true]; simp; omega
    · simp only [common, h, if_false]; simp; omega
theorem common_all {s : ByteArray} {l : List UInt8} : ∀ {p : Nat}, (common s p l = l.length ↔ starts s p l = true) := by
  induction l with
  | nil => intro p; simp [common, starts]
  | cons c l ih =>
    intro p
    by_cases h : at? s p = some c
    · simp only [common, h, if_true, starts]; simp [ih]
    · simp only [common, h, if_false, starts]; simp
theorem starts_take {s : ByteArray} {l : List UInt8} : ∀ {p k : Nat}, k ≤ l.length → (starts s p (l.take k) = true ↔ k ≤ common s p l) := by
  induction l with
  | nil => intro p k hk; simp at hk; subst hk; simp [starts, common]
  | cons c l ih =>
    intro p k hk
    cases k with
    | zero => simp [starts]
    | succ k =>
      by_cases h : at? s p = some c
      · simp only [List.take_succ_cons, starts, h, common, if_true]; simp at hk; simp [ih hk]
      · simp only [List.take_succ_cons, starts, h, common, if_false]; simp
end Go.Proofs.YtejpdfenejbjdaaGreatDoor.Txt
namespace Go.Proofs.YtejpdfenejbjdaaGreatDoor.Txt
theorem at?_list (s : ByteArray) (p : Nat) : at? s p = s.data.toList[p]? := by
  unfold at?
  split
  · rename_i h
    have h' : p < s.data.toList.length := by simpa using h
    rw [List.getElem?_eq_getElem h']; rfl
  · rename_i h
    rw [List.getElem?_eq_none (by simpa using h)]
theorem starts_prefix (s : ByteArray) (l : List UInt8) : ∀ p : Nat, starts s p l = l.isPrefixOf (s.data.toList.drop p) := by
  induction l with
  | nil => intro p; simp [starts]
  | cons c l ih =>
    intro p
    simp only [starts, ih, at?_list]
    cases hd : s.data.toList.drop p with
    | nil =>
      have hn : s.data.toList[p]? = none := by
        rw [List.getElem?_eq_none]; simpa using hd
      rw [hn]; simp
    | cons d m =>
      have hn : s.data.toList[p]? = some d := by
        have := congrArg List.head? hd
        simpa [List.head?_drop] using this
      have hm : s.data.toList.drop (p + 1) = m := by
        have := congrArg List.tail hd
        simpa [List.tail_drop] using this
      rw [hn, hm, List.isPrefixOf_cons_cons]
      congr 1
      rw [Bool.eq_iff_iff, beq_iff_eq, decide_eq_true_eq, Option.some.injEq]; exact eq_comm
theorem extract_end (s : ByteArray) (p : Nat) : (s.extract p s.size).data.toList = s.data.toList.drop p := by
  simp [ByteArray.data_extract]
  rw [List.take_of_length_le (by simp)]
end Go.Proofs.YtejpdfenejbjdaaGreatDoor.Txt

namespace Go.Proofs.YtejpdfenejbjdaaGreatDoor.Txt

/-- What is wrong of a cell: its kind, its number, its text's length, is its text right UTF-8. -/
def cellV (k n : Int) (z : Nat) (sp : Bool) : Int :=
  if k < 1 ∨ k > 8 then 3
  else if ¬ (k = 2 ∨ k = 8) ∧ z ≠ 0 then 3
  else if ¬ (k = 1 ∨ k = 3 ∨ k = 4 ∨ k = 5) ∧ n ≠ 0 then 3
  else if k = 3 ∧ (n < 1 ∨ n > 281474976710656) then 1
  else if k = 4 ∧ (n < 1 ∨ n > 1099511627776) then 1
  else if k = 5 ∧ (n < 0 ∨ n > 255) then 1
  else if k = 2 ∧ (z > 255 ∨ sp = false) then 20
  else if k = 8 ∧ z > 1024 then 4
  else 0
def cellE (c : Cl) : Int := cellV c.kind c.n c.text.size (spelled c.text)
theorem cellV_text (k n : Int) (z : Nat) (sp : Bool) (h1 : 1 ≤ k ∧ k ≤ 8) (h2 : k ≠ 2) (h8 : k ≠ 8) (hz : z ≠ 0) : cellV k n z sp = 3 := by
  unfold cellV
  rw [if_neg (by omega), if_pos ⟨by omega, hz⟩]
theorem cellV_atom (z : Nat) (sp : Bool) : cellV 2 0 z sp = if z > 255 ∨ sp = false then 20 else 0 := by
  unfold cellV
  rw [if_neg (by omega), if_neg (by simp), if_neg (by simp), if_neg (by simp), if_neg (by simp), if_neg (by simp)]
  simp
/-- How many terms stand behind a cell. -/
def kids (c : Cl) : Nat := if c.kind = 7 then 2 else if c.kind = 5 ∧ 0 ≤ c.n ∧ c.n ≤ 255 then c.n.toNat else 0
/-- From a place on, with so many terms wanted. -/
def rightF : List Cl → Nat → Nat → Int × Nat
  | [], i, want => if want > 0 then (62, i) else (0, 0)
  | c :: t, i, want => if cellE c ≠ 0 then (cellE c, i) else if want = 0 then (63, i) else rightF t (i + 1) (want - 1 + kids c)
def right (t : List Cl) : Int × Nat := if t.length = 0 then (5, 0) else if t.length > 1024 then (7, 0) else rightF t 0 1
end Go.Proofs.YtejpdfenejbjdaaGreatDoor.Txt
