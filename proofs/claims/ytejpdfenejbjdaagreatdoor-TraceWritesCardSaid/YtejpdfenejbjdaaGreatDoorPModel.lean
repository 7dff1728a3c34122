/- What the printer of terms computes, in plain Lean. -/
import Derived.Test.YtejpdfenejbjdaaGreatDoorModel
import Derived.Lib.ItoaNum
namespace Go.Proofs.YtejpdfenejbjdaaGreatDoor.Txt
set_option linter.unusedVariables false

/-- 'strconv.FormatInt(n, 16)' below 256. -/
def hexd (n : Nat) : UInt8 := if n < 10 then UInt8.ofNat (48 + n) else UInt8.ofNat (87 + n)
def hexT (n : Nat) : List UInt8 := if n < 16 then [hexd n] else [hexd (n / 16), hexd (n % 16)]

/-- How a rune stands in quotes. -/
def piece (r : Nat) : List UInt8 :=
  if r = 39 ∨ r = 92 then 92 :: (Utf8.encode (r : Int)).data.toList
  else if escape r ≠ 0 then [92, UInt8.ofNat (escape r)]
  else if r < 32 ∨ (128 ≤ r ∧ r < 160) then [92, 120, 123] ++ hexT r ++ [125]
  else (Utf8.encode (r : Int)).data.toList
def piecesF (s : ByteArray) : Nat → Nat → List UInt8
  | 0, _ => []
  | k + 1, p => if p < s.size then piece (Utf8.decode s p).1 ++ piecesF s k (p + (Utf8.decode s p).2) else []
def bare (s : ByteArray) : Bool := decide (s.size ≠ 0) && decide (s.size ≤ 255) && decide (runEnd s 0 = s.size) && !reserved s.data.toList
/-- An atom's text; an error. -/
def quote (s : ByteArray) : List UInt8 × Int :=
  if atomOk s then (if bare s then (s.data.toList, 0) else (39 :: (piecesF s s.size 0 ++ [39]), 0)) else ([], 20)

/-- A binary's text. -/
def plainB (l : List UInt8) : Bool := decide (l ≠ []) && l.all fun c => decide (32 ≤ c.toNat) && decide (c.toNat ≤ 126)
def slashed (l : List UInt8) : List UInt8 := l.flatMap fun c => if c = 34 ∨ c = 92 then [92, c] else [c]
def commas : List UInt8 → List UInt8
  | [] => []
  | c :: l => Lib.decDigits c.toNat ++ l.flatMap fun d => 44 :: Lib.decDigits d.toNat
def shown (l : List UInt8) : List UInt8 := if plainB l then [60, 60, 34] ++ slashed l ++ [34, 62, 62] else [60, 60] ++ commas l ++ [62, 62]

def leaf (c : Cl) : List UInt8 :=
  if c.kind = 1 then Lib.itoa c.n
  else if c.kind = 2 then (quote c.text).1
  else if c.kind = 3 then [35, 82, 101, 102, 60] ++ Lib.itoa c.n ++ [62]
  else if c.kind = 4 then [60] ++ Lib.itoa c.n ++ [62]
  else if c.kind = 6 then [91, 93]
  else if c.kind = 5 then [123, 125]
  else shown c.text.data.toList

/-- What is open: how many elements are to come; a list?; does its tail come? -/
structure Opn where
  left : Int
  list : Bool
  tail : Bool

/-- The stack has its top ahead. -/
def closed : List Opn → List UInt8 × List Opn
  | [] => ([], [])
  | o :: st =>
    if o.list && !o.tail then ([], { o with tail := true } :: st)
    else if o.list then (93 :: (closed st).1, (closed st).2)
    else if o.left > 1 then ([44], { o with left := o.left - 1 } :: st)
    else (125 :: (closed st).1, (closed st).2)

/-- One cell: what is written, the stack behind it. -/
def printC (c : Cl) (st : List Opn) : List UInt8 × List Opn :=
  let plain (pre : List UInt8) (st : List Opn) : List UInt8 × List Opn :=
    if c.kind = 7 then (pre ++ [91], ⟨0, true, false⟩ :: st)
    else if c.kind = 5 ∧ c.n > 0 then (pre ++ [123], ⟨c.n, false, false⟩ :: st)
    else (pre ++ leaf c ++ (closed st).1, (closed st).2)
  match st with
  | [] => plain [] []
  | o :: r =>
    if o.tail then
      if c.kind = 7 then ([44], { o with tail := false } :: r)
      else if c.kind = 6 then (93 :: (closed r).1, (closed r).2)
      else plain [124] (o :: r)
    else plain [] (o :: r)

def printF : List Cl → List UInt8 → List Opn → Option (List UInt8)
  | [], b, _ => if b.length > 65536 then none else some b
  | c :: t, b, st => if b.length > 65536 then none else printF t (b ++ (printC c st).1) (printC c st).2
def print (t : List Cl) : List UInt8 × Int :=
  if (right t).1 ≠ 0 then ([], (right t).1) else
  match printF t [] [] with
  | none => ([], 4)
  | some b => (b, 0)

end Go.Proofs.YtejpdfenejbjdaaGreatDoor.Txt

namespace Go.Proofs.YtejpdfenejbjdaaGreatDoor.Txt
set_option linter.unusedVariables false
set_option linter.unusedSimpArgs false

/-- Terms, one behind the other: each with what stands in it. -/
inductive Fo where
  | nil
  | node (c : Cl) (kids rest : Fo)
def Fo.len : Fo → Nat
  | .nil => 0
  | .node _ _ r => r.len + 1
def Fo.flat : Fo → List Cl
  | .nil => []
  | .node c k r => c :: (k.flat ++ r.flat)
def Fo.ok : Fo → Prop
  | .nil => True
  | .node c k r => cellE c = 0 ∧ k.len = Txt.kids c ∧ k.ok ∧ r.ok

/-- Behind 'n' terms. -/
theorem fo_split : ∀ (n : Nat) (l : List Cl) (i want : Nat), l.length ≤ n → rightF l i want = (0, 0) → ∃ f : Fo, f.ok ∧ f.len = want ∧ f.flat = l := by
  -- more: any number of terms ahead can be split off
  have key : ∀ (n : Nat) (l : List Cl) (i a b : Nat), l.length ≤ n → rightF l i (a + b) = (0, 0) → ∃ (f : Fo) (l' : List Cl) (j : Nat), f.ok ∧ f.len = a ∧ f.flat ++ l' = l ∧ rightF l' j b = (0, 0) := by
    intro n
    induction n with
    | zero =>
      intro l i a b hl h
      have : l = [] := List.length_eq_zero_iff.1 (by omega)
      subst this
      rw [rightF] at h
      split at h
      · cases h
      · have ha : a = 0 := by omega
        have hb : b = 0 := by omega
        subst ha hb
        exact ⟨.nil, [], i, trivial, rfl, rfl, by rw [rightF]; rfl⟩
    | succ n ih =>
      intro l i a b hl h
      cases a with
      | zero => exact ⟨.nil, l, i, trivial, rfl, rfl, by simpa using h⟩
      | succ a =>
        cases l with
        | nil =>
          rw [rightF, if_pos (by omega)] at h
          cases h
        | cons c t =>
          rw [rightF] at h
          split at h
          · rename_i he
            simp only [Prod.mk.injEq] at h
            exact absurd h.1 he
          · rename_i he
            rw [if_neg (by omega)] at h
            have hlt : t.length ≤ n := by simp at hl; omega
            obtain ⟨f, l', j, h1, h2, h3, h4⟩ := ih t (i + 1) (Txt.kids c) (a + b) hlt (by rw [← h]; congr 1; omega)
            have hl' : l'.length ≤ n := by
              rw [← h3] at hlt
              simp at hlt; omega
            obtain ⟨g, l2, j2, g1, g2, g3, g4⟩ := ih l' j a b hl' h4
            refine ⟨.node c f g, l2, j2, ⟨Decidable.byContradiction fun x => he x, h2, h1, g1⟩, by simp [Fo.len, g2], ?_, g4⟩
            rw [Fo.flat, ← h3, ← g3]; simp
  intro n l i want hl h
  obtain ⟨f, l', j, h1, h2, h3, h4⟩ := key n l i want 0 hl h
  refine ⟨f, h1, h2, ?_⟩
  cases l' with
  | nil => simpa using h3
  | cons c t =>
    rw [rightF] at h4
    split at h4
    · rename_i he
      simp only [Prod.mk.injEq] at h4
      exact absurd h4.1 he
    · simp at h4
theorem right_tree {t : List Cl} (h : (right t).1 = 0) : ∃ (c : Cl) (k : Fo), cellE c = 0 ∧ k.len = Txt.kids c ∧ k.ok ∧ t = c :: k.flat ∧ t.length ≤ 1024 := by
  unfold right at h
  split at h
  · cases h
  · split at h
    · cases h
    · have h0 : rightF t 0 1 = (0, 0) := by
        have : ∀ (l : List Cl) (i want : Nat), (rightF l i want).1 = 0 → rightF l i want = (0, 0) := by
          intro l
          induction l with
          | nil =>
            intro i want h
            rw [rightF] at h ⊢
            split
            · rename_i hw; rw [if_pos hw] at h; cases h
            · rfl
          | cons c l ih =>
            intro i want h
            rw [rightF] at h ⊢
            split
            · rename_i hw; rw [if_pos hw] at h; exact absurd h hw
            · rename_i hw
              rw [if_neg hw] at h
              split
              · rename_i hz; rw [if_pos hz] at h; cases h
              · rename_i hz; rw [if_neg hz] at h; exact ih _ _ h
        exact this _ _ _ h
      obtain ⟨f, h1, h2, h3⟩ := fo_split t.length t 0 1 (Nat.le_refl _) h0
      cases f with
      | nil => cases h2
      | node c k r =>
        cases r with
        | nil =>
          obtain ⟨g1, g2, g3, g4⟩ := h1
          exact ⟨c, k, g1, g2, g3, by rw [← h3, Fo.flat, Fo.flat]; simp, by omega⟩
        | node _ _ r => simp [Fo.len] at h2

/-- The text of trees. 0: elements with ',' between · 1: a list's first element and its tail · 2: a tail. -/
def Fo.sh : Fo → Nat → List UInt8
  | .nil, _ => []
  | .node c k r, m =>
    let own := if c.kind = 7 then 91 :: k.sh 1 else if c.kind = 5 ∧ c.n > 0 then 123 :: (k.sh 0 ++ [125]) else leaf c
    if m = 0 then own ++ (if r.len = 0 then [] else 44 :: r.sh 0)
    else if m = 1 then own ++ r.sh 2
    else if c.kind = 7 then 44 :: k.sh 1
    else if c.kind = 6 then [93]
    else 124 :: (own ++ [93])
def Fo.txt (c : Cl) (k : Fo) : List UInt8 := if c.kind = 7 then 91 :: k.sh 1 else if c.kind = 5 ∧ c.n > 0 then 123 :: (k.sh 0 ++ [125]) else leaf c

theorem Fo.sh_0 (c : Cl) (k r : Fo) : (Fo.node c k r).sh 0 = Fo.txt c k ++ (if r.len = 0 then [] else 44 :: r.sh 0) := rfl
theorem Fo.sh_1 (c : Cl) (k r : Fo) : (Fo.node c k r).sh 1 = Fo.txt c k ++ r.sh 2 := rfl
theorem Fo.sh_2 (c : Cl) (k r : Fo) : (Fo.node c k r).sh 2 = if c.kind = 7 then 44 :: k.sh 1 else if c.kind = 6 then [93] else 124 :: (Fo.txt c k ++ [93]) := rfl

/-- What the printer writes, without its bound. -/
def pr : List Cl → List Opn → List UInt8 × List Opn
  | [], st => ([], st)
  | c :: t, st => ((printC c st).1 ++ (pr t (printC c st).2).1, (pr t (printC c st).2).2)
theorem pr_append (t u : List Cl) : ∀ st, pr (t ++ u) st = ((pr t st).1 ++ (pr u (pr t st).2).1, (pr u (pr t st).2).2) := by
  induction t with
  | nil => intro st; rfl
  | cons c t ih =>
    intro st
    simp only [List.cons_append, pr, ih, List.append_assoc]
theorem printF_pr : ∀ (t : List Cl) (b r : List UInt8) (st : List Opn), printF t b st = some r → r = b ++ (pr t st).1 ∧ r.length ≤ 65536 := by
  intro t
  induction t with
  | nil =>
    intro b r st h
    rw [printF] at h
    split at h
    · cases h
    · cases h; exact ⟨by simp [pr], by omega⟩
  | cons c t ih =>
    intro b r st h
    rw [printF] at h
    split at h
    · cases h
    · obtain ⟨h1, h2⟩ := ih _ _ _ h
      exact ⟨by rw [h1, pr]; simp, h2⟩

/-- No tail comes now. -/
def calm : List Opn → Prop
  | [] => True
  | o :: _ => o.tail = false
theorem printC_calm {c : Cl} {st : List Opn} (h : calm st) : printC c st = if c.kind = 7 then ([91], ⟨0, true, false⟩ :: st) else if c.kind = 5 ∧ c.n > 0 then ([123], ⟨c.n, false, false⟩ :: st) else (leaf c ++ (closed st).1, (closed st).2) := by
  cases st with
  | nil => simp only [printC]; rfl
  | cons o r =>
    simp only [calm] at h
    simp only [printC, h]; rfl
theorem kids_7 {c : Cl} (h : c.kind = 7) : Txt.kids c = 2 := by rw [Txt.kids, if_pos h]
theorem kids_5 {c : Cl} (h : c.kind = 5) (h0 : 0 ≤ c.n) (h1 : c.n ≤ 255) : Txt.kids c = c.n.toNat := by
  rw [Txt.kids, if_neg (by omega), if_pos ⟨h, h0, h1⟩]
theorem kids_0 {c : Cl} (h : c.kind ≠ 7) (h' : c.kind ≠ 5) : Txt.kids c = 0 := by
  rw [Txt.kids, if_neg h, if_neg fun x => h' x.1]
/-- What is right of a right cell. -/
theorem cell_ok {c : Cl} (h : cellE c = 0) : 1 ≤ c.kind ∧ c.kind ≤ 8 ∧ (c.kind ≠ 2 → c.kind ≠ 8 → c.text.size = 0) ∧ (c.kind ≠ 1 → c.kind ≠ 3 → c.kind ≠ 4 → c.kind ≠ 5 → c.n = 0)
    ∧ (c.kind = 3 → 1 ≤ c.n ∧ c.n ≤ 281474976710656) ∧ (c.kind = 4 → 1 ≤ c.n ∧ c.n ≤ 1099511627776) ∧ (c.kind = 5 → 0 ≤ c.n ∧ c.n ≤ 255) ∧ (c.kind = 2 → c.text.size ≤ 255 ∧ spelled c.text = true) ∧ (c.kind = 8 → c.text.size ≤ 1024) := by
  unfold cellE cellV at h
  by_cases h1 : c.kind < 1 ∨ c.kind > 8
  · rw [if_pos h1] at h; cases h
  rw [if_neg h1] at h
  by_cases h2 : ¬ (c.kind = 2 ∨ c.kind = 8) ∧ c.text.size ≠ 0
  · rw [if_pos h2] at h; cases h
  rw [if_neg h2] at h
  by_cases h3 : ¬ (c.kind = 1 ∨ c.kind = 3 ∨ c.kind = 4 ∨ c.kind = 5) ∧ c.n ≠ 0
  · rw [if_pos h3] at h; cases h
  rw [if_neg h3] at h
  by_cases h4 : c.kind = 3 ∧ (c.n < 1 ∨ c.n > 281474976710656)
  · rw [if_pos h4] at h; cases h
  rw [if_neg h4] at h
  by_cases h5 : c.kind = 4 ∧ (c.n < 1 ∨ c.n > 1099511627776)
  · rw [if_pos h5] at h; cases h
  rw [if_neg h5] at h
  by_cases h6 : c.kind = 5 ∧ (c.n < 0 ∨ c.n > 255)
  · rw [if_pos h6] at h; cases h
  rw [if_neg h6] at h
  by_cases h7 : c.kind = 2 ∧ (c.text.size > 255 ∨ spelled c.text = false)
  · rw [if_pos h7] at h; cases h
  rw [if_neg h7] at h
  by_cases h8 : c.kind = 8 ∧ c.text.size > 1024
  · rw [if_pos h8] at h; cases h
  refine ⟨by omega, by omega, fun _ _ => ?_, fun _ _ _ _ => ?_, by omega, by omega, by omega, fun hk => ⟨by omega, ?_⟩, by omega⟩
  · refine Decidable.byContradiction fun x => h2 ⟨by omega, x⟩
  · refine Decidable.byContradiction fun x => h3 ⟨by omega, x⟩
  · cases hs : spelled c.text with
    | true => rfl
    | false => exact absurd ⟨hk, .inr hs⟩ h7

theorem pr_tree (f : Fo) : (∀ (r : List Opn), f.ok → 1 ≤ f.len → pr f.flat (⟨(f.len : Int), false, false⟩ :: r) = (f.sh 0 ++ 125 :: (closed r).1, (closed r).2))
    ∧ (∀ (r : List Opn) (l : Int), f.ok → f.len = 2 → pr f.flat (⟨l, true, false⟩ :: r) = (f.sh 1 ++ (closed r).1, (closed r).2))
    ∧ (∀ (r : List Opn) (l : Int), f.ok → f.len = 1 → pr f.flat (⟨l, true, true⟩ :: r) = (f.sh 2 ++ (closed r).1, (closed r).2)) := by
  induction f with
  | nil => exact ⟨fun _ _ h => by simp [Fo.len] at h, fun _ _ _ h => by simp [Fo.len] at h, fun _ _ _ h => by simp [Fo.len] at h⟩
  | node c k r ihk ihr =>
    obtain ⟨k0, k1, k2⟩ := ihk
    obtain ⟨r0, r1, r2⟩ := ihr
    -- one term, where no tail comes
    have one : ∀ st, calm st → cellE c = 0 → k.len = Txt.kids c → k.ok → pr (c :: k.flat) st = (Fo.txt c k ++ (closed st).1, (closed st).2) := by
      intro st hst hc hk hko
      have hcell := cell_ok hc
      rw [pr, printC_calm hst]
      unfold Fo.txt
      by_cases h7 : c.kind = 7
      · rw [if_pos h7, if_pos h7]
        simp only
        rw [k1 st 0 hko (by rw [hk, kids_7 h7])]
        simp
      · rw [if_neg h7, if_neg h7]
        by_cases h5 : c.kind = 5 ∧ c.n > 0
        · rw [if_pos h5, if_pos h5]
          simp only
          have hb := hcell.2.2.2.2.2.2.1 h5.1
          have hl : k.len = c.n.toNat := by rw [hk, kids_5 h5.1 hb.1 hb.2]
          have := k0 st hko (by omega)
          rw [show ((k.len : Nat) : Int) = c.n by omega] at this
          rw [this]
          simp
        · rw [if_neg h5, if_neg h5]
          simp only
          have hl : k.len = 0 := by
            by_cases e : c.kind = 5
            · have hb := hcell.2.2.2.2.2.2.1 e
              rw [hk, kids_5 e hb.1 hb.2]; omega
            · rw [hk, kids_0 h7 e]
          cases k with
          | nil => simp [Fo.flat, pr]
          | node _ _ _ => simp [Fo.len] at hl
    have flat : (Fo.node c k r).flat = (c :: k.flat) ++ r.flat := by simp [Fo.flat]
    refine ⟨?_, ?_, ?_⟩
    · intro st ⟨hc, hk, hko, hro⟩ _
      rw [flat, pr_append, one _ (by rfl) hc hk hko, Fo.sh_0]
      cases r with
      | nil => simp [Fo.len, closed, Fo.flat, pr]
      | node c2 k2' r2' =>
        have e : closed (⟨((Fo.node c k (.node c2 k2' r2')).len : Int), false, false⟩ :: st) = ([44], ⟨((Fo.node c2 k2' r2').len : Int), false, false⟩ :: st) := by
          rw [closed]
          simp only [Bool.false_and, Bool.false_eq_true, if_false]
          rw [if_pos (by simp only [Fo.len]; omega)]
          simp only [Fo.len]
          congr 3
          omega
        rw [e]
        simp only
        rw [r0 st hro (by simp [Fo.len])]
        rw [if_neg (by simp [Fo.len])]
        simp
    · intro st l ⟨hc, hk, hko, hro⟩ hl
      have hrl : r.len = 1 := by simpa [Fo.len] using hl
      rw [flat, pr_append, one _ (by rfl) hc hk hko, Fo.sh_1]
      have e : closed (⟨l, true, false⟩ :: st) = ([], ⟨l, true, true⟩ :: st) := by rw [closed]; rfl
      rw [e]
      simp only
      rw [r2 st l hro hrl]
      simp
    · intro st l ⟨hc, hk, hko, hro⟩ hl
      have hrn : r = .nil := by
        cases r with
        | nil => rfl
        | node _ _ _ => simp [Fo.len] at hl
      subst hrn
      have ecl : closed (⟨l, true, true⟩ :: st) = (93 :: (closed st).1, (closed st).2) := by rw [closed]; rfl
      rw [Fo.sh_2, show (Fo.node c k .nil).flat = c :: k.flat by simp [Fo.flat]]
      by_cases h7 : c.kind = 7
      · rw [if_pos h7, pr]
        have : printC c (⟨l, true, true⟩ :: st) = ([44], ⟨l, true, false⟩ :: st) := by simp [printC, h7]
        rw [this]
        simp only
        rw [k1 st l hko (by rw [hk, kids_7 h7])]
        simp
      · rw [if_neg h7]
        by_cases h6 : c.kind = 6
        · rw [if_pos h6, pr]
          have : printC c (⟨l, true, true⟩ :: st) = (93 :: (closed st).1, (closed st).2) := by simp [printC, h6]
          rw [this]
          have hkn : k = .nil := by
            have : k.len = 0 := by rw [hk, kids_0 h7 (by omega)]
            cases k with
            | nil => rfl
            | node _ _ _ => simp [Fo.len] at this
          subst hkn
          simp [Fo.flat, pr]
        · rw [if_neg h6]
          have hcell := cell_ok hc
          rw [pr]
          have e0 : printC c (⟨l, true, true⟩ :: st) = if c.kind = 5 ∧ c.n > 0 then ([124, 123], ⟨c.n, false, false⟩ :: ⟨l, true, true⟩ :: st) else (124 :: (leaf c ++ (closed (⟨l, true, true⟩ :: st)).1), (closed (⟨l, true, true⟩ :: st)).2) := by
            simp only [printC, if_neg h7, if_neg h6, if_true]
            split <;> rfl
          rw [e0]
          unfold Fo.txt
          rw [if_neg h7]
          by_cases h5 : c.kind = 5 ∧ c.n > 0
          · rw [if_pos h5, if_pos h5]
            simp only
            have hb := hcell.2.2.2.2.2.2.1 h5.1
            have hl : k.len = c.n.toNat := by rw [hk, kids_5 h5.1 hb.1 hb.2]
            have := k0 (⟨l, true, true⟩ :: st) hko (by omega)
            rw [show ((k.len : Nat) : Int) = c.n by omega, ecl] at this
            rw [this]
            simp
          · rw [if_neg h5, if_neg h5]
            simp only
            have hl : k.len = 0 := by
              by_cases e : c.kind = 5
              · have hb := hcell.2.2.2.2.2.2.1 e
                rw [hk, kids_5 e hb.1 hb.2]; omega
              · rw [hk, kids_0 h7 e]
            cases k with
            | nil => rw [ecl]; simp [Fo.flat, pr]
            | node _ _ _ => simp [Fo.len] at hl
/-- What is printed of a right term. -/
theorem print_tree {c : Cl} {k : Fo} (hc : cellE c = 0) (hk : k.len = Txt.kids c) (hko : k.ok) : (pr (c :: k.flat) []).1 = Fo.txt c k := by
  have hcell := cell_ok hc
  rw [pr, printC_calm (st := []) trivial]
  unfold Fo.txt
  by_cases h7 : c.kind = 7
  · rw [if_pos h7, if_pos h7]
    simp only
    rw [(pr_tree k).2.1 [] 0 hko (by rw [hk, kids_7 h7])]
    simp [closed]
  · rw [if_neg h7, if_neg h7]
    by_cases h5 : c.kind = 5 ∧ c.n > 0
    · rw [if_pos h5, if_pos h5]
      simp only
      have hb := hcell.2.2.2.2.2.2.1 h5.1
      have hl : k.len = c.n.toNat := by rw [hk, kids_5 h5.1 hb.1 hb.2]
      have := (pr_tree k).1 [] hko (by omega)
      rw [show ((k.len : Nat) : Int) = c.n by omega] at this
      rw [this]
      simp [closed]
    · rw [if_neg h5, if_neg h5]
      simp only
      have hl : k.len = 0 := by
        by_cases e : c.kind = 5
        · have hb := hcell.2.2.2.2.2.2.1 e
          rw [hk, kids_5 e hb.1 hb.2]; omega
        · rw [hk, kids_0 h7 e]
      cases k with
      | nil => simp [Fo.flat, pr, closed]
      | node _ _ _ => simp [Fo.len] at hl
end Go.Proofs.YtejpdfenejbjdaaGreatDoor.Txt
