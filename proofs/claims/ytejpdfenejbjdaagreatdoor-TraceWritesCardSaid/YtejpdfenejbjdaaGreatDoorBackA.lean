/- Plain law: what is printed of a cell is read as the cell: numbers, names, binaries. -/
import Derived.Test.YtejpdfenejbjdaaGreatDoorPModel
import Derived.Test.YtejpdfenejbjdaaGreatDoorShift
import Derived.Laws.RangeString
import Derived.Laws.RangeAny
import Derived.Lib.MapLaws
namespace Go.Proofs.YtejpdfenejbjdaaGreatDoor.Txt
set_option linter.unusedVariables false
set_option linter.unusedSimpArgs false

/-! numbers -/
theorem dec_digit (u : Nat) : ∀ c ∈ Lib.decDigits u, digitB c = true := by
  have one : ∀ i, i < 10 → digitB (UInt8.ofNat (48 + i)) = true := by decide
  induction u using Nat.strongRecOn with
  | _ u ih =>
    intro c hc
    rw [Lib.decDigits] at hc
    split at hc
    · simp only [List.mem_singleton] at hc
      rw [hc]; exact one u (by assumption)
    · rw [List.mem_append] at hc
      rcases hc with hc | hc
      · exact ih (u / 10) (by omega) c hc
      · simp only [List.mem_singleton] at hc
        rw [hc]; exact one _ (by omega)
theorem dec_ne (u : Nat) : Lib.decDigits u ≠ [] := by
  rw [Lib.decDigits]
  split <;> simp
theorem digit_solid {c : UInt8} (h : digitB c = true) : blankB c = false := by
  cases hb : blankB c with
  | false => rfl
  | true => rw [digit_blank c hb] at h; cases h
/-- Behind a place no name goes on. -/
def Stop (s : ByteArray) (q : Nat) : Prop := ∀ c, at? s q = some c → insideB c = false
theorem Stop.at {s : ByteArray} {q : Nat} {c : UInt8} (h : at? s q = some c) (hc : insideB c = false) : Stop s q := by
  intro d hd; rw [h] at hd; cases hd; exact hc
/-! binaries -/
end Go.Proofs.YtejpdfenejbjdaaGreatDoor.Txt

namespace Go.Proofs.YtejpdfenejbjdaaGreatDoor.Txt
set_option linter.unusedVariables false
set_option linter.unusedSimpArgs false

theorem drop_ne {b : ByteArray} {i : Nat} (h : i < b.size) : b.data.toList.drop i ≠ [] := by
  intro e
  have := congrArg List.length e
  simp at this
  have h' : i < b.data.size := h
  omega
/-- Runes are encoded as the library has it. -/
def EncAs : Prop := ∀ r : Nat, Lib.encodeRune (r : Int) = (Utf8.encode (r : Int)).data.toList
theorem enc_ascii (r : Nat) (h : r < 128) : (Utf8.encode (r : Int)).data.toList = [UInt8.ofNat r] := by
  unfold Utf8.encode
  have hv : Utf8.valid (r : Int) = true := by
    simp only [Utf8.valid, Bool.or_eq_true, Bool.and_eq_true, decide_eq_true_eq]; omega
  simp only [hv, if_true, Int.toNat_natCast]
  rw [if_pos (by omega)]
theorem enc_dec (he : EncAs) {b : ByteArray} {i : Nat} (hi : i < b.size) (hv : ¬ ((Utf8.decode b i).1 = 65533 ∧ (Utf8.decode b i).2 = 1)) : (Utf8.encode ((Utf8.decode b i).1 : Int)).data.toList = (b.data.toList.drop i).take (Utf8.decode b i).2 := by
  rw [← he, ← Lib.decodeL_drop b i] at *
  exact Lib.encode_decode _ (drop_ne hi) hv
end Go.Proofs.YtejpdfenejbjdaaGreatDoor.Txt

namespace Go.Proofs.YtejpdfenejbjdaaGreatDoor.Txt
set_option linter.unusedVariables false
set_option linter.unusedSimpArgs false

/-- A number that a cell may hold. -/
def fits (c : Cl) : Prop := -9223372036854775808 ≤ c.n ∧ c.n ≤ 9223372036854775807
/-- The first sign of a printed term. -/
def lead (c : UInt8) : Prop := blankB c = false ∧ c ≠ 93 ∧ c ≠ 125
theorem itoa_lead (n : Int) : ∃ c l, Lib.itoa n = c :: l ∧ (c = 45 ∨ digitB c = true) := by
  unfold Lib.itoa
  split
  · exact ⟨45, _, rfl, .inl rfl⟩
  · have hd := dec_digit n.toNat
    cases hl : Lib.decDigits n.toNat with
    | nil => exact absurd hl (dec_ne _)
    | cons c l => rw [hl] at hd; exact ⟨c, l, rfl, .inr (hd c (by simp))⟩
theorem lead_digit {c : UInt8} (h : c = 45 ∨ digitB c = true) : lead c := by
  rcases h with rfl | h
  · exact ⟨rfl, by decide, by decide⟩
  · exact ⟨digit_solid h, (by rintro rfl; cases h), (by rintro rfl; cases h)⟩
theorem lead_small {c : UInt8} (h : c = 39 ∨ smallB c = true) : lead c := by
  rcases h with rfl | h
  · exact ⟨rfl, by decide, by decide⟩
  · refine ⟨?_, (by rintro rfl; cases h), (by rintro rfl; cases h)⟩
    cases hb : blankB c with
    | false => rfl
    | true => rw [small_blank c hb] at h; cases h
theorem quote_lead {b : ByteArray} (hb : atomOk b = true) : ∃ c l, (quote b).1 = c :: l ∧ (c = 39 ∨ smallB c = true) := by
  unfold quote
  rw [if_pos hb]
  by_cases hbare : bare b = true
  · rw [if_pos hbare]
    simp only [bare, Bool.and_eq_true, decide_eq_true_eq, Bool.not_eq_true'] at hbare
    obtain ⟨⟨⟨hne, hle⟩, hrun⟩, hres⟩ := hbare
    have hpos : 0 < b.size := by omega
    have hsm : smallB b[0] = true := by
      unfold runEnd at hrun
      rw [dif_pos hpos] at hrun
      split at hrun
      · assumption
      · omega
    cases hl : b.data.toList with
    | nil =>
      have h1 : b.data.toList.length = 0 := by rw [hl]; rfl
      have h2 : b.data.toList.length = b.size := by simp
      omega
    | cons c l =>
      refine ⟨c, l, rfl, .inr ?_⟩
      have e : b[0] = c := by
        have h1 : b[0] = b.data.toList[0]'(by rw [hl]; simp) := rfl
        rw [h1]; simp [hl]
      rw [← e]; exact hsm
  · rw [if_neg hbare]; exact ⟨39, _, rfl, .inl rfl⟩
theorem atomOk_of {c : Cl} (hc : cellE c = 0) (hk : c.kind = 2) : atomOk c.text = true := by
  have := (cell_ok hc).2.2.2.2.2.2.2.1 hk
  simp [atomOk, this.1, this.2]
theorem leaf_lead {c : Cl} (hc : cellE c = 0) (h7 : c.kind ≠ 7) : ∃ d l, leaf c = d :: l ∧ lead d := by
  have hcell := cell_ok hc
  unfold leaf
  by_cases h1 : c.kind = 1
  · rw [if_pos h1]
    obtain ⟨d, l, e, h⟩ := itoa_lead c.n
    exact ⟨d, l, e, lead_digit h⟩
  rw [if_neg h1]
  by_cases h2 : c.kind = 2
  · rw [if_pos h2]
    obtain ⟨d, l, e, h⟩ := quote_lead (atomOk_of hc h2)
    exact ⟨d, l, e, lead_small h⟩
  rw [if_neg h2]
  by_cases h3 : c.kind = 3
  · rw [if_pos h3]; exact ⟨35, _, rfl, rfl, by decide, by decide⟩
  rw [if_neg h3]
  by_cases h4 : c.kind = 4
  · rw [if_pos h4]; exact ⟨60, _, rfl, rfl, by decide, by decide⟩
  rw [if_neg h4]
  by_cases h6 : c.kind = 6
  · rw [if_pos h6]; exact ⟨91, _, rfl, rfl, by decide, by decide⟩
  rw [if_neg h6]
  by_cases h5 : c.kind = 5
  · rw [if_pos h5]; exact ⟨123, _, rfl, rfl, by decide, by decide⟩
  rw [if_neg h5]
  unfold shown
  split
  · exact ⟨60, _, rfl, rfl, by decide, by decide⟩
  · exact ⟨60, _, rfl, rfl, by decide, by decide⟩
/-- What stands behind an element of a list is read. -/
def after (k : Nat) (s : ByteArray) (q : Nat) (acc t : List Cl) : PR (List Cl) :=
  if at? s (skip s q) = some 93 then .ok (acc ++ [⟨7, 0, .empty⟩] ++ t ++ [⟨6, 0, .empty⟩]) (skip s q + 1)
  else if at? s (skip s q) = some 124 then
    match term k s (skip s q + 1) with
    | .bad e a => .bad e a
    | .ok u r => match want s r [93] with
      | .bad e a => .bad e a
      | .ok _ z => .ok (acc ++ [⟨7, 0, .empty⟩] ++ t ++ u) z
  else match want s (skip s q) [44] with
    | .bad e a => .bad e a
    | .ok _ z => listL k s z (acc ++ [⟨7, 0, .empty⟩] ++ t)
def Fo.fit : Fo → Prop
  | .nil => True
  | .node c k r => fits c ∧ k.fit ∧ r.fit
theorem len_nil {f : Fo} (h : f.len = 0) : f = .nil := by
  cases f with
  | nil => rfl
  | node _ _ _ => simp [Fo.len] at h
theorem fit_of {f : Fo} (h : ∀ c ∈ f.flat, fits c) : f.fit := by
  induction f with
  | nil => trivial
  | node c k r ihk ihr => exact ⟨h c (by simp [Fo.flat]), ihk fun d hd => h d (by simp [Fo.flat, hd]), ihr fun d hd => h d (by simp [Fo.flat, hd])⟩
end Go.Proofs.YtejpdfenejbjdaaGreatDoor.Txt

namespace Go.Proofs.YtejpdfenejbjdaaGreatDoor.Txt
set_option linter.unusedVariables false
set_option linter.unusedSimpArgs false

theorem fit0 (k : Int) (b : ByteArray) : fits ⟨k, 0, b⟩ := ⟨(by decide : (-9223372036854775808 : Int) ≤ 0), (by decide : (0 : Int) ≤ 9223372036854775807)⟩
/-- Just so many terms. -/
def Many (n : Nat) (t : List Cl) : Prop := (∀ (l : List Cl) (i want : Nat), rightF (t ++ l) i (want + n) = rightF l (i + t.length) want) ∧ ∀ c ∈ t, fits c
theorem Many.nil : Many 0 [] := ⟨fun l i want => rfl, fun c hc => by cases hc⟩
theorem Many.append {n m : Nat} {t u : List Cl} (h : Many n t) (h' : Many m u) : Many (n + m) (t ++ u) := by
  refine ⟨fun l i want => ?_, fun c hc => ?_⟩
  · rw [List.append_assoc, show want + (n + m) = (want + m) + n by omega, h.1, h'.1, List.length_append, Nat.add_assoc]
  · rw [List.mem_append] at hc
    rcases hc with hc | hc
    · exact h.2 c hc
    · exact h'.2 c hc
theorem Many.cell {c : Cl} {t : List Cl} (hc : cellE c = 0) (hf : fits c) (h : Many (kids c) t) : Many 1 (c :: t) := by
  refine ⟨fun l i want => ?_, fun d hd => ?_⟩
  · rw [List.cons_append, rightF, if_neg (by omega), if_neg (by omega), show want + 1 - 1 + kids c = want + kids c by omega, h.1, List.length_cons]
    congr 1; omega
  · rw [List.mem_cons] at hd
    rcases hd with rfl | hd
    · exact hf
    · exact h.2 d hd
theorem Many.leaf {c : Cl} (hc : cellE c = 0) (hf : fits c) (hk : kids c = 0) : Many 1 [c] := Many.cell hc hf (by rw [hk]; exact Many.nil)
theorem Many.cons {t u : List Cl} (h : Many 1 t) (h' : Many 1 u) : Many 1 (⟨7, 0, .empty⟩ :: (t ++ u)) := Many.cell rfl (fit0 _ _) (h.append h')
theorem Many.tuple {n : Nat} {t : List Cl} (hn : n ≤ 255) (h : Many n t) : Many 1 (⟨5, (n : Int), .empty⟩ :: t) := by
  refine Many.cell ?_ ⟨by simp only; omega, by simp only; omega⟩ ?_
  · simp [cellE, cellV]; omega
  · rw [kids_5 rfl (by simp) (by simp only; omega)]; exact h
theorem many_right {t : List Cl} (h : Many 1 t) (h1 : t ≠ []) (h2 : t.length ≤ 1024) : right t = (0, 0) := by
  unfold right
  rw [if_neg (by intro e; exact h1 (List.length_eq_zero_iff.1 e)), if_neg (by omega)]
  have := h.1 [] 0 0
  rw [List.append_nil, Nat.zero_add] at this
  rw [this, rightF]; rfl
theorem many_ne {t : List Cl} (h : Many 1 t) : t ≠ [] := by
  rintro rfl
  have := h.1 [] 0 0
  simp only [List.append_nil, rightF] at this
  cases this
theorem str_many (l : List UInt8) : Many 1 (strCells l) := by
  induction l with
  | nil => exact Many.leaf rfl (fit0 _ _) rfl
  | cons c l ih =>
    have := c.toNat_lt
    exact Many.cons (t := [⟨1, (c.toNat : Int), .empty⟩]) (Many.leaf (by simp [cellE, cellV]) ⟨by simp only; omega, by simp only; omega⟩ rfl) ih
theorem whole_many {s : ByteArray} {p q : Nat} {t : List Cl} (h : whole s p = .ok t q) : Many 1 t := by
  unfold whole at h
  simp only at h
  generalize (if decide (at? s p = some 45) = true then p + 1 else p) = z at h
  split at h
  · cases h
  · split at h
    · cases h
    · rename_i hx
      cases h
      refine Many.leaf ?_ ?_ rfl
      · simp [cellE, cellV]
      · unfold fits
        simp only
        by_cases hneg : at? s p = some 45
        · simp only [hneg, decide_true, if_true]; omega
        · simp only [hneg, decide_false, Bool.false_eq_true, if_false, and_true] at hx ⊢; omega
theorem ident_many {s : ByteArray} {kind : Int} {st p q : Nat} {t : List Cl} (hk : kind = 3 ∨ kind = 4) (h : ident s kind st p = .ok t q) : Many 1 t := by
  unfold ident at h
  simp only at h
  split at h
  · cases h
  · split at h
    · cases h
    · rename_i hx
      split at h
      · cases h
      · cases h
        generalize numOf (cut s (skip s p) (digitsEnd s (skip s p))) = n at hx
        unfold idMost at hx
        refine Many.leaf ?_ ?_ ?_
        · rcases hk with rfl | rfl
          · rw [if_pos rfl] at hx
            simp [cellE, cellV]; omega
          · rw [if_neg (by decide)] at hx
            simp [cellE, cellV]; omega
        · unfold fits
          simp only
          split at hx <;> omega
        · rcases hk with rfl | rfl <;> rfl
theorem binary_many {s : ByteArray} {st p q : Nat} {t : List Cl} (h : binary s st p = .ok t q) : Many 1 t := by
  unfold binary at h
  cases hb : binBytes s p with
  | bad e a => rw [hb] at h; cases h
  | ok l z =>
    rw [hb] at h
    simp only at h
    split at h
    · cases h
    · rename_i hx
      cases h
      refine Many.leaf ?_ (fit0 _ _) rfl
      have : (bytes l).size = l.length := by simp [bytes, ByteArray.size]
      simp [cellE, cellV, this]; omega
theorem ascii_spelled {b : ByteArray} (h : ∀ c ∈ b.data.toList, c.toNat < 128) : ∀ n i, spelledF b n i = true := by
  intro n
  induction n with
  | zero => intro i; rfl
  | succ n ih =>
    intro i
    rw [spelledF]
    split
    · rename_i hi
      have hc := h b[i] (by
        have e : b[i] = b.data.toList[i]'(by simpa using hi) := rfl
        rw [e]; exact List.getElem_mem _)
      rw [decode_ascii b i hi hc, if_neg (by simp only; omega)]
      exact ih _
    · rfl
theorem inside_ascii {c : UInt8} (h : insideB c = true) : c.toNat < 128 := by
  unfold insideB smallB digitB at h
  simp only [Bool.or_eq_true, Bool.and_eq_true, decide_eq_true_eq, beq_iff_eq] at h
  rcases h with (((h | h) | h) | h) | h
  · omega
  · omega
  · omega
  · rw [h]; decide
  · rw [h]; decide
theorem atom_many {b : ByteArray} (h : atomOk b = true) : Many 1 [⟨2, 0, b⟩] := by
  have : b.size ≤ 255 ∧ spelled b = true := by simpa [atomOk] using h
  refine Many.leaf ?_ (fit0 _ _) rfl
  simp [cellE, cellV, this.2]; omega
theorem scan_atom {s b : ByteArray} {p q : Nat} (hp : p < s.size) (h : scan s p = .ok b q) : atomOk b = true := by
  unfold scan at h
  split at h
  · split at h
    · cases h
    · split at h
      · cases h
      · rename_i hx
        cases h
        simp only [Bool.or_eq_true, Bool.not_eq_true', not_or, Bool.not_eq_false] at hx
        exact hx.2
  · split at h
    · cases h
    · split at h
      · cases h
      · rename_i hr hl
        cases h
        have hle : runEnd s p ≤ s.size := by
          unfold runEnd
          split
          · split
            · exact span_le (by omega)
            · omega
          · omega
        have hsm : ∃ h, smallB (s[p]'h) = true ∧ runEnd s p = span insideB s p := by
          refine ⟨hp, ?_⟩
          unfold runEnd at hr ⊢
          rw [dif_pos hp] at hr ⊢
          split at hr
          · rename_i hs; rw [if_pos hs]; exact ⟨hs, rfl⟩
          · exact absurd (.inl rfl) hr
        obtain ⟨-, -, he⟩ := hsm
        have hsz : (s.extract p (runEnd s p)).size = runEnd s p - p := by simp [ByteArray.size_extract]; omega
        simp only [atomOk, Bool.and_eq_true, decide_eq_true_eq]
        refine ⟨by omega, ascii_spelled ?_ _ _⟩
        intro c hc
        simp only [ByteArray.data_extract, Array.toList_extract, List.extract] at hc
        obtain ⟨j, hj, e⟩ := List.mem_iff_getElem.1 hc
        simp only [List.length_take, List.length_drop] at hj
        rw [List.getElem_take, List.getElem_drop] at e
        obtain ⟨h1, h2⟩ := span_in (f := insideB) (s := s) (p := p) (q := p + j) (by omega) (by rw [← he]; omega)
        rw [← e]; exact inside_ascii h2
theorem many_all (k : Nat) : (∀ (s : ByteArray) (p q : Nat) (t : List Cl), term k s p = .ok t q → Many 1 t)
    ∧ (∀ (s : ByteArray) (p q n : Nat) (acc t : List Cl), tupleL k s p acc n = .ok t q → ∃ u m, t = ⟨5, ((n + m : Nat) : Int), .empty⟩ :: (acc ++ u) ∧ Many m u ∧ n + m ≤ 255)
    ∧ (∀ (s : ByteArray) (p q : Nat) (acc t : List Cl), listL k s p acc = .ok t q → ∃ u, t = acc ++ u ∧ Many 1 u) := by
  induction k with
  | zero => exact ⟨fun _ _ _ _ h => (by rw [term] at h; cases h), fun _ _ _ _ _ _ h => (by rw [tupleL] at h; cases h), fun _ _ _ _ _ h => (by rw [listL] at h; cases h)⟩
  | succ k ih =>
    obtain ⟨iht, ihu, ihl⟩ := ih
    refine ⟨?_, ?_, ?_⟩
    · intro s p q t h
      rw [term] at h
      split at h
      · cases h
      · rename_i c hc
        obtain ⟨hlt, -⟩ := at?_some hc
        split at h
        · split at h
          · cases h
          · rename_i l r hq
            cases h
            exact str_many _
        split at h
        · exact whole_many h
        split at h
        · exact binary_many h
        split at h
        · exact ident_many (.inr rfl) h
        split at h
        · split at h
          · cases h
          · split at h
            · cases h
            · exact ident_many (.inl rfl) h
        split at h
        · split at h
          · cases h
            exact Many.leaf rfl (fit0 _ _) rfl
          · obtain ⟨u, m, rfl, hm, hn⟩ := ihu _ _ _ _ _ _ h
            rw [List.nil_append]
            exact Many.tuple hn (by rw [Nat.zero_add]; exact hm)
        split at h
        · split at h
          · cases h
            exact Many.leaf rfl (fit0 _ _) rfl
          · obtain ⟨u, rfl, hm⟩ := ihl _ _ _ _ _ h
            exact hm
        split at h
        · cases h
        · rename_i hs
          cases h
          exact atom_many (scan_atom hlt hs)
    · intro s p q n acc t h
      rw [tupleL] at h
      split at h
      · cases h
      · rename_i u r hu
        have h1 := iht _ _ _ _ hu
        split at h
        · split at h
          · cases h
          · cases h
            exact ⟨u, 1, rfl, h1, by omega⟩
        · split at h
          · cases h
          · obtain ⟨v, m, rfl, hm, hn⟩ := ihu _ _ _ _ _ _ h
            refine ⟨u ++ v, 1 + m, ?_, h1.append hm, by omega⟩
            rw [List.append_assoc, show n + 1 + m = n + (1 + m) by omega]
    · intro s p q acc t h
      rw [listL] at h
      split at h
      · cases h
      · rename_i u r hu
        have h1 := iht _ _ _ _ hu
        split at h
        · cases h
          exact ⟨⟨7, 0, .empty⟩ :: (u ++ [⟨6, 0, .empty⟩]), by simp, Many.cons h1 (Many.leaf rfl (fit0 _ _) rfl)⟩
        · split at h
          · split at h
            · cases h
            · rename_i v r2 hv
              have h2 := iht _ _ _ _ hv
              split at h
              · cases h
              · cases h
                exact ⟨⟨7, 0, .empty⟩ :: (u ++ v), by simp, Many.cons h1 h2⟩
          · split at h
            · cases h
            · obtain ⟨v, rfl, hm⟩ := ihl _ _ _ _ _ h
              exact ⟨⟨7, 0, .empty⟩ :: (u ++ v), by simp, Many.cons h1 hm⟩
/-- What Parse tells is a right term. -/
theorem parse_right (hne : ∀ k s p e a, term k s p = .bad e a → e ≠ 0) {s : ByteArray} {t : List Cl} (h : parse s = (t, 0, 0)) : right t = (0, 0) ∧ ∀ c ∈ t, fits c := by
  unfold parse at h
  split at h
  · cases h
  · split at h
    · rename_i e a hu
      simp only [Prod.mk.injEq] at h
      exact absurd h.2.1 (hne _ _ _ _ _ hu)
    · rename_i u q hu
      have hm := (many_all _).1 _ _ _ _ hu
      split at h
      · cases h
      · split at h
        · cases h
        · cases h
          exact ⟨many_right hm (many_ne hm) (by omega), hm.2⟩
/-! several -/
def texts : List (List Cl) → List UInt8
  | [] => []
  | t :: l => (print t).1 ++ [46, 10] ++ texts l
end Go.Proofs.YtejpdfenejbjdaaGreatDoor.Txt
