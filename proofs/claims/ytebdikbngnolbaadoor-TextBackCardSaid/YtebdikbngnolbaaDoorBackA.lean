/- Plain law: what is printed of a cell is read as the cell: numbers, names, binaries. -/
import Derived.Test.YtebdikbngnolbaaDoorTree
import Derived.Test.YtebdikbngnolbaaDoorShift
import Derived.Laws.RangeString
import Derived.Laws.RangeAny
import Derived.Lib.MapLaws
namespace Go.Proofs.YtebdikbngnolbaaDoor.Txt
set_option linter.unusedVariables false
set_option linter.unusedSimpArgs false

theorem starts_nil (s : ByteArray) (p : Nat) : starts s p [] = true := rfl
theorem starts_cons {s : ByteArray} {p : Nat} {c : UInt8} {l : List UInt8} : starts s p (c :: l) = true ↔ at? s p = some c ∧ starts s (p + 1) l = true := by
  simp [starts]
theorem starts_append {s : ByteArray} {l u : List UInt8} : ∀ {p : Nat}, starts s p (l ++ u) = true ↔ starts s p l = true ∧ starts s (p + l.length) u = true := by
  induction l with
  | nil => intro p; simp [starts]
  | cons c l ih =>
    intro p
    rw [List.cons_append, starts_cons, starts_cons, ih, List.length_cons, show p + (l.length + 1) = p + 1 + l.length by omega, and_assoc]
theorem starts_at {s : ByteArray} {l : List UInt8} : ∀ {p i : Nat}, starts s p l = true → i < l.length → at? s (p + i) = l[i]? := by
  induction l with
  | nil => intro p i _ h; simp at h
  | cons c l ih =>
    intro p i h hi
    obtain ⟨h1, h2⟩ := starts_cons.1 h
    cases i with
    | zero => simpa using h1
    | succ i => rw [show p + (i + 1) = p + 1 + i by omega, ih h2 (by simpa using hi)]; rfl
theorem starts_all {s : ByteArray} {l : List UInt8} : ∀ {p : Nat}, (∀ i, i < l.length → at? s (p + i) = l[i]?) → starts s p l = true := by
  induction l with
  | nil => intro p _; rfl
  | cons c l ih =>
    intro p h
    refine starts_cons.2 ⟨by simpa using h 0 (by simp), ih fun i hi => ?_⟩
    have := h (i + 1) (by simp; omega)
    rw [show p + (i + 1) = p + 1 + i by omega] at this
    simpa using this
theorem starts_end' {s : ByteArray} {p : Nat} {l : List UInt8} (hl : l ≠ []) (h : starts s p l = true) : p + l.length ≤ s.size := by
  have := starts_at h (i := l.length - 1) (by have := List.length_pos_iff.2 hl; omega)
  have hp := List.length_pos_iff.2 hl
  rw [List.getElem?_eq_getElem (by omega)] at this
  obtain ⟨hlt, -⟩ := at?_some this
  omega
theorem cut_starts {s : ByteArray} {p : Nat} {l : List UInt8} (h : starts s p l = true) : cut s p (p + l.length) = l := by
  unfold cut
  simp only [ByteArray.data_extract, Array.toList_extract, List.extract]
  apply List.ext_getElem?
  intro i
  rw [show p + l.length - p = l.length by omega, List.getElem?_take]
  split
  · rw [List.getElem?_drop, ← at?_list, starts_at h (by assumption)]
  · rw [List.getElem?_eq_none (by omega)]
theorem extract_starts {s b : ByteArray} {p : Nat} (h : starts s p b.data.toList = true) : s.extract p (p + b.data.toList.length) = b := by
  apply ByteArray.ext
  exact Array.toList_inj.1 (cut_starts h)
theorem span_starts {f : UInt8 → Bool} {s : ByteArray} : ∀ {l : List UInt8} {p : Nat}, starts s p l = true → (∀ c ∈ l, f c = true) → (∀ c, at? s (p + l.length) = some c → f c = false) → span f s p = p + l.length := by
  intro l
  induction l with
  | nil =>
    intro p _ _ h
    by_cases hp : p < s.size
    · rw [List.length_nil]; exact span_no hp (h _ (at?_lt hp))
    · exact span_end (by omega)
  | cons c l ih =>
    intro p hs hf he
    obtain ⟨h1, h2⟩ := starts_cons.1 hs
    obtain ⟨hlt, e⟩ := at?_some h1
    rw [span_yes hlt (by rw [e]; exact hf c (by simp)), ih h2 (fun d hd => hf d (by simp [hd])) (fun d hd => he d (by rw [← hd]; congr 1; simp; omega))]
    simp; omega
theorem skip_at {s : ByteArray} {p : Nat} {c : UInt8} (h : at? s p = some c) (hc : blankB c = false) : skip s p = p := by
  obtain ⟨hlt, e⟩ := at?_some h
  exact span_no hlt (by rw [e]; exact hc)
theorem want_starts {s : ByteArray} {p : Nat} {c : UInt8} {l : List UInt8} (h : starts s p (c :: l) = true) (hc : blankB c = false) : want s p (c :: l) = .ok () (p + (l.length + 1)) := by
  rw [want, skip_at (starts_cons.1 h).1 hc, h, if_pos rfl]; rfl

/-! numbers -/
theorem dec_digit (u : Nat) : ∀ c ∈ Lib.decDigits u, digitB c = true := by
  have one : ∀ i, i < 10 → digitB (UInt8.ofNat (48 + i)) = true := by decide
  induction u using Nat.strongRecOn with
  | _ u ih =>
    intro c hc
    rw [Lib.decDigits] at hc
    split at hc
    · simp only [List.mem_singleton] at hc
      rw [hc]; exact one u (by assumption)
    · rw [List.mem_append] at hc
      rcases hc with hc | hc
      · exact ih (u / 10) (by omega) c hc
      · simp only [List.mem_singleton] at hc
        rw [hc]; exact one _ (by omega)
theorem dec_ne (u : Nat) : Lib.decDigits u ≠ [] := by
  rw [Lib.decDigits]
  split <;> simp
theorem numOf_append (l : List UInt8) (c : UInt8) : numOf (l ++ [c]) = numOf l * 10 + (c.toNat - 48) := by simp [numOf]
theorem numOf_dec (u : Nat) : numOf (Lib.decDigits u) = u := by
  have one : ∀ i, i < 10 → (UInt8.ofNat (48 + i)).toNat - 48 = i := by decide
  induction u using Nat.strongRecOn with
  | _ u ih =>
    rw [Lib.decDigits]
    split
    · rename_i h
      simp only [numOf, List.foldl_cons, List.foldl_nil]
      rw [one u h]; omega
    · rw [numOf_append, ih _ (by omega), one _ (by omega)]; omega
theorem digit_solid {c : UInt8} (h : digitB c = true) : blankB c = false := by
  cases hb : blankB c with
  | false => rfl
  | true => rw [digit_blank c hb] at h; cases h
/-- Behind a place no name goes on. -/
def Stop (s : ByteArray) (q : Nat) : Prop := ∀ c, at? s q = some c → insideB c = false
theorem stop_digit {c : UInt8} (h : insideB c = false) : digitB c = false := by
  cases hd : digitB c with
  | false => rfl
  | true => simp [insideB, hd] at h
theorem Stop.at {s : ByteArray} {q : Nat} {c : UInt8} (h : at? s q = some c) (hc : insideB c = false) : Stop s q := by
  intro d hd; rw [h] at hd; cases hd; exact hc
theorem digits_dec {s : ByteArray} {p u : Nat} (h : starts s p (Lib.decDigits u) = true) (he : Stop s (p + (Lib.decDigits u).length)) : digitsEnd s p = p + (Lib.decDigits u).length :=
  span_starts h (dec_digit u) fun c hc => stop_digit (he c hc)
/-- The first sign of a number. -/
theorem dec_first {s : ByteArray} {p u : Nat} (h : starts s p (Lib.decDigits u) = true) : ∃ c, at? s p = some c ∧ digitB c = true := by
  have hd := dec_digit u
  cases hl : Lib.decDigits u with
  | nil => exact absurd hl (dec_ne u)
  | cons c l =>
    rw [hl] at h hd
    exact ⟨c, (starts_cons.1 h).1, hd c (by simp)⟩

theorem whole_itoa {s : ByteArray} {p : Nat} {n : Int} (h1 : -9223372036854775808 ≤ n) (h2 : n ≤ 9223372036854775807) (h : starts s p (Lib.itoa n) = true) (he : Stop s (p + (Lib.itoa n).length)) :
    whole s p = .ok [⟨1, n, .empty⟩] (p + (Lib.itoa n).length) := by
  unfold Lib.itoa at h he ⊢
  by_cases hn : n < 0
  · rw [if_pos hn] at h he ⊢
    obtain ⟨a, b⟩ := starts_cons.1 h
    have hl := List.length_pos_iff.2 (dec_ne n.natAbs)
    have hd := digits_dec b (by rw [show p + 1 + (Lib.decDigits n.natAbs).length = p + (45 :: Lib.decDigits n.natAbs).length by simp; omega]; exact he)
    have hcut := cut_starts b
    unfold whole
    simp only [a, decide_true, if_true]
    rw [hd, if_neg (by omega), hcut, numOf_dec, if_neg (by simp; omega), List.length_cons]
    rw [show -((n.natAbs : Nat) : Int) = n by omega, show p + 1 + (Lib.decDigits n.natAbs).length = p + ((Lib.decDigits n.natAbs).length + 1) by omega]
  · rw [if_neg hn] at h he ⊢
    obtain ⟨c, hc, hcd⟩ := dec_first h
    have hne : ¬ at? s p = some 45 := by
      rw [hc]; rintro e; cases e; cases hcd
    have hl := List.length_pos_iff.2 (dec_ne n.toNat)
    have hd := digits_dec h he
    have hcut := cut_starts h
    unfold whole
    simp only [hne, decide_false, Bool.false_eq_true, if_false]
    rw [hd, if_neg (by omega), hcut, numOf_dec, if_neg (by omega)]
    rw [show ((n.toNat : Nat) : Int) = n by omega]
theorem ident_dec {s : ByteArray} {kind : Int} {st p u : Nat} (h1 : 1 ≤ u) (h2 : u ≤ idMost kind) (h : starts s p (Lib.decDigits u ++ [62]) = true) :
    ident s kind st p = .ok [⟨kind, (u : Int), .empty⟩] (p + ((Lib.decDigits u).length + 1)) := by
  obtain ⟨a, b⟩ := starts_append.1 h
  obtain ⟨c, hc, hcd⟩ := dec_first a
  have hl := List.length_pos_iff.2 (dec_ne u)
  have hd := digits_dec a (Stop.at (starts_cons.1 b).1 rfl)
  unfold ident
  simp only
  rw [skip_at hc (digit_solid hcd), hd, if_neg (by omega), cut_starts a, numOf_dec, if_neg (by omega), want_starts b rfl]
  simp only [List.length_nil]
  rw [show p + (Lib.decDigits u).length + (0 + 1) = p + ((Lib.decDigits u).length + 1) by omega]

/-! binaries -/
theorem quotedF_slashed {s : ByteArray} : ∀ (l : List UInt8) (k p : Nat) (acc : List UInt8), l.length < k → starts s p (slashed l ++ [34]) = true → quotedF s k p acc = .ok (acc ++ l) (p + ((slashed l).length + 1)) := by
  intro l
  induction l with
  | nil =>
    intro k p acc hk h
    obtain ⟨k, rfl⟩ : ∃ j, k = j + 1 := ⟨k - 1, by omega⟩
    simp only [slashed, List.flatMap_nil, List.nil_append] at h
    rw [quotedF, (starts_cons.1 h).1]
    simp [slashed]
  | cons c l ih =>
    intro k p acc hk h
    obtain ⟨k, rfl⟩ : ∃ j, k = j + 1 := ⟨k - 1, by omega⟩
    have hk' : l.length < k := by simp at hk; omega
    by_cases hc : c = 34 ∨ c = 92
    · have e : slashed (c :: l) = 92 :: c :: slashed l := by simp only [slashed, List.flatMap_cons]; rw [if_pos hc]; rfl
      rw [e] at h ⊢
      simp only [List.cons_append] at h
      obtain ⟨a, b⟩ := starts_cons.1 h
      obtain ⟨b1, b2⟩ := starts_cons.1 b
      rw [quotedF, a]
      simp only
      rw [if_neg (by decide), if_pos trivial, b1]
      simp only
      rw [if_pos hc, ih k _ _ hk' b2]
      simp; omega
    · have e : slashed (c :: l) = c :: slashed l := by simp only [slashed, List.flatMap_cons]; rw [if_neg hc]; rfl
      rw [e] at h ⊢
      simp only [List.cons_append] at h
      obtain ⟨a, b⟩ := starts_cons.1 h
      rw [quotedF, a]
      simp only
      rw [if_neg fun x => hc (.inl x), if_neg fun x => hc (.inr x), ih k _ _ hk' b]
      simp; omega
theorem bytesF_commas {s : ByteArray} : ∀ (l : List UInt8) (c : UInt8) (k p : Nat) (acc : List UInt8), l.length < k → starts s p (commas (c :: l) ++ [62, 62]) = true → bytesF s k p acc = .ok (acc ++ c :: l) (p + ((commas (c :: l)).length + 2)) := by
  intro l
  induction l with
  | nil =>
    intro c k p acc hk h
    obtain ⟨k, rfl⟩ : ∃ j, k = j + 1 := ⟨k - 1, by omega⟩
    have e : commas [c] = Lib.decDigits c.toNat := by simp [commas]
    rw [e] at h ⊢
    obtain ⟨a, b⟩ := starts_append.1 h
    obtain ⟨d, hd, hdd⟩ := dec_first a
    have b62 := (starts_cons.1 b).1
    have hen := digits_dec a (Stop.at b62 rfl)
    have hl := List.length_pos_iff.2 (dec_ne c.toNat)
    have hlt := c.toNat_lt
    rw [bytesF]
    rw [skip_at hd (digit_solid hdd), hen, if_neg (by omega), cut_starts a, numOf_dec, if_neg (by omega), skip_at b62 rfl, if_neg (by rw [b62]; intro x; cases x), want_starts b rfl]
    simp; omega
  | cons e l ih =>
    intro c k p acc hk h
    obtain ⟨k, rfl⟩ : ∃ j, k = j + 1 := ⟨k - 1, by omega⟩
    have hc : commas (c :: e :: l) = Lib.decDigits c.toNat ++ 44 :: commas (e :: l) := by simp [commas]
    rw [hc] at h ⊢
    rw [List.append_assoc, List.cons_append] at h
    obtain ⟨a, b⟩ := starts_append.1 h
    obtain ⟨d, hd, hdd⟩ := dec_first a
    obtain ⟨b44, b'⟩ := starts_cons.1 b
    have hen := digits_dec a (Stop.at b44 rfl)
    have hl := List.length_pos_iff.2 (dec_ne c.toNat)
    have hlt := c.toNat_lt
    rw [bytesF]
    rw [skip_at hd (digit_solid hdd), hen, if_neg (by omega), cut_starts a, numOf_dec, if_neg (by omega), skip_at b44 rfl, if_pos b44, ih e k _ _ (by simp at hk; omega) b']
    simp; omega
theorem binary_shown {s : ByteArray} {p : Nat} (b : ByteArray) (hb : b.size ≤ 1024) (h : starts s p (shown b.data.toList) = true) :
    binary s p (p + 2) = .ok [⟨8, 0, b⟩] (p + (shown b.data.toList).length) ∧ starts s p [60, 60] = true := by
  have hbl : b.data.toList.length ≤ 1024 := by simpa using hb
  have hbb : bytes b.data.toList = b := by apply ByteArray.ext; simp [bytes]
  unfold shown at h ⊢
  by_cases hp : plainB b.data.toList = true
  · rw [if_pos hp] at h ⊢
    rw [show ([60, 60, 34] : List UInt8) ++ slashed b.data.toList ++ [34, 62, 62] = [60, 60] ++ (34 :: ((slashed b.data.toList ++ [34]) ++ [62, 62])) by simp] at h
    obtain ⟨a, h2⟩ := starts_append.1 h
    simp only [List.length_cons, List.length_nil, Nat.zero_add, Nat.reduceAdd] at h2
    obtain ⟨h34, h3⟩ := starts_cons.1 h2
    obtain ⟨h4, h5⟩ := starts_append.1 h3
    have hen := starts_end' (by simp) h5
    have hq : quoted s (p + 2) = .ok b.data.toList (p + 2 + 1 + ((slashed b.data.toList).length + 1)) := by
      have hsl : ∀ l : List UInt8, l.length ≤ (slashed l).length := by
        intro l
        induction l with
        | nil => simp
        | cons c l ih => simp only [slashed, List.flatMap_cons, List.length_append, List.length_cons] at ih ⊢; split <;> simp only [List.length_cons, List.length_nil] <;> omega
      have := hsl b.data.toList
      rw [quoted, quotedF_slashed _ _ _ _ (by simp only [List.length_append, List.length_cons, List.length_nil] at hen; omega) h4, List.nil_append]
    refine ⟨?_, a⟩
    unfold binary binBytes
    simp only
    rw [skip_at h34 rfl, if_pos h34, hq]
    simp only
    rw [show p + 2 + 1 + ((slashed b.data.toList).length + 1) = p + 2 + 1 + (slashed b.data.toList ++ [34]).length by simp, want_starts h5 rfl]
    simp only
    rw [if_neg (by omega), hbb]
    simp; omega
  · rw [if_neg hp] at h ⊢
    rw [List.append_assoc] at h
    obtain ⟨a, h2⟩ := starts_append.1 h
    simp only [List.length_cons, List.length_nil, Nat.zero_add, Nat.reduceAdd] at h2
    refine ⟨?_, a⟩
    unfold binary binBytes
    simp only
    cases hl : b.data.toList with
    | nil =>
      rw [hl] at h2
      have e : commas [] = [] := rfl
      rw [e, List.nil_append] at h2
      have h62 := (starts_cons.1 h2).1
      rw [skip_at h62 rfl, if_neg (by rw [h62]; intro x; cases x), if_pos h2, e]
      simp only [List.length_nil]
      rw [if_neg (by omega), show bytes [] = b by rw [← hl]; exact hbb]; rfl
    | cons c l =>
      rw [hl] at h2 hbl
      have hen := starts_end' (by simp) h2
      have hfirst : ∃ d, at? s (p + 2) = some d ∧ digitB d = true := by
        have : commas (c :: l) = Lib.decDigits c.toNat ++ l.flatMap fun d => 44 :: Lib.decDigits d.toNat := rfl
        rw [this, List.append_assoc] at h2
        exact dec_first (starts_append.1 h2).1
      obtain ⟨d, hd, hdd⟩ := hfirst
      have hcl : ∀ l : List UInt8, l.length ≤ (commas l).length := by
        have key : ∀ l : List UInt8, l.length ≤ (l.flatMap fun d => 44 :: Lib.decDigits d.toNat).length := by
          intro l
          induction l with
          | nil => simp
          | cons c l ih => simp only [List.flatMap_cons, List.length_append, List.length_cons] at ih ⊢; omega
        intro l
        cases l with
        | nil => simp
        | cons c l =>
          have := key l
          have := List.length_pos_iff.2 (dec_ne c.toNat)
          simp only [commas, List.length_append, List.length_cons]; omega
      have := hcl (c :: l)
      rw [skip_at hd (digit_solid hdd), if_neg (by rw [hd]; rintro ⟨⟩; cases hdd), if_neg (by intro x; rw [(starts_cons.1 x).1] at hd; cases hd; cases hdd)]
      rw [bytesF_commas l c _ _ _ (by simp only [List.length_append, List.length_cons, List.length_nil] at hen this; omega) h2]
      simp only [List.nil_append]
      rw [if_neg (by omega), show bytes (c :: l) = b by rw [← hl]; exact hbb]
      simp; omega
end Go.Proofs.YtebdikbngnolbaaDoor.Txt

namespace Go.Proofs.YtebdikbngnolbaaDoor.Txt
set_option linter.unusedVariables false
set_option linter.unusedSimpArgs false

theorem starts_drop {s : ByteArray} {p : Nat} {l : List UInt8} (h : starts s p l = true) : ∃ u, s.data.toList.drop p = l ++ u := by
  rw [starts_prefix, List.isPrefixOf_iff_prefix] at h
  obtain ⟨u, hu⟩ := h
  exact ⟨u, hu.symm⟩
/-- A right rune is decoded alike, whatever stands behind it. -/
theorem dec_win (l rest : List UInt8) (hne : l ≠ []) (hv : ¬ ((Lib.decodeL l).1 = 65533 ∧ (Lib.decodeL l).2 = 1)) : Lib.decodeL (l.take (Lib.decodeL l).2 ++ rest) = Lib.decodeL l := by
  have hle := Lib.decodeL_le l hne
  have hg : ∀ n j, j < n → n ≤ l.length → (l.take n ++ rest).getD j 0 = l.getD j 0 := by
    intro n j hj hn
    simp only [List.getD]
    rw [List.getElem?_append_left (by rw [List.length_take]; omega), List.getElem?_take, if_pos hj]
  have hlen : ∀ n, n ≤ l.length → n ≤ (l.take n ++ rest).length := by intro n hn; simp; omega
  have hN := Lib.decodeL_N l
  rcases Lib.decodeN_shape l.length (l.getD 0 0).toNat (l.getD 1 0).toNat (l.getD 2 0).toNat (l.getD 3 0).toNat with ⟨c, e⟩ | ⟨c1, c2, c3, cv, e⟩ | ⟨c1, c2, c3, c4, cv, cs, e⟩ | ⟨c1, c2, c3, c4, c5, cv, cw, e⟩ | e
  all_goals rw [e] at hN
  · rw [hN] at hle ⊢
    rw [Lib.decodeL_N, hg 1 0 (by omega) hle]
    unfold Lib.decodeN
    rw [if_pos c]
  · rw [hN] at hle ⊢
    have := hlen 2 hle
    rw [Lib.decodeL_N, hg 2 0 (by omega) hle, hg 2 1 (by omega) hle]
    unfold Lib.decodeN
    rw [if_neg (by omega), if_pos ⟨c1, by simp only; omega, c3⟩, if_pos cv]
  · rw [hN] at hle ⊢
    have := hlen 3 hle
    rw [Lib.decodeL_N, hg 3 0 (by omega) hle, hg 3 1 (by omega) hle, hg 3 2 (by omega) hle]
    unfold Lib.decodeN
    rw [if_neg (by omega), if_neg (by omega), if_pos ⟨c1, ⟨by simp only; omega, c3⟩, by simp only; omega, c4⟩, if_pos ⟨cv, by omega⟩]
  · rw [hN] at hle ⊢
    have := hlen 4 hle
    rw [Lib.decodeL_N, hg 4 0 (by omega) hle, hg 4 1 (by omega) hle, hg 4 2 (by omega) hle, hg 4 3 (by omega) hle]
    unfold Lib.decodeN
    rw [if_neg (by omega), if_neg (by omega), if_neg (by omega), if_pos ⟨c1, ⟨by simp only; omega, c3⟩, ⟨by simp only; omega, c4⟩, by simp only; omega, c5⟩, if_pos ⟨cv, by omega⟩]
  · rw [hN] at hv
    exact absurd ⟨rfl, rfl⟩ hv
theorem drop_ne {b : ByteArray} {i : Nat} (h : i < b.size) : b.data.toList.drop i ≠ [] := by
  intro e
  have := congrArg List.length e
  simp at this
  have h' : i < b.data.size := h
  omega
/-- A rune that stands at a place of a text as it stands in a right one. -/
theorem decode_copy {s b : ByteArray} {p i : Nat} (hi : i < b.size) (hv : ¬ ((Utf8.decode b i).1 = 65533 ∧ (Utf8.decode b i).2 = 1)) (h : starts s p ((b.data.toList.drop i).take (Utf8.decode b i).2) = true) : Utf8.decode s p = Utf8.decode b i := by
  obtain ⟨u, hu⟩ := starts_drop h
  rw [← Lib.decodeL_drop s p, hu]
  have hd := Lib.decodeL_drop b i
  rw [← hd] at hv ⊢
  exact dec_win _ u (drop_ne hi) hv
theorem decode_at? {s : ByteArray} {p : Nat} {c : UInt8} (h : at? s p = some c) (hc : c.toNat < 128) : p < s.size ∧ Utf8.decode s p = (c.toNat, 1) := by
  obtain ⟨hlt, e⟩ := at?_some h
  refine ⟨hlt, ?_⟩
  rw [decode_ascii s p hlt (by rw [e]; exact hc), e]

/-- Runes are encoded as the library has it. -/
def EncAs : Prop := ∀ r : Nat, Lib.encodeRune (r : Int) = (Utf8.encode (r : Int)).data.toList
theorem enc_ascii (r : Nat) (h : r < 128) : (Utf8.encode (r : Int)).data.toList = [UInt8.ofNat r] := by
  unfold Utf8.encode
  have hv : Utf8.valid (r : Int) = true := by
    simp only [Utf8.valid, Bool.or_eq_true, Bool.and_eq_true, decide_eq_true_eq]; omega
  simp only [hv, if_true, Int.toNat_natCast]
  rw [if_pos (by omega)]
theorem enc_dec (he : EncAs) {b : ByteArray} {i : Nat} (hi : i < b.size) (hv : ¬ ((Utf8.decode b i).1 = 65533 ∧ (Utf8.decode b i).2 = 1)) : (Utf8.encode ((Utf8.decode b i).1 : Int)).data.toList = (b.data.toList.drop i).take (Utf8.decode b i).2 := by
  rw [← he, ← Lib.decodeL_drop b i] at *
  exact Lib.encode_decode _ (drop_ne hi) hv

theorem special_plain {s : ByteArray} {p : Nat} {c : UInt8} (acc : List UInt8) (r : Nat) (h : at? s p = some c) (hc : c.toNat < 128) (h1 : c.toNat ≠ 120) (h2 : c.toNat ≠ 94) (h3 : ¬ (48 ≤ c.toNat ∧ c.toNat ≤ 55)) (hu : (unescape c.toNat).getD c.toNat = r) :
    specialA s ⟨p, acc, false⟩ = some ⟨p + 1, acc ++ (Utf8.encode (r : Int)).data.toList, false⟩ := by
  obtain ⟨hlt, hd⟩ := decode_at? h hc
  unfold specialA
  simp only [hd]
  rw [if_pos hlt, if_neg (by omega), if_neg h1, if_neg h2, if_neg h3]
  simp only [if_true, hu]
theorem hexd_val : ∀ h, h < 16 → digVal 16 (hexd h) = some h := by decide
theorem digits_hex {s : ByteArray} {p r m : Nat} (hr : r < 160) (hm : 3 ≤ m) (h : starts s p (hexT r ++ [125]) = true) : digitsF s 16 m p 0 0 = ((hexT r).length, r, p + (hexT r).length) := by
  have h125 : digVal 16 125 = none := rfl
  unfold hexT at h ⊢
  by_cases h16 : r < 16
  · rw [if_pos h16] at h ⊢
    obtain ⟨a, b⟩ := starts_cons.1 h
    have b := (starts_cons.1 b).1
    obtain ⟨m, rfl⟩ : ∃ j, m = j + 2 := ⟨m - 2, by omega⟩
    rw [digitsF, a]
    simp only [Option.bind_some, hexd_val r h16]
    rw [digitsF, b]
    simp only [Option.bind_some, h125]
    simp; omega
  · rw [if_neg h16] at h ⊢
    obtain ⟨a, b⟩ := starts_cons.1 h
    obtain ⟨b, c⟩ := starts_cons.1 b
    have c := (starts_cons.1 c).1
    obtain ⟨m, rfl⟩ : ∃ j, m = j + 3 := ⟨m - 3, by omega⟩
    rw [digitsF, a]
    simp only [Option.bind_some, hexd_val (r / 16) (by omega)]
    rw [digitsF, b]
    simp only [Option.bind_some, hexd_val (r % 16) (by omega)]
    rw [digitsF, c]
    simp only [Option.bind_some, h125]
    simp; omega
theorem special_hex {s : ByteArray} {p r : Nat} (acc : List UInt8) (hr : r < 160) (h : starts s p (120 :: 123 :: (hexT r ++ [125])) = true) :
    specialA s ⟨p, acc, false⟩ = some ⟨p + ((hexT r).length + 3), acc ++ (Utf8.encode (r : Int)).data.toList, false⟩ := by
  have hlen : 1 ≤ (hexT r).length := by unfold hexT; split <;> simp
  obtain ⟨a, h2⟩ := starts_cons.1 h
  obtain ⟨b, h3⟩ := starts_cons.1 h2
  obtain ⟨hlt, hd⟩ := decode_at? a (by decide)
  have hen := starts_end' (by simp) h3
  simp only [List.length_append, List.length_cons, List.length_nil] at hen
  have c := (starts_cons.1 (starts_append.1 h3).2).1
  have hF := digits_hex hr (m := s.size) (by omega) h3
  unfold specialA
  simp only [hd]
  rw [if_pos hlt, if_neg (by decide), if_pos (by decide)]
  unfold hexA
  rw [if_pos b]
  unfold digitsA
  simp only [hF]
  rw [if_neg (by omega)]
  unfold putA
  rw [if_neg (by omega)]
  simp only
  rw [if_pos c]
  congr 2
  omega
theorem escape_cases {r : Nat} (h : escape r ≠ 0) : r = 8 ∨ r = 9 ∨ r = 10 ∨ r = 11 ∨ r = 12 ∨ r = 13 ∨ r = 27 ∨ r = 127 := by
  unfold escape at h
  repeat (split at h; · omega)
  exact absurd rfl h
theorem slash_step {s : ByteArray} {k p : Nat} {acc : List UInt8} {y : AS} (h : at? s p = some 92) (hs : specialA s ⟨p + 1, acc, false⟩ = some y) : quotedAF s (k + 1) ⟨p, acc, false⟩ = quotedAF s k y := by
  obtain ⟨hlt, hd⟩ := decode_at? h (by decide)
  rw [quotedAF]
  simp only [hd]
  rw [if_pos hlt, if_neg (by decide), if_neg (by decide), if_pos (by decide), hs]
/-- One rune, read back. -/
theorem piece_step (he : EncAs) {s b : ByteArray} {i k p : Nat} (acc : List UInt8) (hi : i < b.size) (hv : ¬ ((Utf8.decode b i).1 = 65533 ∧ (Utf8.decode b i).2 = 1)) (h : starts s p (piece (Utf8.decode b i).1) = true) :
    quotedAF s (k + 1) ⟨p, acc, false⟩ = quotedAF s k ⟨p + (piece (Utf8.decode b i).1).length, acc ++ (b.data.toList.drop i).take (Utf8.decode b i).2, false⟩ := by
  have hed := enc_dec he hi hv
  have hwp : 1 ≤ (Utf8.decode b i).2 := by
    rw [← Lib.decodeL_drop]; exact Lib.decodeL_width _
  have hwl : (Utf8.decode b i).2 ≤ (b.data.toList.drop i).length := by
    rw [← Lib.decodeL_drop]; exact Lib.decodeL_le _ (drop_ne hi)
  have hcopy := fun (hs : starts s p ((b.data.toList.drop i).take (Utf8.decode b i).2) = true) => decode_copy hi hv hs
  rw [← hed]
  have hlen : (Utf8.encode ((Utf8.decode b i).1 : Int)).data.toList.length = (Utf8.decode b i).2 := by rw [hed, List.length_take]; omega
  rw [← hed] at hcopy
  generalize Utf8.decode b i = d at *
  obtain ⟨r, n⟩ := d
  simp only at *
  unfold piece at h ⊢
  by_cases h1 : r = 39 ∨ r = 92
  · rw [if_pos h1] at h ⊢
    have hr : r < 128 := by omega
    rw [enc_ascii r hr] at h ⊢
    obtain ⟨a, b⟩ := starts_cons.1 h
    have b := (starts_cons.1 b).1
    have e := special_plain (s := s) (p := p + 1) acc r b (by rcases h1 with rfl | rfl <;> decide) (by rcases h1 with rfl | rfl <;> decide) (by rcases h1 with rfl | rfl <;> decide) (by rcases h1 with rfl | rfl <;> decide) (by rcases h1 with rfl | rfl <;> rfl)
    rw [slash_step a e, enc_ascii r hr]
    rfl
  · rw [if_neg h1] at h ⊢
    by_cases h2 : escape r ≠ 0
    · rw [if_pos h2] at h ⊢
      obtain ⟨a, b⟩ := starts_cons.1 h
      have b := (starts_cons.1 b).1
      have hc := escape_cases h2
      have e := special_plain (s := s) (p := p + 1) acc r b (by rcases hc with rfl | rfl | rfl | rfl | rfl | rfl | rfl | rfl <;> decide) (by rcases hc with rfl | rfl | rfl | rfl | rfl | rfl | rfl | rfl <;> decide) (by rcases hc with rfl | rfl | rfl | rfl | rfl | rfl | rfl | rfl <;> decide) (by rcases hc with rfl | rfl | rfl | rfl | rfl | rfl | rfl | rfl <;> decide) (by rcases hc with rfl | rfl | rfl | rfl | rfl | rfl | rfl | rfl <;> rfl)
      rw [slash_step a e]
      rfl
    · rw [if_neg h2] at h ⊢
      by_cases h3 : r < 32 ∨ (128 ≤ r ∧ r < 160)
      · rw [if_pos h3] at h ⊢
        have hr : r < 160 := by omega
        rw [show ([92, 120, 123] : List UInt8) ++ hexT r ++ [125] = 92 :: 120 :: 123 :: (hexT r ++ [125]) by simp] at h ⊢
        obtain ⟨a, b⟩ := starts_cons.1 h
        rw [slash_step a (special_hex acc hr b)]
        rw [show p + 1 + ((hexT r).length + 3) = p + (92 :: 120 :: 123 :: (hexT r ++ [125])).length by simp only [List.length_cons, List.length_append, List.length_nil]; omega]
      · rw [if_neg h3] at h ⊢
        have hd := hcopy h
        have hlt : p < s.size := by
          have := starts_end' (l := (Utf8.encode (r : Int)).data.toList) (by intro e; rw [e] at hlen; simp at hlen; omega) h
          omega
        rw [quotedAF]
        simp only [hd]
        rw [if_pos hlt, if_neg (by omega), if_neg (by omega), if_neg (by omega), hlen]
theorem pieces_read (he : EncAs) {s b : ByteArray} : ∀ (n i k p : Nat) (acc : List UInt8), b.size - i ≤ n → spelledF b n i = true → starts s p (piecesF b n i ++ [39]) = true → (piecesF b n i).length < k →
    quotedAF s k ⟨p, acc, false⟩ = some ⟨p + (piecesF b n i).length + 1, acc ++ b.data.toList.drop i, false⟩ := by
  have fin : ∀ (i k p : Nat) (acc : List UInt8), b.size ≤ i → 0 < k → at? s p = some 39 → quotedAF s k ⟨p, acc, false⟩ = some ⟨p + 0 + 1, acc ++ b.data.toList.drop i, false⟩ := by
    intro i k p acc hi hk h
    obtain ⟨k, rfl⟩ : ∃ j, k = j + 1 := ⟨k - 1, by omega⟩
    obtain ⟨hlt, hd⟩ := decode_at? h (by decide)
    rw [quotedAF]
    simp only [hd]
    rw [if_pos hlt, if_neg (by decide), if_pos (by decide), List.drop_eq_nil_of_le (by simpa using hi), List.append_nil]
  intro n
  induction n with
  | zero =>
    intro i k p acc hi hsp h hk
    exact fin i k p acc (by omega) (by omega) (starts_cons.1 h).1
  | succ n ih =>
    intro i k p acc hi hsp h hk
    rw [piecesF] at h hk ⊢
    by_cases hlt : i < b.size
    · rw [if_pos hlt] at h hk ⊢
      rw [spelledF, if_pos hlt] at hsp
      have hv : ¬ ((Utf8.decode b i).1 = 65533 ∧ (Utf8.decode b i).2 = 1) := by
        intro x; rw [if_pos x] at hsp; cases hsp
      rw [if_neg hv] at hsp
      have hwp : 1 ≤ (Utf8.decode b i).2 := by
        rw [← Lib.decodeL_drop]; exact Lib.decodeL_width _
      rw [List.append_assoc] at h
      obtain ⟨a, c⟩ := starts_append.1 h
      rw [List.length_append] at hk
      have hpl : 1 ≤ (piece (Utf8.decode b i).1).length := by
        by_cases e : (piece (Utf8.decode b i).1).length = 0
        · exfalso
          have := List.length_eq_zero_iff.1 e
          unfold piece at this
          by_cases h1 : (Utf8.decode b i).1 = 39 ∨ (Utf8.decode b i).1 = 92
          · rw [if_pos h1] at this; cases this
          · rw [if_neg h1] at this
            by_cases h2 : escape (Utf8.decode b i).1 ≠ 0
            · rw [if_pos h2] at this; cases this
            · rw [if_neg h2] at this
              by_cases h3 : (Utf8.decode b i).1 < 32 ∨ (128 ≤ (Utf8.decode b i).1 ∧ (Utf8.decode b i).1 < 160)
              · rw [if_pos h3] at this; simp at this
              · rw [if_neg h3, enc_dec he hlt hv] at this
                have := congrArg List.length this
                have hwl : (Utf8.decode b i).2 ≤ (b.data.toList.drop i).length := by
                  rw [← Lib.decodeL_drop]; exact Lib.decodeL_le _ (drop_ne hlt)
                rw [List.length_take, List.length_nil] at this
                omega
        · omega
      obtain ⟨k, rfl⟩ : ∃ j, k = j + 1 := ⟨k - 1, by omega⟩
      rw [piece_step he acc hlt hv a, ih (i + (Utf8.decode b i).2) k _ _ (by omega) hsp c (by omega)]
      rw [List.append_assoc, ← List.drop_drop, List.take_append_drop, List.length_append]
      congr 2
      omega
    · rw [if_neg hlt] at h hk ⊢
      exact fin i k p acc (by omega) (by omega) (starts_cons.1 h).1

theorem scan_quote (he : EncAs) {s b : ByteArray} {p : Nat} (hb : atomOk b = true) (h : starts s p (quote b).1 = true) (hstop : Stop s (p + (quote b).1.length)) :
    scan s p = .ok b (p + (quote b).1.length) ∧ ∃ c, at? s p = some c ∧ (c = 39 ∨ smallB c = true) := by
  have hbb : bytes b.data.toList = b := by apply ByteArray.ext; simp [bytes]
  have hsz : b.size ≤ 255 ∧ spelled b = true := by
    simpa [atomOk] using hb
  unfold quote at h hstop ⊢
  rw [if_pos hb] at h hstop ⊢
  by_cases hbare : bare b = true
  · rw [if_pos hbare] at h hstop ⊢
    simp only at h hstop ⊢
    simp only [bare, Bool.and_eq_true, decide_eq_true_eq, Bool.not_eq_true'] at hbare
    obtain ⟨⟨⟨hne, hle⟩, hrun⟩, hres⟩ := hbare
    have hpos : 0 < b.size := by omega
    have hl : b.data.toList.length = b.size := by simp
    -- its bytes
    have hsm : smallB b[0] = true := by
      unfold runEnd at hrun
      rw [dif_pos hpos] at hrun
      split at hrun
      · assumption
      · omega
    have hin : ∀ c ∈ b.data.toList, insideB c = true := by
      have hsp : span insideB b 0 = b.size := by
        unfold runEnd at hrun
        rw [dif_pos hpos, if_pos hsm] at hrun; exact hrun
      intro c hc
      obtain ⟨j, hj, e⟩ := List.mem_iff_getElem.1 hc
      obtain ⟨h1, h2⟩ := span_in (f := insideB) (s := b) (p := 0) (q := j) (by omega) (by rw [hsp]; omega)
      rw [← e]; exact h2
    have h0 : at? s p = some b[0] := by
      have := starts_at h (i := 0) (by omega)
      rw [Nat.add_zero, List.getElem?_eq_getElem (by omega)] at this
      rw [this]; rfl
    obtain ⟨hlt, e0⟩ := at?_some h0
    have hrunS : runEnd s p = p + b.data.toList.length := by
      unfold runEnd
      rw [dif_pos hlt, e0, if_pos hsm]
      exact span_starts h hin hstop
    refine ⟨?_, b[0], h0, .inr hsm⟩
    unfold scan
    rw [if_neg (by rw [h0]; intro x; have x := Option.some.inj x; rw [x] at hsm; cases hsm), hrunS, cut_starts h, if_neg (by rintro (x | x); omega; rw [hres] at x; cases x), if_neg (by omega), extract_starts h]
  · rw [if_neg hbare] at h hstop ⊢
    simp only at h hstop ⊢
    obtain ⟨a, h2⟩ := starts_cons.1 h
    have hen := starts_end' (by simp) h2
    simp only [List.length_append, List.length_cons, List.length_nil] at hen
    have hq := pieces_read he b.size 0 (s.size - p) (p + 1) [] (by omega) hsz.2 h2 (by omega)
    refine ⟨?_, 39, a, .inl rfl⟩
    unfold scan
    rw [if_pos a, hq]
    simp only [List.nil_append, List.drop_zero, hbb, hb, Bool.not_true, Bool.or_self, Bool.false_eq_true, if_false]
    simp; omega
end Go.Proofs.YtebdikbngnolbaaDoor.Txt
