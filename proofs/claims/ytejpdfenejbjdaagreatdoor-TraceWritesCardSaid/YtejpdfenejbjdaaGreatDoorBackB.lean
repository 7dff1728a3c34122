/- Plain law: what is printed of a cell is read as the cell: numbers, names, binaries. -/
import Derived.Test.YtejpdfenejbjdaaGreatDoorBackA
namespace Go.Proofs.YtejpdfenejbjdaaGreatDoor.Txt
set_option linter.unusedVariables false
set_option linter.unusedSimpArgs false

theorem starts_nil (s : ByteArray) (p : Nat) : starts s p [] = true := rfl
theorem starts_cons {s : ByteArray} {p : Nat} {c : UInt8} {l : List UInt8} : starts s p (c :: l) = true ↔ at? s p = some c ∧ starts s (p + 1) l = true := by
  simp [starts]
theorem starts_append {s : ByteArray} {l u : List UInt8} : ∀ {p : Nat}, starts s p (l ++ u) = true ↔ starts s p l = true ∧ starts s (p + l.length) u = true := by
  induction l with
  | nil => intro p; simp [starts]
  | cons c l ih =>
    intro p
    rw [List.cons_append, starts_cons, starts_cons, ih, List.length_cons, show p + (l.length + 1) = p + 1 + l.length by omega, and_assoc]
theorem starts_at {s : ByteArray} {l : List UInt8} : ∀ {p i : Nat}, starts s p l = true → i < l.length → at? s (p + i) = l[i]? := by
  induction l with
  | nil => intro p i _ h; simp at h
  | cons c l ih =>
    intro p i h hi
    obtain ⟨h1, h2⟩ := starts_cons.1 h
    cases i with
    | zero => simpa using h1
    | succ i => rw [show p + (i + 1) = p + 1 + i by omega, ih h2 (by simpa using hi)]; rfl
theorem starts_all {s : ByteArray} {l : List UInt8} : ∀ {p : Nat}, (∀ i, i < l.length → at? s (p + i) = l[i]?) → starts s p l = true := by
  induction l with
  | nil => intro p _; rfl
  | cons c l ih =>
    intro p h
    refine starts_cons.2 ⟨by simpa using h 0 (by simp), ih fun i hi => ?_⟩
    have := h (i + 1) (by simp; omega)
    rw [show p + (i + 1) = p + 1 + i by omega] at this
    simpa using this
theorem starts_end' {s : ByteArray} {p : Nat} {l : List UInt8} (hl : l ≠ []) (h : starts s p l = true) : p + l.length ≤ s.size := by
  have := starts_at h (i := l.length - 1) (by have := List.length_pos_iff.2 hl; omega)
  have hp := List.length_pos_iff.2 hl
  rw [List.getElem?_eq_getElem (by omega)] at this
  obtain ⟨hlt, -⟩ := at?_some this
  omega
theorem cut_starts {s : ByteArray} {p : Nat} {l : List UInt8} (h : starts s p l = true) : cut s p (p + l.length) = l := by
  unfold cut
  simp only [ByteArray.data_extract, Array.toList_extract, List.extract]
  apply List.ext_getElem?
  intro i
  rw [show p + l.length - p = l.length by omega, List.getElem?_take]
  split
  · rw [List.getElem?_drop, ← at?_list, starts_at h (by assumption)]
  · rw [List.getElem?_eq_none (by omega)]
theorem extract_starts {s b : ByteArray} {p : Nat} (h : starts s p b.data.toList = true) : s.extract p (p + b.data.toList.length) = b := by
  apply ByteArray.ext
  exact Array.toList_inj.1 (cut_starts h)
theorem span_starts {f : UInt8 → Bool} {s : ByteArray} : ∀ {l : List UInt8} {p : Nat}, starts s p l = true → (∀ c ∈ l, f c = true) → (∀ c, at? s (p + l.length) = some c → f c = false) → span f s p = p + l.length := by
  intro l
  induction l with
  | nil =>
    intro p _ _ h
    by_cases hp : p < s.size
    · rw [List.length_nil]; exact span_no hp (h _ (at?_lt hp))
    · exact span_end (by omega)
  | cons c l ih =>
    intro p hs hf he
    obtain ⟨h1, h2⟩ := starts_cons.1 hs
    obtain ⟨hlt, e⟩ := at?_some h1
    rw [span_yes hlt (by rw [e]; exact hf c (by simp)), ih h2 (fun d hd => hf d (by simp [hd])) (fun d hd => he d (by rw [← hd]; congr 1; simp; omega))]
    simp; omega
theorem skip_at {s : ByteArray} {p : Nat} {c : UInt8} (h : at? s p = some c) (hc : blankB c = false) : skip s p = p := by
  obtain ⟨hlt, e⟩ := at?_some h
  exact span_no hlt (by rw [e]; exact hc)
theorem want_starts {s : ByteArray} {p : Nat} {c : UInt8} {l : List UInt8} (h : starts s p (c :: l) = true) (hc : blankB c = false) : want s p (c :: l) = .ok () (p + (l.length + 1)) := by
  rw [want, skip_at (starts_cons.1 h).1 hc, h, if_pos rfl]; rfl
/-! numbers -/
theorem numOf_append (l : List UInt8) (c : UInt8) : numOf (l ++ [c]) = numOf l * 10 + (c.toNat - 48) := by simp [numOf]
theorem numOf_dec (u : Nat) : numOf (Lib.decDigits u) = u := by
  have one : ∀ i, i < 10 → (UInt8.ofNat (48 + i)).toNat - 48 = i := by decide
  induction u using Nat.strongRecOn with
  | _ u ih =>
    rw [Lib.decDigits]
    split
    · rename_i h
      simp only [numOf, List.foldl_cons, List.foldl_nil]
      rw [one u h]; omega
    · rw [numOf_append, ih _ (by omega), one _ (by omega)]; omega
theorem stop_digit {c : UInt8} (h : insideB c = false) : digitB c = false := by
  cases hd : digitB c with
  | false => rfl
  | true => simp [insideB, hd] at h
theorem digits_dec {s : ByteArray} {p u : Nat} (h : starts s p (Lib.decDigits u) = true) (he : Stop s (p + (Lib.decDigits u).length)) : digitsEnd s p = p + (Lib.decDigits u).length :=
  span_starts h (dec_digit u) fun c hc => stop_digit (he c hc)
/-- The first sign of a number. -/
theorem dec_first {s : ByteArray} {p u : Nat} (h : starts s p (Lib.decDigits u) = true) : ∃ c, at? s p = some c ∧ digitB c = true := by
  have hd := dec_digit u
  cases hl : Lib.decDigits u with
  | nil => exact absurd hl (dec_ne u)
  | cons c l =>
    rw [hl] at h hd
    exact ⟨c, (starts_cons.1 h).1, hd c (by simp)⟩
theorem whole_itoa {s : ByteArray} {p : Nat} {n : Int} (h1 : -9223372036854775808 ≤ n) (h2 : n ≤ 9223372036854775807) (h : starts s p (Lib.itoa n) = true) (he : Stop s (p + (Lib.itoa n).length)) :
    whole s p = .ok [⟨1, n, .empty⟩] (p + (Lib.itoa n).length) := by
  unfold Lib.itoa at h he ⊢
  by_cases hn : n < 0
  · rw [if_pos hn] at h he ⊢
    obtain ⟨a, b⟩ := starts_cons.1 h
    have hl := List.length_pos_iff.2 (dec_ne n.natAbs)
    have hd := digits_dec b (by rw [show p + 1 + (Lib.decDigits n.natAbs).length = p + (45 :: Lib.decDigits n.natAbs).length by simp; omega]; exact he)
    have hcut := cut_starts b
    unfold whole
    simp only [a, decide_true, if_true]
    rw [hd, if_neg (by omega), hcut, numOf_dec, if_neg (by simp; omega), List.length_cons]
    rw [show -((n.natAbs : Nat) : Int) = n by omega, show p + 1 + (Lib.decDigits n.natAbs).length = p + ((Lib.decDigits n.natAbs).length + 1) by omega]
  · rw [if_neg hn] at h he ⊢
    obtain ⟨c, hc, hcd⟩ := dec_first h
    have hne : ¬ at? s p = some 45 := by
      rw [hc]; rintro e; cases e; cases hcd
    have hl := List.length_pos_iff.2 (dec_ne n.toNat)
    have hd := digits_dec h he
    have hcut := cut_starts h
    unfold whole
    simp only [hne, decide_false, Bool.false_eq_true, if_false]
    rw [hd, if_neg (by omega), hcut, numOf_dec, if_neg (by omega)]
    rw [show ((n.toNat : Nat) : Int) = n by omega]
theorem ident_dec {s : ByteArray} {kind : Int} {st p u : Nat} (h1 : 1 ≤ u) (h2 : u ≤ idMost kind) (h : starts s p (Lib.decDigits u ++ [62]) = true) :
    ident s kind st p = .ok [⟨kind, (u : Int), .empty⟩] (p + ((Lib.decDigits u).length + 1)) := by
  obtain ⟨a, b⟩ := starts_append.1 h
  obtain ⟨c, hc, hcd⟩ := dec_first a
  have hl := List.length_pos_iff.2 (dec_ne u)
  have hd := digits_dec a (Stop.at (starts_cons.1 b).1 rfl)
  unfold ident
  simp only
  rw [skip_at hc (digit_solid hcd), hd, if_neg (by omega), cut_starts a, numOf_dec, if_neg (by omega), want_starts b rfl]
  simp only [List.length_nil]
  rw [show p + (Lib.decDigits u).length + (0 + 1) = p + ((Lib.decDigits u).length + 1) by omega]
/-! binaries -/
theorem quotedF_slashed {s : ByteArray} : ∀ (l : List UInt8) (k p : Nat) (acc : List UInt8), l.length < k → starts s p (slashed l ++ [34]) = true → quotedF s k p acc = .ok (acc ++ l) (p + ((slashed l).length + 1)) := by
  intro l
  induction l with
  | nil =>
    intro k p acc hk h
    obtain ⟨k, rfl⟩ : ∃ j, k = j + 1 := ⟨k - 1, by omega⟩
    simp only [slashed, List.flatMap_nil, List.nil_append] at h
    rw [quotedF, (starts_cons.1 h).1]
    simp [slashed]
  | cons c l ih =>
    intro k p acc hk h
    obtain ⟨k, rfl⟩ : ∃ j, k = j + 1 := ⟨k - 1, by omega⟩
    have hk' : l.length < k := by simp at hk; omega
    by_cases hc : c = 34 ∨ c = 92
    · have e : slashed (c :: l) = 92 :: c :: slashed l := by simp only [slashed, List.flatMap_cons]; rw [if_pos hc]; rfl
      rw [e] at h ⊢
      simp only [List.cons_append] at h
      obtain ⟨a, b⟩ := starts_cons.1 h
      obtain ⟨b1, b2⟩ := starts_cons.1 b
      rw [quotedF, a]
      simp only
      rw [if_neg (by decide), if_pos trivial, b1]
      simp only
      rw [if_pos hc, ih k _ _ hk' b2]
      simp; omega
    · have e : slashed (c :: l) = c :: slashed l := by simp only [slashed, List.flatMap_cons]; rw [if_neg hc]; rfl
      rw [e] at h ⊢
      simp only [List.cons_append] at h
      obtain ⟨a, b⟩ := starts_cons.1 h
      rw [quotedF, a]
      simp only
      rw [if_neg fun x => hc (.inl x), if_neg fun x => hc (.inr x), ih k _ _ hk' b]
      simp; omega
theorem bytesF_commas {s : ByteArray} : ∀ (l : List UInt8) (c : UInt8) (k p : Nat) (acc : List UInt8), l.length < k → starts s p (commas (c :: l) ++ [62, 62]) = true → bytesF s k p acc = .ok (acc ++ c :: l) (p + ((commas (c :: l)).length + 2)) := by
  intro l
  induction l with
  | nil =>
    intro c k p acc hk h
    obtain ⟨k, rfl⟩ : ∃ j, k = j + 1 := ⟨k - 1, by omega⟩
    have e : commas [c] = Lib.decDigits c.toNat := by simp [commas]
    rw [e] at h ⊢
    obtain ⟨a, b⟩ := starts_append.1 h
    obtain ⟨d, hd, hdd⟩ := dec_first a
    have b62 := (starts_cons.1 b).1
    have hen := digits_dec a (Stop.at b62 rfl)
    have hl := List.length_pos_iff.2 (dec_ne c.toNat)
    have hlt := c.toNat_lt
    rw [bytesF]
    rw [skip_at hd (digit_solid hdd), hen, if_neg (by omega), cut_starts a, numOf_dec, if_neg (by omega), skip_at b62 rfl, if_neg (by rw [b62]; intro x; cases x), want_starts b rfl]
    simp; omega
  | cons e l ih =>
    intro c k p acc hk h
    obtain ⟨k, rfl⟩ : ∃ j, k = j + 1 := ⟨k - 1, by omega⟩
    have hc : commas (c :: e :: l) = Lib.decDigits c.toNat ++ 44 :: commas (e :: l) := by simp [commas]
    rw [hc] at h ⊢
    rw [List.append_assoc, List.cons_append] at h
    obtain ⟨a, b⟩ := starts_append.1 h
    obtain ⟨d, hd, hdd⟩ := dec_first a
    obtain ⟨b44, b'⟩ := starts_cons.1 b
    have hen := digits_dec a (Stop.at b44 rfl)
    have hl := List.length_pos_iff.2 (dec_ne c.toNat)
    have hlt := c.toNat_lt
    rw [bytesF]
    rw [skip_at hd (digit_solid hdd), hen, if_neg (by omega), cut_starts a, numOf_dec, if_neg (by omega), skip_at b44 rfl, if_pos b44, ih e k _ _ (by simp at hk; omega) b']
    simp; omega
theorem binary_shown {s : ByteArray} {p : Nat} (b : ByteArray) (hb : b.size ≤ 1024) (h : starts s p (shown b.data.toList) = true) :
    binary s p (p + 2) = .ok [⟨8, 0, b⟩] (p + (shown b.data.toList).length) ∧ starts s p [60, 60] = true := by
  have hbl : b.data.toList.length ≤ 1024 := by simpa using hb
  have hbb : bytes b.data.toList = b := by apply ByteArray.ext; simp [bytes]
  unfold shown at h ⊢
  by_cases hp : plainB b.data.toList = true
  · rw [if_pos hp] at h ⊢
    rw [show ([60, 60, 34] : List UInt8) ++ slashed b.data.toList ++ [34, 62, 62] = [60, 60] ++ (34 :: ((slashed b.data.toList ++ [34]) ++ [62, 62])) by simp] at h
    obtain ⟨a, h2⟩ := starts_append.1 h
    simp only [List.length_cons, List.length_nil, Nat.zero_add, Nat.reduceAdd] at h2
    obtain ⟨h34, h3⟩ := starts_cons.1 h2
    obtain ⟨h4, h5⟩ := starts_append.1 h3
    have hen := starts_end' (by simp) h5
    have hq : quoted s (p + 2) = .ok b.data.toList (p + 2 + 1 + ((slashed b.data.toList).length + 1)) := by
      have hsl : ∀ l : List UInt8, l.length ≤ (slashed l).length := by
        intro l
        induction l with
        | nil => simp
        | cons c l ih => simp only [slashed, List.flatMap_cons, List.length_append, List.length_cons] at ih ⊢; split <;> simp only [List.length_cons, List.length_nil] <;> omega
      have := hsl b.data.toList
      rw [quoted, quotedF_slashed _ _ _ _ (by simp only [List.length_append, List.length_cons, List.length_nil] at hen; omega) h4, List.nil_append]
    refine ⟨?_, a⟩
    unfold binary binBytes
    simp only
    rw [skip_at h34 rfl, if_pos h34, hq]
    simp only
    rw [show p + 2 + 1 + ((slashed b.data.toList).length + 1) = p + 2 + 1 + (slashed b.data.toList ++ [34]).length by simp, want_starts h5 rfl]
    simp only
    rw [if_neg (by omega), hbb]
    simp; omega
  · rw [if_neg hp] at h ⊢
    rw [List.append_assoc] at h
    obtain ⟨a, h2⟩ := starts_append.1 h
    simp only [List.length_cons, List.length_nil, Nat.zero_add, Nat.reduceAdd] at h2
    refine ⟨?_, a⟩
    unfold binary binBytes
    simp only
    cases hl : b.data.toList with
    | nil =>
      rw [hl] at h2
      have e : commas [] = [] := rfl
      rw [e, List.nil_append] at h2
      have h62 := (starts_cons.1 h2).1
      rw [skip_at h62 rfl, if_neg (by rw [h62]; intro x; cases x), if_pos h2, e]
      simp only [List.length_nil]
      rw [if_neg (by omega), show bytes [] = b by rw [← hl]; exact hbb]; rfl
    | cons c l =>
      rw [hl] at h2 hbl
      have hen := starts_end' (by simp) h2
      have hfirst : ∃ d, at? s (p + 2) = some d ∧ digitB d = true := by
        have : commas (c :: l) = Lib.decDigits c.toNat ++ l.flatMap fun d => 44 :: Lib.decDigits d.toNat := rfl
        rw [this, List.append_assoc] at h2
        exact dec_first (starts_append.1 h2).1
      obtain ⟨d, hd, hdd⟩ := hfirst
      have hcl : ∀ l : List UInt8, l.length ≤ (commas l).length := by
        have key : ∀ l : List UInt8, l.length ≤ (l.flatMap fun d => 44 :: Lib.decDigits d.toNat).length := by
          intro l
          induction l with
          | nil => simp
          | cons c l ih => simp only [List.flatMap_cons, List.length_append, List.length_cons] at ih ⊢; omega
        intro l
        cases l with
        | nil => simp
        | cons c l =>
          have := key l
          have := List.length_pos_iff.2 (dec_ne c.toNat)
          simp only [commas, List.length_append, List.length_cons]; omega
      have := hcl (c :: l)
      rw [skip_at hd (digit_solid hdd), if_neg (by rw [hd]; rintro ⟨⟩; cases hdd), if_neg (by intro x; rw [(starts_cons.1 x).1] at hd; cases hd; cases hdd)]
      rw [bytesF_commas l c _ _ _ (by simp only [List.length_append, List.length_cons, List.length_nil] at hen this; omega) h2]
      simp only [List.nil_append]
      rw [if_neg (by omega), show bytes (c :: l) = b by rw [← hl]; exact hbb]
      simp; omega
end Go.Proofs.YtejpdfenejbjdaaGreatDoor.Txt

namespace Go.Proofs.YtejpdfenejbjdaaGreatDoor.Txt
set_option linter.unusedVariables false
set_option linter.unusedSimpArgs false

theorem starts_drop {s : ByteArray} {p : Nat} {l : List UInt8} (h : starts s p l = true) : ∃ u, s.data.toList.drop p = l ++ u := by
  rw [starts_prefix, List.isPrefixOf_iff_prefix] at h
  obtain ⟨u, hu⟩ := h
  exact ⟨u, hu.symm⟩
/-- A right rune is decoded alike, whatever stands behind it. -/
theorem dec_win (l rest : List UInt8) (hne : l ≠ []) (hv : ¬ ((Lib.decodeL l).1 = 65533 ∧ (Lib.decodeL l).2 = 1)) : Lib.decodeL (l.take (Lib.decodeL l).2 ++ rest) = Lib.decodeL l := by
  have hle := Lib.decodeL_le l hne
  have hg : ∀ n j, j < n → n ≤ l.length → (l.take n ++ rest).getD j 0 = l.getD j 0 := by
    intro n j hj hn
    simp only [List.getD]
    rw [List.getElem?_append_left (by rw [List.length_take]; omega), List.getElem?_take, if_pos hj]
  have hlen : ∀ n, n ≤ l.length → n ≤ (l.take n ++ rest).length := by intro n hn; simp; omega
  have hN := Lib.decodeL_N l
  rcases Lib.decodeN_shape l.length (l.getD 0 0).toNat (l.getD 1 0).toNat (l.getD 2 0).toNat (l.getD 3 0).toNat with ⟨c, e⟩ | ⟨c1, c2, c3, cv, e⟩ | ⟨c1, c2, c3, c4, cv, cs, e⟩ | ⟨c1, c2, c3, c4, c5, cv, cw, e⟩ | e
  all_goals rw [e] at hN
  · rw [hN] at hle ⊢
    rw [Lib.decodeL_N, hg 1 0 (by omega) hle]
    unfold Lib.decodeN
    rw [if_pos c]
  · rw [hN] at hle ⊢
    have := hlen 2 hle
    rw [Lib.decodeL_N, hg 2 0 (by omega) hle, hg 2 1 (by omega) hle]
    unfold Lib.decodeN
    rw [if_neg (by omega), if_pos ⟨c1, by simp only; omega, c3⟩, if_pos cv]
  · rw [hN] at hle ⊢
    have := hlen 3 hle
    rw [Lib.decodeL_N, hg 3 0 (by omega) hle, hg 3 1 (by omega) hle, hg 3 2 (by omega) hle]
    unfold Lib.decodeN
    rw [if_neg (by omega), if_neg (by omega), if_pos ⟨c1, ⟨by simp only; omega, c3⟩, by simp only; omega, c4⟩, if_pos ⟨cv, by omega⟩]
  · rw [hN] at hle ⊢
    have := hlen 4 hle
    rw [Lib.decodeL_N, hg 4 0 (by omega) hle, hg 4 1 (by omega) hle, hg 4 2 (by omega) hle, hg 4 3 (by omega) hle]
    unfold Lib.decodeN
    rw [if_neg (by omega), if_neg (by omega), if_neg (by omega), if_pos ⟨c1, ⟨by simp only; omega, c3⟩, ⟨by simp only; omega, c4⟩, by simp only; omega, c5⟩, if_pos ⟨cv, by omega⟩]
  · rw [hN] at hv
    exact absurd ⟨rfl, rfl⟩ hv
/-- A rune that stands at a place of a text as it stands in a right one. -/
theorem decode_copy {s b : ByteArray} {p i : Nat} (hi : i < b.size) (hv : ¬ ((Utf8.decode b i).1 = 65533 ∧ (Utf8.decode b i).2 = 1)) (h : starts s p ((b.data.toList.drop i).take (Utf8.decode b i).2) = true) : Utf8.decode s p = Utf8.decode b i := by
  obtain ⟨u, hu⟩ := starts_drop h
  rw [← Lib.decodeL_drop s p, hu]
  have hd := Lib.decodeL_drop b i
  rw [← hd] at hv ⊢
  exact dec_win _ u (drop_ne hi) hv
theorem decode_at? {s : ByteArray} {p : Nat} {c : UInt8} (h : at? s p = some c) (hc : c.toNat < 128) : p < s.size ∧ Utf8.decode s p = (c.toNat, 1) := by
  obtain ⟨hlt, e⟩ := at?_some h
  refine ⟨hlt, ?_⟩
  rw [decode_ascii s p hlt (by rw [e]; exact hc), e]
theorem special_plain {s : ByteArray} {p : Nat} {c : UInt8} (acc : List UInt8) (r : Nat) (h : at? s p = some c) (hc : c.toNat < 128) (h1 : c.toNat ≠ 120) (h2 : c.toNat ≠ 94) (h3 : ¬ (48 ≤ c.toNat ∧ c.toNat ≤ 55)) (hu : (unescape c.toNat).getD c.toNat = r) :
    specialA s ⟨p, acc, false⟩ = some ⟨p + 1, acc ++ (Utf8.encode (r : Int)).data.toList, false⟩ := by
  obtain ⟨hlt, hd⟩ := decode_at? h hc
  unfold specialA
  simp only [hd]
  rw [if_pos hlt, if_neg (by omega), if_neg h1, if_neg h2, if_neg h3]
  simp only [if_true, hu]
theorem hexd_val : ∀ h, h < 16 → digVal 16 (hexd h) = some h := by decide
theorem digits_hex {s : ByteArray} {p r m : Nat} (hr : r < 160) (hm : 3 ≤ m) (h : starts s p (hexT r ++ [125]) = true) : digitsF s 16 m p 0 0 = ((hexT r).length, r, p + (hexT r).length) := by
  have h125 : digVal 16 125 = none := rfl
  unfold hexT at h ⊢
  by_cases h16 : r < 16
  · rw [if_pos h16] at h ⊢
    obtain ⟨a, b⟩ := starts_cons.1 h
    have b := (starts_cons.1 b).1
    obtain ⟨m, rfl⟩ : ∃ j, m = j + 2 := ⟨m - 2, by omega⟩
    rw [digitsF, a]
    simp only [Option.bind_some, hexd_val r h16]
    rw [digitsF, b]
    simp only [Option.bind_some, h125]
    simp; omega
  · rw [if_neg h16] at h ⊢
    obtain ⟨a, b⟩ := starts_cons.1 h
    obtain ⟨b, c⟩ := starts_cons.1 b
    have c := (starts_cons.1 c).1
    obtain ⟨m, rfl⟩ : ∃ j, m = j + 3 := ⟨m - 3, by omega⟩
    rw [digitsF, a]
    simp only [Option.bind_some, hexd_val (r / 16) (by omega)]
    rw [digitsF, b]
    simp only [Option.bind_some, hexd_val (r % 16) (by omega)]
    rw [digitsF, c]
    simp only [Option.bind_some, h125]
    simp; omega
theorem special_hex {s : ByteArray} {p r : Nat} (acc : List UInt8) (hr : r < 160) (h : starts s p (120 :: 123 :: (hexT r ++ [125])) = true) :
    specialA s ⟨p, acc, false⟩ = some ⟨p + ((hexT r).length + 3), acc ++ (Utf8.encode (r : Int)).data.toList, false⟩ := by
  have hlen : 1 ≤ (hexT r).length := by unfold hexT; split <;> simp
  obtain ⟨a, h2⟩ := starts_cons.1 h
  obtain ⟨b, h3⟩ := starts_cons.1 h2
  obtain ⟨hlt, hd⟩ := decode_at? a (by decide)
  have hen := starts_end' (by simp) h3
  simp only [List.length_append, List.length_cons, List.length_nil] at hen
  have c := (starts_cons.1 (starts_append.1 h3).2).1
  have hF := digits_hex hr (m := s.size) (by omega) h3
  unfold specialA
  simp only [hd]
  rw [if_pos hlt, if_neg (by decide), if_pos (by decide)]
  unfold hexA
  rw [if_pos b]
  unfold digitsA
  simp only [hF]
  rw [if_neg (by omega)]
  unfold putA
  rw [if_neg (by omega)]
  simp only
  rw [if_pos c]
  congr 2
  omega
theorem escape_cases {r : Nat} (h : escape r ≠ 0) : r = 8 ∨ r = 9 ∨ r = 10 ∨ r = 11 ∨ r = 12 ∨ r = 13 ∨ r = 27 ∨ r = 127 := by
  unfold escape at h
  repeat (split at h; · omega)
  exact absurd rfl h
theorem slash_step {s : ByteArray} {k p : Nat} {acc : List UInt8} {y : AS} (h : at? s p = some 92) (hs : specialA s ⟨p + 1, acc, false⟩ = some y) : quotedAF s (k + 1) ⟨p, acc, false⟩ = quotedAF s k y := by
  obtain ⟨hlt, hd⟩ := decode_at? h (by decide)
  rw [quotedAF]
  simp only [hd]
  rw [if_pos hlt, if_neg (by decide), if_neg (by decide), if_pos (by decide), hs]
/-- One rune, read back. -/
theorem piece_step (he : EncAs) {s b : ByteArray} {i k p : Nat} (acc : List UInt8) (hi : i < b.size) (hv : ¬ ((Utf8.decode b i).1 = 65533 ∧ (Utf8.decode b i).2 = 1)) (h : starts s p (piece (Utf8.decode b i).1) = true) :
    quotedAF s (k + 1) ⟨p, acc, false⟩ = quotedAF s k ⟨p + (piece (Utf8.decode b i).1).length, acc ++ (b.data.toList.drop i).take (Utf8.decode b i).2, false⟩ := by
  have hed := enc_dec he hi hv
  have hwp : 1 ≤ (Utf8.decode b i).2 := by
    rw [← Lib.decodeL_drop]; exact Lib.decodeL_width _
  have hwl : (Utf8.decode b i).2 ≤ (b.data.toList.drop i).length := by
    rw [← Lib.decodeL_drop]; exact Lib.decodeL_le _ (drop_ne hi)
  have hcopy := fun (hs : starts s p ((b.data.toList.drop i).take (Utf8.decode b i).2) = true) => decode_copy hi hv hs
  rw [← hed]
  have hlen : (Utf8.encode ((Utf8.decode b i).1 : Int)).data.toList.length = (Utf8.decode b i).2 := by rw [hed, List.length_take]; omega
  rw [← hed] at hcopy
  generalize Utf8.decode b i = d at *
  obtain ⟨r, n⟩ := d
  simp only at *
  unfold piece at h ⊢
  by_cases h1 : r = 39 ∨ r = 92
  · rw [if_pos h1] at h ⊢
    have hr : r < 128 := by omega
    rw [enc_ascii r hr] at h ⊢
    obtain ⟨a, b⟩ := starts_cons.1 h
    have b := (starts_cons.1 b).1
    have e := special_plain (s := s) (p := p + 1) acc r b (by rcases h1 with rfl | rfl <;> decide) (by rcases h1 with rfl | rfl <;> decide) (by rcases h1 with rfl | rfl <;> decide) (by rcases h1 with rfl | rfl <;> decide) (by rcases h1 with rfl | rfl <;> rfl)
    rw [slash_step a e, enc_ascii r hr]
    rfl
  · rw [if_neg h1] at h ⊢
    by_cases h2 : escape r ≠ 0
    · rw [if_pos h2] at h ⊢
      obtain ⟨a, b⟩ := starts_cons.1 h
      have b := (starts_cons.1 b).1
      have hc := escape_cases h2
      have e := special_plain (s := s) (p := p + 1) acc r b (by rcases hc with rfl | rfl | rfl | rfl | rfl | rfl | rfl | rfl <;> decide) (by rcases hc with rfl | rfl | rfl | rfl | rfl | rfl | rfl | rfl <;> decide) (by rcases hc with rfl | rfl | rfl | rfl | rfl | rfl | rfl | rfl <;> decide) (by rcases hc with rfl | rfl | rfl | rfl | rfl | rfl | rfl | rfl <;> decide) (by rcases hc with rfl | rfl | rfl | rfl | rfl | rfl | rfl | rfl <;> rfl)
      rw [slash_step a e]
      rfl
    · rw [if_neg h2] at h ⊢
      by_cases h3 : r < 32 ∨ (128 ≤ r ∧ r < 160)
      · rw [if_pos h3] at h ⊢
        have hr : r < 160 := by omega
        rw [show ([92, 120, 123] : List UInt8) ++ hexT r ++ [125] = 92 :: 120 :: 123 :: (hexT r ++ [125]) by simp] at h ⊢
        obtain ⟨a, b⟩ := starts_cons.1 h
        rw [slash_step a (special_hex acc hr b)]
        rw [show p + 1 + ((hexT r).length + 3) = p + (92 :: 120 :: 123 :: (hexT r ++ [125])).length by simp only [List.length_cons, List.length_append, List.length_nil]; omega]
      · rw [if_neg h3] at h ⊢
        have hd := hcopy h
        have hlt : p < s.size := by
          have := starts_end' (l := (Utf8.encode (r : Int)).data.toList) (by intro e; rw [e] at hlen; simp at hlen; omega) h
          omega
        rw [quotedAF]
        simp only [hd]
        rw [if_pos hlt, if_neg (by omega), if_neg (by omega), if_neg (by omega), hlen]
theorem pieces_read (he : EncAs) {s b : ByteArray} : ∀ (n i k p : Nat) (acc : List UInt8), b.size - i ≤ n → spelledF b n i = true → starts s p (piecesF b n i ++ [39]) = true → (piecesF b n i).length < k →
    quotedAF s k ⟨p, acc, false⟩ = some ⟨p + (piecesF b n i).length + 1, acc ++ b.data.toList.drop i, false⟩ := by
  have fin : ∀ (i k p : Nat) (acc : List UInt8), b.size ≤ i → 0 < k → at? s p = some 39 → quotedAF s k ⟨p, acc, false⟩ = some ⟨p + 0 + 1, acc ++ b.data.toList.drop i, false⟩ := by
    intro i k p acc hi hk h
    obtain ⟨k, rfl⟩ : ∃ j, k = j + 1 := ⟨k - 1, by omega⟩
    obtain ⟨hlt, hd⟩ := decode_at? h (by decide)
    rw [quotedAF]
    simp only [hd]
    rw [if_pos hlt, if_neg (by decide), if_pos (by decide), List.drop_eq_nil_of_le (by simpa using hi), List.append_nil]
  intro n
  induction n with
  | zero =>
    intro i k p acc hi hsp h hk
    exact fin i k p acc (by omega) (by omega) (starts_cons.1 h).1
  | succ n ih =>
    intro i k p acc hi hsp h hk
    rw [piecesF] at h hk ⊢
    by_cases hlt : i < b.size
    · rw [if_pos hlt] at h hk ⊢
      rw [spelledF, if_pos hlt] at hsp
      have hv : ¬ ((Utf8.decode b i).1 = 65533 ∧ (Utf8.decode b i).2 = 1) := by
        intro x; rw [if_pos x] at hsp; cases hsp
      rw [if_neg hv] at hsp
      have hwp : 1 ≤ (Utf8.decode b i).2 := by
        rw [← Lib.decodeL_drop]; exact Lib.decodeL_width _
      rw [List.append_assoc] at h
      obtain ⟨a, c⟩ := starts_append.1 h
      rw [List.length_append] at hk
      have hpl : 1 ≤ (piece (Utf8.decode b i).1).length := by
        by_cases e : (piece (Utf8.decode b i).1).length = 0
        · exfalso
          have := List.length_eq_zero_iff.1 e
          unfold piece at this
          by_cases h1 : (Utf8.decode b i).1 = 39 ∨ (Utf8.decode b i).1 = 92
          · rw [if_pos h1] at this; cases this
          · rw [if_neg h1] at this
            by_cases h2 : escape (Utf8.decode b i).1 ≠ 0
            · rw [if_pos h2] at this; cases this
            · rw [if_neg h2] at this
              by_cases h3 : (Utf8.decode b i).1 < 32 ∨ (128 ≤ (Utf8.decode b i).1 ∧ (Utf8.decode b i).1 < 160)
              · rw [if_pos h3] at this; simp at this
              · rw [if_neg h3, enc_dec he hlt hv] at this
                have := congrArg List.length this
                have hwl : (Utf8.decode b i).2 ≤ (b.data.toList.drop i).length := by
                  rw [← Lib.decodeL_drop]; exact Lib.decodeL_le _ (drop_ne hlt)
                rw [List.length_take, List.length_nil] at this
                omega
        · omega
      obtain ⟨k, rfl⟩ : ∃ j, k = j + 1 := ⟨k - 1, by omega⟩
      rw [piece_step he acc hlt hv a, ih (i + (Utf8.decode b i).2) k _ _ (by omega) hsp c (by omega)]
      rw [List.append_assoc, ← List.drop_drop, List.take_append_drop, List.length_append]
      congr 2
      omega
    · rw [if_neg hlt] at h hk ⊢
      exact fin i k p acc (by omega) (by omega) (starts_cons.1 h).1
theorem scan_quote (he : EncAs) {s b : ByteArray} {p : Nat} (hb : atomOk b = true) (h : starts s p (quote b).1 = true) (hstop : Stop s (p + (quote b).1.length)) :
    scan s p = .ok b (p + (quote b).1.length) ∧ ∃ c, at? s p = some c ∧ (c = 39 ∨ smallB c = true) := by
  have hbb : bytes b.data.toList = b := by apply ByteArray.ext; simp [bytes]
  have hsz : b.size ≤ 255 ∧ spelled b = true := by
    simpa [atomOk] using hb
  unfold quote at h hstop ⊢
  rw [if_pos hb] at h hstop ⊢
  by_cases hbare : bare b = true
  · rw [if_pos hbare] at h hstop ⊢
    simp only at h hstop ⊢
    simp only [bare, Bool.and_eq_true, decide_eq_true_eq, Bool.not_eq_true'] at hbare
    obtain ⟨⟨⟨hne, hle⟩, hrun⟩, hres⟩ := hbare
    have hpos : 0 < b.size := by omega
    have hl : b.data.toList.length = b.size := by simp
    -- its bytes
    have hsm : smallB b[0] = true := by
      unfold runEnd at hrun
      rw [dif_pos hpos] at hrun
      split at hrun
      · assumption
      · omega
    have hin : ∀ c ∈ b.data.toList, insideB c = true := by
      have hsp : span insideB b 0 = b.size := by
        unfold runEnd at hrun
        rw [dif_pos hpos, if_pos hsm] at hrun; exact hrun
      intro c hc
      obtain ⟨j, hj, e⟩ := List.mem_iff_getElem.1 hc
      obtain ⟨h1, h2⟩ := span_in (f := insideB) (s := b) (p := 0) (q := j) (by omega) (by rw [hsp]; omega)
      rw [← e]; exact h2
    have h0 : at? s p = some b[0] := by
      have := starts_at h (i := 0) (by omega)
      rw [Nat.add_zero, List.getElem?_eq_getElem (by omega)] at this
      rw [this]; rfl
    obtain ⟨hlt, e0⟩ := at?_some h0
    have hrunS : runEnd s p = p + b.data.toList.length := by
      unfold runEnd
      rw [dif_pos hlt, e0, if_pos hsm]
      exact span_starts h hin hstop
    refine ⟨?_, b[0], h0, .inr hsm⟩
    unfold scan
    rw [if_neg (by rw [h0]; intro x; have x := Option.some.inj x; rw [x] at hsm; cases hsm), hrunS, cut_starts h, if_neg (by rintro (x | x); omega; rw [hres] at x; cases x), if_neg (by omega), extract_starts h]
  · rw [if_neg hbare] at h hstop ⊢
    simp only at h hstop ⊢
    obtain ⟨a, h2⟩ := starts_cons.1 h
    have hen := starts_end' (by simp) h2
    simp only [List.length_append, List.length_cons, List.length_nil] at hen
    have hq := pieces_read he b.size 0 (s.size - p) (p + 1) [] (by omega) hsz.2 h2 (by omega)
    refine ⟨?_, 39, a, .inl rfl⟩
    unfold scan
    rw [if_pos a, hq]
    simp only [List.nil_append, List.drop_zero, hbb, hb, Bool.not_true, Bool.or_self, Bool.false_eq_true, if_false]
    simp; omega
end Go.Proofs.YtejpdfenejbjdaaGreatDoor.Txt

namespace Go.Proofs.YtejpdfenejbjdaaGreatDoor.Txt
set_option linter.unusedVariables false
set_option linter.unusedSimpArgs false

theorem empty_of {b : ByteArray} (h : b.size = 0) : b = .empty := by
  apply ByteArray.ext
  apply Array.eq_empty_of_size_eq_zero
  exact h
theorem txt_lead {c : Cl} {k : Fo} (hc : cellE c = 0) : ∃ d l, Fo.txt c k = d :: l ∧ lead d := by
  unfold Fo.txt
  by_cases h7 : c.kind = 7
  · rw [if_pos h7]; exact ⟨91, _, rfl, rfl, by decide, by decide⟩
  rw [if_neg h7]
  by_cases h5 : c.kind = 5 ∧ c.n > 0
  · rw [if_pos h5]; exact ⟨123, _, rfl, rfl, by decide, by decide⟩
  rw [if_neg h5]
  exact leaf_lead hc h7
theorem starts2_no {s : ByteArray} {p : Nat} {c a b : UInt8} (h : at? s p = some c) (hc : c ≠ a) : starts s p [a, b] = false := by
  rw [Bool.eq_false_iff]
  intro x
  rw [(starts_cons.1 x).1] at h
  exact hc (Option.some.inj h).symm
/-- A cell that holds nothing is read back. -/
theorem leaf_read (he : EncAs) {s : ByteArray} {p k : Nat} {c : Cl} (hc : cellE c = 0) (hf : fits c) (h7 : c.kind ≠ 7) (h5 : ¬ (c.kind = 5 ∧ c.n > 0)) (h : starts s p (leaf c) = true) (hstop : Stop s (p + (leaf c).length)) :
    term (k + 1) s p = .ok [c] (p + (leaf c).length) := by
  have hcell := cell_ok hc
  have hc' : (⟨c.kind, c.n, c.text⟩ : Cl) = c := rfl
  unfold leaf at h hstop ⊢
  by_cases h1 : c.kind = 1
  · rw [if_pos h1] at h hstop ⊢
    have ht := empty_of (hcell.2.2.1 (by omega) (by omega))
    obtain ⟨d, l, e, hd⟩ := itoa_lead c.n
    have h0 : at? s p = some d := by rw [e] at h; exact (starts_cons.1 h).1
    rw [term, skip_at h0 (lead_digit hd).1, h0]
    simp only
    rw [if_neg (by rcases hd with rfl | hd; decide; rintro rfl; cases hd), if_pos hd, whole_itoa hf.1 hf.2 h hstop]
    rw [← hc', h1, ht]
  rw [if_neg h1] at h hstop ⊢
  by_cases h2 : c.kind = 2
  · rw [if_pos h2] at h hstop ⊢
    have hn := hcell.2.2.2.1 (by omega) (by omega) (by omega) (by omega)
    obtain ⟨hs, d, h0, hd⟩ := scan_quote he (atomOk_of hc h2) h hstop
    have hnd : ¬ (d = 45 ∨ digitB d = true) := by
      rcases hd with rfl | hd
      · decide
      · rintro (rfl | hx)
        · cases hd
        · simp only [smallB, digitB, Bool.and_eq_true, decide_eq_true_eq] at hd hx; omega
    rw [term, skip_at h0 (lead_small hd).1, h0]
    simp only
    rw [if_neg (by rcases hd with rfl | hd; decide; rintro rfl; cases hd), if_neg hnd, starts2_no h0 (by rcases hd with rfl | hd; decide; rintro rfl; cases hd)]
    simp only [Bool.false_eq_true, if_false]
    rw [if_neg (by rcases hd with rfl | hd; decide; rintro rfl; cases hd), if_neg (by rcases hd with rfl | hd; decide; rintro rfl; cases hd), if_neg (by rcases hd with rfl | hd; decide; rintro rfl; cases hd), if_neg (by rcases hd with rfl | hd; decide; rintro rfl; cases hd), hs]
    simp only
    rw [← hc', h2, hn]
  rw [if_neg h2] at h hstop ⊢
  by_cases h3 : c.kind = 3
  · rw [if_pos h3] at h ⊢
    have ht := empty_of (hcell.2.2.1 (by omega) (by omega))
    have hb := hcell.2.2.2.2.1 h3
    have hit : Lib.itoa c.n = Lib.decDigits c.n.toNat := by unfold Lib.itoa; rw [if_neg (by omega)]
    rw [hit] at h ⊢
    rw [show ([35, 82, 101, 102, 60] : List UInt8) ++ Lib.decDigits c.n.toNat ++ [62] = [35, 82, 101, 102] ++ ([60] ++ (Lib.decDigits c.n.toNat ++ [62])) by simp] at h ⊢
    obtain ⟨a, b⟩ := starts_append.1 h
    obtain ⟨b1, b2⟩ := starts_append.1 b
    have h0 := (starts_cons.1 a).1
    rw [term, skip_at h0 rfl, h0]
    simp only
    rw [if_neg (by decide), if_neg (by decide), starts2_no h0 (by decide)]
    simp only [Bool.false_eq_true, if_false]
    rw [if_neg (by decide), if_pos trivial, want_starts a rfl]
    simp only [List.length_cons, List.length_nil, Nat.zero_add, Nat.reduceAdd] at b1 b2 ⊢
    rw [want_starts b1 rfl]
    simp only [List.length_nil, Nat.zero_add]
    rw [ident_dec (by omega) (by unfold idMost; rw [if_pos rfl]; omega) b2, show ((c.n.toNat : Nat) : Int) = c.n by omega]
    simp only [List.length_append, List.length_cons, List.length_nil]
    rw [show p + 4 + 1 + ((Lib.decDigits c.n.toNat).length + 1) = p + (0 + 1 + 1 + 1 + 1 + (0 + 1 + ((Lib.decDigits c.n.toNat).length + (0 + 1)))) by omega, ← hc', h3, ht]
  rw [if_neg h3] at h hstop ⊢
  by_cases h4 : c.kind = 4
  · rw [if_pos h4] at h ⊢
    have ht := empty_of (hcell.2.2.1 (by omega) (by omega))
    have hb := hcell.2.2.2.2.2.1 h4
    have hit : Lib.itoa c.n = Lib.decDigits c.n.toNat := by unfold Lib.itoa; rw [if_neg (by omega)]
    rw [hit] at h ⊢
    rw [show ([60] : List UInt8) ++ Lib.decDigits c.n.toNat ++ [62] = 60 :: (Lib.decDigits c.n.toNat ++ [62]) by simp] at h ⊢
    obtain ⟨h0, b⟩ := starts_cons.1 h
    obtain ⟨d, hd0, hdd⟩ := dec_first (starts_append.1 b).1
    have hno : starts s p [60, 60] = false := by
      rw [Bool.eq_false_iff]
      intro x
      rw [(starts_cons.1 (starts_cons.1 x).2).1] at hd0
      cases hd0; cases hdd
    rw [term, skip_at h0 rfl, h0]
    simp only
    rw [if_neg (by decide), if_neg (by decide), hno]
    simp only [Bool.false_eq_true, if_false, if_true]
    rw [ident_dec (by omega) (by unfold idMost; rw [if_neg (by decide)]; omega) b, show ((c.n.toNat : Nat) : Int) = c.n by omega]
    simp only [List.length_append, List.length_cons, List.length_nil]
    rw [show p + 1 + ((Lib.decDigits c.n.toNat).length + 1) = p + ((Lib.decDigits c.n.toNat).length + (0 + 1) + 1) by omega, ← hc', h4, ht]
  rw [if_neg h4] at h hstop ⊢
  by_cases h6 : c.kind = 6
  · rw [if_pos h6] at h ⊢
    have ht := empty_of (hcell.2.2.1 (by omega) (by omega))
    have hn := hcell.2.2.2.1 (by omega) (by omega) (by omega) (by omega)
    obtain ⟨h0, b⟩ := starts_cons.1 h
    have b1 := (starts_cons.1 b).1
    rw [term, skip_at h0 rfl, h0]
    simp only
    rw [if_neg (by decide), if_neg (by decide), starts2_no h0 (by decide)]
    simp only [Bool.false_eq_true, if_false]
    rw [if_neg (by decide), if_neg (by decide), if_neg (by decide), if_pos trivial, skip_at b1 rfl, b, if_pos rfl, ← hc', h6, ht, hn]
    rfl
  rw [if_neg h6] at h hstop ⊢
  by_cases h5' : c.kind = 5
  · rw [if_pos h5'] at h ⊢
    have ht := empty_of (hcell.2.2.1 (by omega) (by omega))
    have hn : c.n = 0 := by have := hcell.2.2.2.2.2.2.1 h5'; omega
    obtain ⟨h0, b⟩ := starts_cons.1 h
    have b1 := (starts_cons.1 b).1
    rw [term, skip_at h0 rfl, h0]
    simp only
    rw [if_neg (by decide), if_neg (by decide), starts2_no h0 (by decide)]
    simp only [Bool.false_eq_true, if_false]
    rw [if_neg (by decide), if_neg (by decide), if_pos trivial, skip_at b1 rfl, b, if_pos rfl, ← hc', h5', ht, hn]
    rfl
  rw [if_neg h5'] at h hstop ⊢
  have h8 : c.kind = 8 := by omega
  have hn := hcell.2.2.2.1 (by omega) (by omega) (by omega) (by omega)
  obtain ⟨hb, h60⟩ := binary_shown c.text (hcell.2.2.2.2.2.2.2.2 h8) h
  have h0 := (starts_cons.1 h60).1
  rw [term, skip_at h0 rfl, h0]
  simp only
  rw [if_neg (by decide), if_neg (by decide), h60, if_pos rfl, hb, ← hc', h8, hn]
theorem listL_after (k : Nat) (s : ByteArray) (p : Nat) (acc : List Cl) : listL (k + 1) s p acc = match term k s p with | .bad e a => .bad e a | .ok t q => after k s q acc t := by
  rw [listL]; rfl
theorem sh2_first {c : Cl} {k : Fo} : ∃ d l, (Fo.node c k .nil).sh 2 = d :: l ∧ insideB d = false := by
  rw [Fo.sh_2]
  split
  · exact ⟨44, _, rfl, rfl⟩
  · split
    · exact ⟨93, _, rfl, rfl⟩
    · exact ⟨124, _, rfl, rfl⟩
theorem len_one {f : Fo} (h : f.len = 1) : ∃ c k, f = .node c k .nil := by
  cases f with
  | nil => simp [Fo.len] at h
  | node c k r => exact ⟨c, k, by rw [len_nil (f := r) (by simpa [Fo.len] using h)]⟩
theorem tree_read (he : EncAs) (f : Fo) : (∀ (k : Nat) (s : ByteArray) (p : Nat) (acc : List Cl) (n : Nat), f.ok → f.fit → 1 ≤ f.len → n + f.len ≤ 255 → starts s p (f.sh 0 ++ [125]) = true → 2 * (s.size - p) + 3 ≤ k → tupleL k s p acc n = .ok (⟨5, ((n + f.len : Nat) : Int), .empty⟩ :: (acc ++ f.flat)) (p + ((f.sh 0).length + 1)))
    ∧ (∀ (k : Nat) (s : ByteArray) (p : Nat) (acc : List Cl), f.ok → f.fit → f.len = 2 → starts s p (f.sh 1) = true → 2 * (s.size - p) + 3 ≤ k → listL k s p acc = .ok (acc ++ ⟨7, 0, .empty⟩ :: f.flat) (p + (f.sh 1).length))
    ∧ (∀ (k : Nat) (s : ByteArray) (p : Nat) (acc t : List Cl), f.ok → f.fit → f.len = 1 → starts s p (f.sh 2) = true → 2 * (s.size - p) + 2 ≤ k → after k s p acc t = .ok (acc ++ [⟨7, 0, .empty⟩] ++ t ++ f.flat) (p + (f.sh 2).length))
    ∧ (∀ (c : Cl) (kids r : Fo), f = .node c kids r → ∀ (k : Nat) (s : ByteArray) (p : Nat), f.ok → f.fit → starts s p (Fo.txt c kids) = true → Stop s (p + (Fo.txt c kids).length) → 2 * (s.size - p) + 2 ≤ k → term k s p = .ok (c :: kids.flat) (p + (Fo.txt c kids).length)) := by
  induction f with
  | nil => exact ⟨fun _ _ _ _ _ _ _ h => by simp [Fo.len] at h, fun _ _ _ _ _ _ h => by simp [Fo.len] at h, fun _ _ _ _ _ _ _ h => by simp [Fo.len] at h, fun _ _ _ h => by cases h⟩
  | node c kids r ihk ihr =>
    obtain ⟨k0, k1, k2, -⟩ := ihk
    obtain ⟨r0, r1, r2, -⟩ := ihr
    have one : ∀ (k : Nat) (s : ByteArray) (p : Nat), cellE c = 0 → kids.len = Txt.kids c → kids.ok → fits c → kids.fit → starts s p (Fo.txt c kids) = true → Stop s (p + (Fo.txt c kids).length) → 2 * (s.size - p) + 2 ≤ k → term k s p = .ok (c :: kids.flat) (p + (Fo.txt c kids).length) := by
      intro k s p hc hk hko hf hkf h hstop hfuel
      have hcell := cell_ok hc
      have hc' : (⟨c.kind, c.n, c.text⟩ : Cl) = c := rfl
      obtain ⟨k, rfl⟩ : ∃ j, k = j + 1 := ⟨k - 1, by omega⟩
      unfold Fo.txt at h hstop ⊢
      by_cases h7 : c.kind = 7
      · rw [if_pos h7] at h ⊢
        have ht := empty_of (hcell.2.2.1 (by omega) (by omega))
        have hn := hcell.2.2.2.1 (by omega) (by omega) (by omega) (by omega)
        obtain ⟨h0, b⟩ := starts_cons.1 h
        obtain ⟨hlt, -⟩ := at?_some h0
        have hl2 : kids.len = 2 := by rw [hk, kids_7 h7]
        have hfirst : ∃ d, at? s (p + 1) = some d ∧ lead d := by
          cases kids with
          | nil => simp [Fo.len] at hl2
          | node a ka rr =>
            obtain ⟨d, l, e, hd⟩ := txt_lead (k := ka) hko.1
            rw [Fo.sh_1, e] at b
            exact ⟨d, (starts_cons.1 b).1, hd⟩
        obtain ⟨d, hd0, hdl⟩ := hfirst
        have hno : starts s (p + 1) [93] = false := by
          rw [Bool.eq_false_iff]
          intro x
          rw [(starts_cons.1 x).1] at hd0
          exact hdl.2.1 (Option.some.inj hd0).symm
        rw [term, skip_at h0 rfl, h0]
        simp only
        rw [if_neg (by decide), if_neg (by decide), starts2_no h0 (by decide)]
        simp only [Bool.false_eq_true, if_false]
        rw [if_neg (by decide), if_neg (by decide), if_neg (by decide), if_pos trivial, skip_at hd0 hdl.1, hno]
        simp only [Bool.false_eq_true, if_false]
        rw [k1 k s (p + 1) [] hko hkf hl2 b (by omega), List.nil_append, List.length_cons, show p + 1 + (kids.sh 1).length = p + ((kids.sh 1).length + 1) by omega, ← hc', h7, hn, ht]
      · rw [if_neg h7] at h hstop ⊢
        by_cases h5 : c.kind = 5 ∧ c.n > 0
        · rw [if_pos h5] at h ⊢
          have ht := empty_of (hcell.2.2.1 (by omega) (by omega))
          have hb := hcell.2.2.2.2.2.2.1 h5.1
          have hl : kids.len = c.n.toNat := by rw [hk, kids_5 h5.1 hb.1 hb.2]
          obtain ⟨h0, b⟩ := starts_cons.1 h
          obtain ⟨hlt, -⟩ := at?_some h0
          have hfirst : ∃ d, at? s (p + 1) = some d ∧ lead d := by
            cases kids with
            | nil => simp [Fo.len] at hl; omega
            | node a ka rr =>
              obtain ⟨d, l, e, hd⟩ := txt_lead (k := ka) hko.1
              rw [Fo.sh_0, e] at b
              exact ⟨d, (starts_cons.1 b).1, hd⟩
          obtain ⟨d, hd0, hdl⟩ := hfirst
          have hno : starts s (p + 1) [125] = false := by
            rw [Bool.eq_false_iff]
            intro x
            rw [(starts_cons.1 x).1] at hd0
            exact hdl.2.2 (Option.some.inj hd0).symm
          rw [term, skip_at h0 rfl, h0]
          simp only
          rw [if_neg (by decide), if_neg (by decide), starts2_no h0 (by decide)]
          simp only [Bool.false_eq_true, if_false]
          rw [if_neg (by decide), if_neg (by decide), if_pos trivial, skip_at hd0 hdl.1, hno]
          simp only [Bool.false_eq_true, if_false]
          rw [k0 k s (p + 1) [] 0 hko hkf (by omega) (by omega) b (by omega), List.nil_append, List.length_cons, List.length_append, List.length_cons, List.length_nil, show p + 1 + ((kids.sh 0).length + 1) = p + ((kids.sh 0).length + (0 + 1) + 1) by omega, show ((0 + kids.len : Nat) : Int) = c.n by omega]
          rw [show (⟨5, c.n, .empty⟩ : Cl) = c by rw [← hc', h5.1, ht]]
        · rw [if_neg h5] at h hstop ⊢
          have hl : kids.len = 0 := by
            by_cases e : c.kind = 5
            · have hb := hcell.2.2.2.2.2.2.1 e
              rw [hk, kids_5 e hb.1 hb.2]; omega
            · rw [hk, kids_0 h7 e]
          rw [len_nil hl, Fo.flat]
          exact leaf_read he hc hf h7 h5 h hstop
    have stop_next : ∀ {s : ByteArray} {q : Nat} {d : UInt8} {l : List UInt8}, starts s q (d :: l) = true → insideB d = false → Stop s q := fun h hd => Stop.at (starts_cons.1 h).1 hd
    have flat : (Fo.node c kids r).flat = (c :: kids.flat) ++ r.flat := by simp [Fo.flat]
    refine ⟨?_, ?_, ?_, ?_⟩
    · intro k s p acc n ⟨hc, hk, hko, hro⟩ ⟨hf, hkf, hrf⟩ _ hn h hfuel
      obtain ⟨k, rfl⟩ : ∃ j, k = j + 1 := ⟨k - 1, by omega⟩
      obtain ⟨d, l, etx, -⟩ := txt_lead (k := kids) hc
      have hpos : 1 ≤ (Fo.txt c kids).length := by rw [etx]; simp
      rw [Fo.sh_0] at h ⊢
      by_cases hr : r.len = 0
      · rw [if_pos hr, List.append_nil] at h ⊢
        obtain ⟨a, b⟩ := starts_append.1 h
        have b1 := (starts_cons.1 b).1
        rw [tupleL, one k s p hc hk hko hf hkf a (stop_next b rfl) (by omega)]
        simp only
        rw [skip_at b1 rfl, if_pos b1, if_neg (by simp only [Fo.len] at hn; omega), len_nil hr]
        simp only [Fo.len, Fo.flat, List.append_nil]
        rw [Nat.add_assoc]
      · rw [if_neg hr] at h ⊢
        rw [List.append_assoc, List.cons_append] at h
        obtain ⟨a, b⟩ := starts_append.1 h
        obtain ⟨b1, b2⟩ := starts_cons.1 b
        obtain ⟨hlt, -⟩ := at?_some b1
        rw [tupleL, one k s p hc hk hko hf hkf a (stop_next b rfl) (by omega)]
        simp only
        rw [skip_at b1 rfl, if_neg (by rw [b1]; intro x; cases x), want_starts (l := []) (starts_cons.2 ⟨b1, rfl⟩) rfl]
        simp only [List.length_nil, Nat.zero_add]
        rw [r0 k s _ _ (n + 1) hro hrf (by omega) (by simp only [Fo.len] at hn; omega) b2 (by omega)]
        rw [flat]
        simp only [Fo.len, List.length_append, List.length_cons, List.append_assoc]
        rw [show n + 1 + r.len = n + (r.len + 1) by omega, show p + (Fo.txt c kids).length + 1 + ((r.sh 0).length + 1) = p + ((Fo.txt c kids).length + ((r.sh 0).length + 1) + 1) by omega]
    · intro k s p acc ⟨hc, hk, hko, hro⟩ ⟨hf, hkf, hrf⟩ hl h hfuel
      obtain ⟨k, rfl⟩ : ∃ j, k = j + 1 := ⟨k - 1, by omega⟩
      have hrl : r.len = 1 := by simpa [Fo.len] using hl
      rw [Fo.sh_1] at h ⊢
      obtain ⟨a, b⟩ := starts_append.1 h
      have hst : Stop s (p + (Fo.txt c kids).length) := by
        obtain ⟨c2, k2', rfl⟩ := len_one hrl
        obtain ⟨d, l, e, hd⟩ := sh2_first (c := c2) (k := k2')
        rw [e] at b
        exact stop_next b hd
      rw [listL_after, one k s p hc hk hko hf hkf a hst (by omega)]
      simp only
      rw [r2 k s _ acc (c :: kids.flat) hro hrf hrl b (by omega), flat, List.length_append]
      simp [Nat.add_assoc]
    · intro k s p acc t ⟨hc, hk, hko, hro⟩ ⟨hf, hkf, hrf⟩ hl h hfuel
      have hrn : r = .nil := len_nil (by simpa [Fo.len] using hl)
      subst hrn
      have hcell := cell_ok hc
      have hc' : (⟨c.kind, c.n, c.text⟩ : Cl) = c := rfl
      rw [flat, show Fo.nil.flat = [] from rfl, List.append_nil]
      rw [Fo.sh_2] at h ⊢
      unfold after
      by_cases h7 : c.kind = 7
      · rw [if_pos h7] at h ⊢
        have ht := empty_of (hcell.2.2.1 (by omega) (by omega))
        have hn := hcell.2.2.2.1 (by omega) (by omega) (by omega) (by omega)
        obtain ⟨b1, b2⟩ := starts_cons.1 h
        obtain ⟨hlt, -⟩ := at?_some b1
        rw [skip_at b1 rfl, if_neg (by rw [b1]; intro x; cases x), if_neg (by rw [b1]; intro x; cases x), want_starts (l := []) (starts_cons.2 ⟨b1, rfl⟩) rfl]
        simp only [List.length_nil, Nat.zero_add]
        rw [k1 k s (p + 1) _ hko hkf (by rw [hk, kids_7 h7]) b2 (by omega), List.length_cons, show p + 1 + (kids.sh 1).length = p + ((kids.sh 1).length + 1) by omega]
        rw [show (⟨7, 0, .empty⟩ : Cl) = c by rw [← hc', h7, hn, ht]]
      · rw [if_neg h7] at h ⊢
        by_cases h6 : c.kind = 6
        · rw [if_pos h6] at h ⊢
          have ht := empty_of (hcell.2.2.1 (by omega) (by omega))
          have hn := hcell.2.2.2.1 (by omega) (by omega) (by omega) (by omega)
          have b1 := (starts_cons.1 h).1
          have hkn : kids = .nil := len_nil (by rw [hk, kids_0 h7 (by omega)])
          rw [skip_at b1 rfl, if_pos b1, hkn, Fo.flat, show (⟨6, 0, .empty⟩ : Cl) = c by rw [← hc', h6, hn, ht]]
          rfl
        · rw [if_neg h6] at h ⊢
          obtain ⟨b1, b2⟩ := starts_cons.1 h
          obtain ⟨hlt, -⟩ := at?_some b1
          obtain ⟨a, b⟩ := starts_append.1 b2
          rw [skip_at b1 rfl, if_neg (by rw [b1]; intro x; cases x), if_pos b1, one k s (p + 1) hc hk hko hf hkf a (stop_next b rfl) (by omega)]
          simp only
          rw [want_starts b rfl]
          simp only [List.length_nil, List.length_cons, List.length_append]
          rw [show p + 1 + (Fo.txt c kids).length + (0 + 1) = p + ((Fo.txt c kids).length + (0 + 1) + 1) by omega]
    · intro c' kids' r' heq k s p ⟨hc, hk, hko, hro⟩ ⟨hf, hkf, hrf⟩ h hstop hfuel
      cases heq
      exact one k s p hc hk hko hf hkf h hstop hfuel
/-- A right term's text, and the term that is read where it stands. -/
theorem term_print (he : EncAs) {t : List Cl} (hr : (right t).1 = 0) (hf : ∀ c ∈ t, fits c) {r : List UInt8} (hp : (print t) = (r, 0)) :
    r.length ≤ 65536 ∧ r ≠ [] ∧ t.length ≤ 1024 ∧ ∀ (s : ByteArray) (p k : Nat), starts s p r = true → Stop s (p + r.length) → 2 * (s.size - p) + 2 ≤ k → term k s p = .ok t (p + r.length) := by
  obtain ⟨c, k, hc, hk, hko, rfl, hlen⟩ := right_tree hr
  unfold print at hp
  rw [if_neg (by omega)] at hp
  cases hF : printF (c :: k.flat) [] [] with
  | none => rw [hF] at hp; cases hp
  | some b =>
    rw [hF] at hp
    simp only [Prod.mk.injEq, and_true] at hp
    subst hp
    obtain ⟨h1, h2⟩ := printF_pr _ _ _ _ hF
    rw [List.nil_append, print_tree hc hk hko] at h1
    subst h1
    obtain ⟨d, l, e, -⟩ := txt_lead (k := k) hc
    refine ⟨h2, by rw [e]; simp, hlen, fun s p kk hs hst hfu => ?_⟩
    have hfit : (Fo.node c k .nil).fit := fit_of (by intro d hd; apply hf; simpa [Fo.flat] using hd)
    exact (tree_read he (.node c k .nil)).2.2.2 c k .nil rfl kk s p ⟨hc, hk, hko, trivial⟩ hfit hs hst hfu
theorem starts_self (l : List UInt8) : starts (bytes l) 0 l = true := by
  apply starts_all
  intro i hi
  rw [at?_list, Nat.zero_add]; rfl
/-- P7.4: a right term, printed, is read as the term. -/
theorem parse_print (he : EncAs) {t : List Cl} (hr : (right t).1 = 0) (hf : ∀ c ∈ t, fits c) {r : List UInt8} (hp : (print t) = (r, 0)) : parse (bytes r) = (t, 0, 0) := by
  obtain ⟨h1, h2, h3, h4⟩ := term_print he hr hf hp
  have hsz : (bytes r).size = r.length := by simp [bytes, ByteArray.size]
  have ht := h4 (bytes r) 0 (fuel (bytes r) 0) (starts_self r) (fun c hc => by rw [at?_ge (by omega)] at hc; cases hc) (by unfold fuel; omega)
  unfold parse
  rw [if_neg (by omega), ht]
  simp only
  rw [skip_end (by omega), if_neg (by omega), if_neg (by omega)]
end Go.Proofs.YtejpdfenejbjdaaGreatDoor.Txt

namespace Go.Proofs.YtejpdfenejbjdaaGreatDoor.Txt
set_option linter.unusedVariables false
set_option linter.unusedSimpArgs false

/-! several -/
def printAllF : List (List Cl) → Nat → List UInt8 → List UInt8 × Int × Nat
  | [], _, b => if b.length > 65536 then ([], 4, 0) else (b, 0, 0)
  | t :: l, i, b => if (print t).2 ≠ 0 then ([], (print t).2, i) else printAllF l (i + 1) (if b.length ≤ 65536 then b ++ (print t).1 ++ [46, 10] else b)
def printAll (l : List (List Cl)) : List UInt8 × Int × Nat := printAllF l 0 []
theorem printAllF_ok : ∀ (l : List (List Cl)) (i n : Nat) (b r : List UInt8), printAllF l i b = (r, 0, n) → b.length ≤ 65536 ∧ r = b ++ texts l ∧ r.length ≤ 65536 ∧ ∀ t ∈ l, (print t).2 = 0 := by
  intro l
  induction l with
  | nil =>
    intro i n b r h
    rw [printAllF] at h
    split at h
    · simp at h
    · simp only [Prod.mk.injEq] at h
      obtain ⟨rfl, -, -⟩ := h
      exact ⟨by omega, by simp [texts], by omega, fun t ht => by cases ht⟩
  | cons t l ih =>
    intro i n b r h
    rw [printAllF] at h
    split at h
    · rename_i hx
      simp only [Prod.mk.injEq] at h
      exact absurd h.2.1 hx
    · rename_i hx
      have hx : (print t).2 = 0 := Decidable.byContradiction hx
      by_cases hb : b.length ≤ 65536
      · rw [if_pos hb] at h
        obtain ⟨h1, h2, h3, h4⟩ := ih _ _ _ _ h
        refine ⟨hb, by rw [h2, texts]; simp, h3, fun u hu => ?_⟩
        rw [List.mem_cons] at hu
        rcases hu with rfl | hu
        · exact hx
        · exact h4 u hu
      · rw [if_neg hb] at h
        have := (ih _ _ _ _ h).1
        omega
theorem print_right {t : List Cl} (h : (print t).2 = 0) : (right t).1 = 0 := by
  unfold print at h
  split at h
  · rename_i hx; exact absurd h hx
  · rename_i hx; exact Decidable.byContradiction hx
theorem print_lead {t : List Cl} (h : (print t).2 = 0) : ∃ d l, (print t).1 = d :: l ∧ lead d := by
  have hr := print_right h
  obtain ⟨c, k, hc, hk, hko, rfl, -⟩ := right_tree hr
  unfold print at h ⊢
  rw [if_neg (by omega)] at h ⊢
  cases hF : printF (c :: k.flat) [] [] with
  | none => rw [hF] at h; cases h
  | some b =>
    obtain ⟨h1, -⟩ := printF_pr _ _ _ _ hF
    rw [List.nil_append, print_tree hc hk hko] at h1
    rw [h1]
    exact txt_lead hc
theorem texts_read (he : EncAs) {s : ByteArray} : ∀ (l : List (List Cl)) (k p q : Nat) (acc : List (List Cl)), (∀ t ∈ l, (print t).2 = 0 ∧ ∀ c ∈ t, fits c) → skip s p = q → starts s q (texts l) = true → q + (texts l).length = s.size → l.length < k →
    parseAllF s k p acc = (acc ++ l, 0, 0) := by
  intro l
  induction l with
  | nil =>
    intro k p q acc _ hq _ hsz hk
    obtain ⟨k, rfl⟩ : ∃ j, k = j + 1 := ⟨k - 1, by omega⟩
    simp only [texts, List.length_nil] at hsz
    rw [parseAllF, hq, if_neg (by omega), List.append_nil]
  | cons t l ih =>
    intro k p q acc hall hq h hsz hk
    obtain ⟨k, rfl⟩ : ∃ j, k = j + 1 := ⟨k - 1, by omega⟩
    obtain ⟨ht, hf⟩ := hall t (by simp)
    obtain ⟨h1, h2, h3, h4⟩ := term_print he (print_right ht) hf (r := (print t).1) (by rw [← ht])
    rw [texts, List.append_assoc] at h hsz
    obtain ⟨a, b⟩ := starts_append.1 h
    obtain ⟨b1, b2⟩ := starts_append.1 b
    obtain ⟨c1, c2⟩ := starts_cons.1 b1
    have c3 := (starts_cons.1 c2).1
    obtain ⟨hlt3, e3⟩ := at?_some c3
    simp only [List.length_append, List.length_cons, List.length_nil] at hsz b2
    rw [parseAllF, hq, if_pos (by omega), h4 s q _ a (Stop.at c1 rfl) (by unfold fuel; omega)]
    simp only
    rw [want_starts (l := []) (starts_cons.2 ⟨c1, rfl⟩) rfl]
    simp only [List.length_nil, Nat.zero_add]
    rw [if_neg (by omega), ih k _ (q + ((print t).1.length + 2)) (acc ++ [t]) (fun u hu => hall u (by simp [hu])) ?_ (by rw [show q + ((print t).1.length + 2) = q + (print t).1.length + (0 + 1 + 1) by omega]; exact b2) (by omega) (by simp at hk; omega)]
    · simp
    · rw [show skip s (q + (print t).1.length + 1) = skip s (q + (print t).1.length + 1 + 1) from span_yes hlt3 (by rw [e3]; rfl), show q + (print t).1.length + 1 + 1 = q + ((print t).1.length + 2) by omega]
      cases l with
      | nil =>
        simp only [texts, List.length_nil] at hsz
        exact skip_end (by omega)
      | cons u l =>
        obtain ⟨d, m, e, hd⟩ := print_lead (hall u (by simp)).1
        rw [texts, e] at b2
        have := (starts_cons.1 b2).1
        rw [show q + ((print t).1.length + 2) = q + (print t).1.length + (0 + 1 + 1) by omega]
        exact skip_at this hd.1
theorem texts_len {l : List (List Cl)} : 2 * l.length ≤ (texts l).length := by
  induction l with
  | nil => simp [texts]
  | cons t l ih => simp only [texts, List.length_append, List.length_cons, List.length_nil] at ih ⊢; omega
/-- P7.5: terms, printed, are read as the terms. -/
theorem parseAll_print (he : EncAs) {l : List (List Cl)} {r : List UInt8} {n : Nat} (hf : ∀ t ∈ l, ∀ c ∈ t, fits c) (h : printAll l = (r, 0, n)) : parseAll (bytes r) = (l, 0, 0) := by
  obtain ⟨h1, h2, h3, h4⟩ := printAllF_ok _ _ _ _ _ h
  rw [List.nil_append] at h2
  subst h2
  have hsz : (bytes (texts l)).size = (texts l).length := by simp [bytes, ByteArray.size]
  have := @texts_len l
  unfold parseAll
  rw [if_neg (by omega)]
  have hs := starts_self (texts l)
  refine texts_read he l _ 0 0 [] (fun t ht => ⟨h4 t ht, hf t ht⟩) ?_ hs (by omega) (by omega)
  cases l with
  | nil => exact skip_end (by rw [hsz]; simp [texts])
  | cons u l =>
    obtain ⟨d, m, e, hd⟩ := print_lead (h4 u (by simp))
    rw [texts, e] at hs
    have h0 := (starts_cons.1 hs).1
    rw [show (texts (u :: l)) = d :: (m ++ [46, 10] ++ texts l) by rw [texts, e]; simp]
    rw [show d :: m ++ [46, 10] ++ texts l = d :: (m ++ [46, 10] ++ texts l) by simp] at h0
    exact skip_at h0 hd.1
end Go.Proofs.YtejpdfenejbjdaaGreatDoor.Txt
