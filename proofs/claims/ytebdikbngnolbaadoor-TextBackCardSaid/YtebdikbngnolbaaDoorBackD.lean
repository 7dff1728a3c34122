/- Plain law: what is read is a right term; several terms, printed, are read back. -/
import Derived.Test.YtebdikbngnolbaaDoorBackC
namespace Go.Proofs.YtebdikbngnolbaaDoor.Txt
set_option linter.unusedVariables false
set_option linter.unusedSimpArgs false

theorem fit0 (k : Int) (b : ByteArray) : fits ⟨k, 0, b⟩ := ⟨(by decide : (-9223372036854775808 : Int) ≤ 0), (by decide : (0 : Int) ≤ 9223372036854775807)⟩
/-- Just so many terms. -/
def Many (n : Nat) (t : List Cl) : Prop := (∀ (l : List Cl) (i want : Nat), rightF (t ++ l) i (want + n) = rightF l (i + t.length) want) ∧ ∀ c ∈ t, fits c
theorem Many.nil : Many 0 [] := ⟨fun l i want => rfl, fun c hc => by cases hc⟩
theorem Many.append {n m : Nat} {t u : List Cl} (h : Many n t) (h' : Many m u) : Many (n + m) (t ++ u) := by
  refine ⟨fun l i want => ?_, fun c hc => ?_⟩
  · rw [List.append_assoc, show want + (n + m) = (want + m) + n by omega, h.1, h'.1, List.length_append, Nat.add_assoc]
  · rw [List.mem_append] at hc
    rcases hc with hc | hc
    · exact h.2 c hc
    · exact h'.2 c hc
theorem Many.cell {c : Cl} {t : List Cl} (hc : cellE c = 0) (hf : fits c) (h : Many (kids c) t) : Many 1 (c :: t) := by
  refine ⟨fun l i want => ?_, fun d hd => ?_⟩
  · rw [List.cons_append, rightF, if_neg (by omega), if_neg (by omega), show want + 1 - 1 + kids c = want + kids c by omega, h.1, List.length_cons]
    congr 1; omega
  · rw [List.mem_cons] at hd
    rcases hd with rfl | hd
    · exact hf
    · exact h.2 d hd
theorem Many.leaf {c : Cl} (hc : cellE c = 0) (hf : fits c) (hk : kids c = 0) : Many 1 [c] := Many.cell hc hf (by rw [hk]; exact Many.nil)
theorem Many.cons {t u : List Cl} (h : Many 1 t) (h' : Many 1 u) : Many 1 (⟨7, 0, .empty⟩ :: (t ++ u)) := Many.cell rfl (fit0 _ _) (h.append h')
theorem Many.tuple {n : Nat} {t : List Cl} (hn : n ≤ 255) (h : Many n t) : Many 1 (⟨5, (n : Int), .empty⟩ :: t) := by
  refine Many.cell ?_ ⟨by simp only; omega, by simp only; omega⟩ ?_
  · simp [cellE, cellV]; omega
  · rw [kids_5 rfl (by simp) (by simp only; omega)]; exact h
theorem many_right {t : List Cl} (h : Many 1 t) (h1 : t ≠ []) (h2 : t.length ≤ 1024) : right t = (0, 0) := by
  unfold right
  rw [if_neg (by intro e; exact h1 (List.length_eq_zero_iff.1 e)), if_neg (by omega)]
  have := h.1 [] 0 0
  rw [List.append_nil, Nat.zero_add] at this
  rw [this, rightF]; rfl

theorem many_ne {t : List Cl} (h : Many 1 t) : t ≠ [] := by
  rintro rfl
  have := h.1 [] 0 0
  simp only [List.append_nil, rightF] at this
  cases this

theorem str_many (l : List UInt8) : Many 1 (strCells l) := by
  induction l with
  | nil => exact Many.leaf rfl (fit0 _ _) rfl
  | cons c l ih =>
    have := c.toNat_lt
    exact Many.cons (t := [⟨1, (c.toNat : Int), .empty⟩]) (Many.leaf (by simp [cellE, cellV]) ⟨by simp only; omega, by simp only; omega⟩ rfl) ih
theorem whole_many {s : ByteArray} {p q : Nat} {t : List Cl} (h : whole s p = .ok t q) : Many 1 t := by
  unfold whole at h
  simp only at h
  generalize (if decide (at? s p = some 45) = true then p + 1 else p) = z at h
  split at h
  · cases h
  · split at h
    · cases h
    · rename_i hx
      cases h
      refine Many.leaf ?_ ?_ rfl
      · simp [cellE, cellV]
      · unfold fits
        simp only
        by_cases hneg : at? s p = some 45
        · simp only [hneg, decide_true, if_true]; omega
        · simp only [hneg, decide_false, Bool.false_eq_true, if_false, and_true] at hx ⊢; omega
theorem ident_many {s : ByteArray} {kind : Int} {st p q : Nat} {t : List Cl} (hk : kind = 3 ∨ kind = 4) (h : ident s kind st p = .ok t q) : Many 1 t := by
  unfold ident at h
  simp only at h
  split at h
  · cases h
  · split at h
    · cases h
    · rename_i hx
      split at h
      · cases h
      · cases h
        generalize numOf (cut s (skip s p) (digitsEnd s (skip s p))) = n at hx
        unfold idMost at hx
        refine Many.leaf ?_ ?_ ?_
        · rcases hk with rfl | rfl
          · rw [if_pos rfl] at hx
            simp [cellE, cellV]; omega
          · rw [if_neg (by decide)] at hx
            simp [cellE, cellV]; omega
        · unfold fits
          simp only
          split at hx <;> omega
        · rcases hk with rfl | rfl <;> rfl
theorem binary_many {s : ByteArray} {st p q : Nat} {t : List Cl} (h : binary s st p = .ok t q) : Many 1 t := by
  unfold binary at h
  cases hb : binBytes s p with
  | bad e a => rw [hb] at h; cases h
  | ok l z =>
    rw [hb] at h
    simp only at h
    split at h
    · cases h
    · rename_i hx
      cases h
      refine Many.leaf ?_ (fit0 _ _) rfl
      have : (bytes l).size = l.length := by simp [bytes, ByteArray.size]
      simp [cellE, cellV, this]; omega
theorem ascii_spelled {b : ByteArray} (h : ∀ c ∈ b.data.toList, c.toNat < 128) : ∀ n i, spelledF b n i = true := by
  intro n
  induction n with
  | zero => intro i; rfl
  | succ n ih =>
    intro i
    rw [spelledF]
    split
    · rename_i hi
      have hc := h b[i] (by
        have e : b[i] = b.data.toList[i]'(by simpa using hi) := rfl
        rw [e]; exact List.getElem_mem _)
      rw [decode_ascii b i hi hc, if_neg (by simp only; omega)]
      exact ih _
    · rfl
theorem inside_ascii {c : UInt8} (h : insideB c = true) : c.toNat < 128 := by
  unfold insideB smallB digitB at h
  simp only [Bool.or_eq_true, Bool.and_eq_true, decide_eq_true_eq, beq_iff_eq] at h
  rcases h with (((h | h) | h) | h) | h
  · omega
  · omega
  · omega
  · rw [h]; decide
  · rw [h]; decide
theorem atom_many {b : ByteArray} (h : atomOk b = true) : Many 1 [⟨2, 0, b⟩] := by
  have : b.size ≤ 255 ∧ spelled b = true := by simpa [atomOk] using h
  refine Many.leaf ?_ (fit0 _ _) rfl
  simp [cellE, cellV, this.2]; omega
theorem scan_atom {s b : ByteArray} {p q : Nat} (hp : p < s.size) (h : scan s p = .ok b q) : atomOk b = true := by
  unfold scan at h
  split at h
  · split at h
    · cases h
    · split at h
      · cases h
      · rename_i hx
        cases h
        simp only [Bool.or_eq_true, Bool.not_eq_true', not_or, Bool.not_eq_false] at hx
        exact hx.2
  · split at h
    · cases h
    · split at h
      · cases h
      · rename_i hr hl
        cases h
        have hle : runEnd s p ≤ s.size := by
          unfold runEnd
          split
          · split
            · exact span_le (by omega)
            · omega
          · omega
        have hsm : ∃ h, smallB (s[p]'h) = true ∧ runEnd s p = span insideB s p := by
          refine ⟨hp, ?_⟩
          unfold runEnd at hr ⊢
          rw [dif_pos hp] at hr ⊢
          split at hr
          · rename_i hs; rw [if_pos hs]; exact ⟨hs, rfl⟩
          · exact absurd (.inl rfl) hr
        obtain ⟨-, -, he⟩ := hsm
        have hsz : (s.extract p (runEnd s p)).size = runEnd s p - p := by simp [ByteArray.size_extract]; omega
        simp only [atomOk, Bool.and_eq_true, decide_eq_true_eq]
        refine ⟨by omega, ascii_spelled ?_ _ _⟩
        intro c hc
        simp only [ByteArray.data_extract, Array.toList_extract, List.extract] at hc
        obtain ⟨j, hj, e⟩ := List.mem_iff_getElem.1 hc
        simp only [List.length_take, List.length_drop] at hj
        rw [List.getElem_take, List.getElem_drop] at e
        obtain ⟨h1, h2⟩ := span_in (f := insideB) (s := s) (p := p) (q := p + j) (by omega) (by rw [← he]; omega)
        rw [← e]; exact inside_ascii h2

theorem many_all (k : Nat) : (∀ (s : ByteArray) (p q : Nat) (t : List Cl), term k s p = .ok t q → Many 1 t)
    ∧ (∀ (s : ByteArray) (p q n : Nat) (acc t : List Cl), tupleL k s p acc n = .ok t q → ∃ u m, t = ⟨5, ((n + m : Nat) : Int), .empty⟩ :: (acc ++ u) ∧ Many m u ∧ n + m ≤ 255)
    ∧ (∀ (s : ByteArray) (p q : Nat) (acc t : List Cl), listL k s p acc = .ok t q → ∃ u, t = acc ++ u ∧ Many 1 u) := by
  induction k with
  | zero => exact ⟨fun _ _ _ _ h => (by rw [term] at h; cases h), fun _ _ _ _ _ _ h => (by rw [tupleL] at h; cases h), fun _ _ _ _ _ h => (by rw [listL] at h; cases h)⟩
  | succ k ih =>
    obtain ⟨iht, ihu, ihl⟩ := ih
    refine ⟨?_, ?_, ?_⟩
    · intro s p q t h
      rw [term] at h
      split at h
      · cases h
      · rename_i c hc
        obtain ⟨hlt, -⟩ := at?_some hc
        split at h
        · split at h
          · cases h
          · rename_i l r hq
            cases h
            exact str_many _
        split at h
        · exact whole_many h
        split at h
        · exact binary_many h
        split at h
        · exact ident_many (.inr rfl) h
        split at h
        · split at h
          · cases h
          · split at h
            · cases h
            · exact ident_many (.inl rfl) h
        split at h
        · split at h
          · cases h
            exact Many.leaf rfl (fit0 _ _) rfl
          · obtain ⟨u, m, rfl, hm, hn⟩ := ihu _ _ _ _ _ _ h
            rw [List.nil_append]
            exact Many.tuple hn (by rw [Nat.zero_add]; exact hm)
        split at h
        · split at h
          · cases h
            exact Many.leaf rfl (fit0 _ _) rfl
          · obtain ⟨u, rfl, hm⟩ := ihl _ _ _ _ _ h
            exact hm
        split at h
        · cases h
        · rename_i hs
          cases h
          exact atom_many (scan_atom hlt hs)
    · intro s p q n acc t h
      rw [tupleL] at h
      split at h
      · cases h
      · rename_i u r hu
        have h1 := iht _ _ _ _ hu
        split at h
        · split at h
          · cases h
          · cases h
            exact ⟨u, 1, rfl, h1, by omega⟩
        · split at h
          · cases h
          · obtain ⟨v, m, rfl, hm, hn⟩ := ihu _ _ _ _ _ _ h
            refine ⟨u ++ v, 1 + m, ?_, h1.append hm, by omega⟩
            rw [List.append_assoc, show n + 1 + m = n + (1 + m) by omega]
    · intro s p q acc t h
      rw [listL] at h
      split at h
      · cases h
      · rename_i u r hu
        have h1 := iht _ _ _ _ hu
        split at h
        · cases h
          exact ⟨⟨7, 0, .empty⟩ :: (u ++ [⟨6, 0, .empty⟩]), by simp, Many.cons h1 (Many.leaf rfl (fit0 _ _) rfl)⟩
        · split at h
          · split at h
            · cases h
            · rename_i v r2 hv
              have h2 := iht _ _ _ _ hv
              split at h
              · cases h
              · cases h
                exact ⟨⟨7, 0, .empty⟩ :: (u ++ v), by simp, Many.cons h1 h2⟩
          · split at h
            · cases h
            · obtain ⟨v, rfl, hm⟩ := ihl _ _ _ _ _ h
              exact ⟨⟨7, 0, .empty⟩ :: (u ++ v), by simp, Many.cons h1 hm⟩
/-- What Parse tells is a right term. -/
theorem parse_right (hne : ∀ k s p e a, term k s p = .bad e a → e ≠ 0) {s : ByteArray} {t : List Cl} (h : parse s = (t, 0, 0)) : right t = (0, 0) ∧ ∀ c ∈ t, fits c := by
  unfold parse at h
  split at h
  · cases h
  · split at h
    · rename_i e a hu
      simp only [Prod.mk.injEq] at h
      exact absurd h.2.1 (hne _ _ _ _ _ hu)
    · rename_i u q hu
      have hm := (many_all _).1 _ _ _ _ hu
      split at h
      · cases h
      · split at h
        · cases h
        · cases h
          exact ⟨many_right hm (many_ne hm) (by omega), hm.2⟩

/-! several -/
def printAllF : List (List Cl) → Nat → List UInt8 → List UInt8 × Int × Nat
  | [], _, b => if b.length > 65536 then ([], 4, 0) else (b, 0, 0)
  | t :: l, i, b => if (print t).2 ≠ 0 then ([], (print t).2, i) else printAllF l (i + 1) (if b.length ≤ 65536 then b ++ (print t).1 ++ [46, 10] else b)
def printAll (l : List (List Cl)) : List UInt8 × Int × Nat := printAllF l 0 []
def texts : List (List Cl) → List UInt8
  | [] => []
  | t :: l => (print t).1 ++ [46, 10] ++ texts l
theorem printAllF_ok : ∀ (l : List (List Cl)) (i n : Nat) (b r : List UInt8), printAllF l i b = (r, 0, n) → b.length ≤ 65536 ∧ r = b ++ texts l ∧ r.length ≤ 65536 ∧ ∀ t ∈ l, (print t).2 = 0 := by
  intro l
  induction l with
  | nil =>
    intro i n b r h
    rw [printAllF] at h
    split at h
    · simp at h
    · simp only [Prod.mk.injEq] at h
      obtain ⟨rfl, -, -⟩ := h
      exact ⟨by omega, by simp [texts], by omega, fun t ht => by cases ht⟩
  | cons t l ih =>
    intro i n b r h
    rw [printAllF] at h
    split at h
    · rename_i hx
      simp only [Prod.mk.injEq] at h
      exact absurd h.2.1 hx
    · rename_i hx
      have hx : (print t).2 = 0 := Decidable.byContradiction hx
      by_cases hb : b.length ≤ 65536
      · rw [if_pos hb] at h
        obtain ⟨h1, h2, h3, h4⟩ := ih _ _ _ _ h
        refine ⟨hb, by rw [h2, texts]; simp, h3, fun u hu => ?_⟩
        rw [List.mem_cons] at hu
        rcases hu with rfl | hu
        · exact hx
        · exact h4 u hu
      · rw [if_neg hb] at h
        have := (ih _ _ _ _ h).1
        omega
theorem print_right {t : List Cl} (h : (print t).2 = 0) : (right t).1 = 0 := by
  unfold print at h
  split at h
  · rename_i hx; exact absurd h hx
  · rename_i hx; exact Decidable.byContradiction hx
theorem print_lead {t : List Cl} (h : (print t).2 = 0) : ∃ d l, (print t).1 = d :: l ∧ lead d := by
  have hr := print_right h
  obtain ⟨c, k, hc, hk, hko, rfl, -⟩ := right_tree hr
  unfold print at h ⊢
  rw [if_neg (by omega)] at h ⊢
  cases hF : printF (c :: k.flat) [] [] with
  | none => rw [hF] at h; cases h
  | some b =>
    obtain ⟨h1, -⟩ := printF_pr _ _ _ _ hF
    rw [List.nil_append, print_tree hc hk hko] at h1
    rw [h1]
    exact txt_lead hc
theorem texts_read (he : EncAs) {s : ByteArray} : ∀ (l : List (List Cl)) (k p q : Nat) (acc : List (List Cl)), (∀ t ∈ l, (print t).2 = 0 ∧ ∀ c ∈ t, fits c) → skip s p = q → starts s q (texts l) = true → q + (texts l).length = s.size → l.length < k →
    parseAllF s k p acc = (acc ++ l, 0, 0) := by
  intro l
  induction l with
  | nil =>
    intro k p q acc _ hq _ hsz hk
    obtain ⟨k, rfl⟩ : ∃ j, k = j + 1 := ⟨k - 1, by omega⟩
    simp only [texts, List.length_nil] at hsz
    rw [parseAllF, hq, if_neg (by omega), List.append_nil]
  | cons t l ih =>
    intro k p q acc hall hq h hsz hk
    obtain ⟨k, rfl⟩ : ∃ j, k = j + 1 := ⟨k - 1, by omega⟩
    obtain ⟨ht, hf⟩ := hall t (by simp)
    obtain ⟨h1, h2, h3, h4⟩ := term_print he (print_right ht) hf (r := (print t).1) (by rw [← ht])
    rw [texts, List.append_assoc] at h hsz
    obtain ⟨a, b⟩ := starts_append.1 h
    obtain ⟨b1, b2⟩ := starts_append.1 b
    obtain ⟨c1, c2⟩ := starts_cons.1 b1
    have c3 := (starts_cons.1 c2).1
    obtain ⟨hlt3, e3⟩ := at?_some c3
    simp only [List.length_append, List.length_cons, List.length_nil] at hsz b2
    rw [parseAllF, hq, if_pos (by omega), h4 s q _ a (Stop.at c1 rfl) (by unfold fuel; omega)]
    simp only
    rw [want_starts (l := []) (starts_cons.2 ⟨c1, rfl⟩) rfl]
    simp only [List.length_nil, Nat.zero_add]
    rw [if_neg (by omega), ih k _ (q + ((print t).1.length + 2)) (acc ++ [t]) (fun u hu => hall u (by simp [hu])) ?_ (by rw [show q + ((print t).1.length + 2) = q + (print t).1.length + (0 + 1 + 1) by omega]; exact b2) (by omega) (by simp at hk; omega)]
    · simp
    · rw [show skip s (q + (print t).1.length + 1) = skip s (q + (print t).1.length + 1 + 1) from span_yes hlt3 (by rw [e3]; rfl), show q + (print t).1.length + 1 + 1 = q + ((print t).1.length + 2) by omega]
      cases l with
      | nil =>
        simp only [texts, List.length_nil] at hsz
        exact skip_end (by omega)
      | cons u l =>
        obtain ⟨d, m, e, hd⟩ := print_lead (hall u (by simp)).1
        rw [texts, e] at b2
        have := (starts_cons.1 b2).1
        rw [show q + ((print t).1.length + 2) = q + (print t).1.length + (0 + 1 + 1) by omega]
        exact skip_at this hd.1
theorem texts_len {l : List (List Cl)} : 2 * l.length ≤ (texts l).length := by
  induction l with
  | nil => simp [texts]
  | cons t l ih => simp only [texts, List.length_append, List.length_cons, List.length_nil] at ih ⊢; omega
/-- P7.5: terms, printed, are read as the terms. -/
theorem parseAll_print (he : EncAs) {l : List (List Cl)} {r : List UInt8} {n : Nat} (hf : ∀ t ∈ l, ∀ c ∈ t, fits c) (h : printAll l = (r, 0, n)) : parseAll (bytes r) = (l, 0, 0) := by
  obtain ⟨h1, h2, h3, h4⟩ := printAllF_ok _ _ _ _ _ h
  rw [List.nil_append] at h2
  subst h2
  have hsz : (bytes (texts l)).size = (texts l).length := by simp [bytes, ByteArray.size]
  have := @texts_len l
  unfold parseAll
  rw [if_neg (by omega)]
  have hs := starts_self (texts l)
  refine texts_read he l _ 0 0 [] (fun t ht => ⟨h4 t ht, hf t ht⟩) ?_ hs (by omega) (by omega)
  cases l with
  | nil => exact skip_end (by rw [hsz]; simp [texts])
  | cons u l =>
    obtain ⟨d, m, e, hd⟩ := print_lead (h4 u (by simp))
    rw [texts, e] at hs
    have h0 := (starts_cons.1 hs).1
    rw [show (texts (u :: l)) = d :: (m ++ [46, 10] ++ texts l) by rw [texts, e]; simp]
    rw [show d :: m ++ [46, 10] ++ texts l = d :: (m ++ [46, 10] ++ texts l) by simp] at h0
    exact skip_at h0 hd.1
end Go.Proofs.YtebdikbngnolbaaDoor.Txt
