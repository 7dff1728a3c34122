/- Plain law: blanks ahead of a text and behind it: terms, Parse. -/
import Derived.Test.YtebdikbngnolbaaDoorShift
import Derived.Test.YtebdikbngnolbaaDoorTermN
namespace Go.Proofs.YtebdikbngnolbaaDoor.Txt
set_option linter.unusedVariables false
set_option linter.unusedSimpArgs false

theorem term_skip {s : ByteArray} {p q : Nat} (k : Nat) (h : skip s p = skip s q) : term (k + 1) s p = term (k + 1) s q := by rw [term, term, h]
theorem term_end {s : ByteArray} {k p : Nat} (hp : s.size ≤ p) : term k s p = .bad 70 p := by
  cases k with
  | zero => rw [term]
  | succ k => rw [term, skip_end hp, at?_ge hp]
theorem tupleL_end {s : ByteArray} {k p n : Nat} {acc : List Cl} (hp : s.size ≤ p) : tupleL k s p acc n = .bad 70 p := by
  cases k with
  | zero => rw [tupleL]
  | succ k => rw [tupleL, term_end hp]
theorem listL_end {s : ByteArray} {k p : Nat} {acc : List Cl} (hp : s.size ≤ p) : listL k s p acc = .bad 70 p := by
  cases k with
  | zero => rw [listL]
  | succ k => rw [listL, term_end hp]

theorem Sh.termAll {m : Nat} {s s' : ByteArray} (h : Sh m s s') : ∀ (k : Nat),
    (∀ k' p, p ≤ s.size → 2 * (s.size - p) + 2 ≤ k → 2 * (s'.size - (m + p)) + 2 ≤ k' → Rel m s (term k s p) (term k' s' (m + p)))
    ∧ (∀ k' p n acc, p ≤ s.size → 2 * (s.size - p) + 3 ≤ k → 2 * (s'.size - (m + p)) + 3 ≤ k' → Rel m s (tupleL k s p acc n) (tupleL k' s' (m + p) acc n))
    ∧ (∀ k' p acc, p ≤ s.size → 2 * (s.size - p) + 3 ≤ k → 2 * (s'.size - (m + p)) + 3 ≤ k' → Rel m s (listL k s p acc) (listL k' s' (m + p) acc)) := by
  have hsz := h.size
  intro k
  induction k with
  | zero => exact ⟨fun _ _ _ h1 => by omega, fun _ _ _ _ _ h1 => by omega, fun _ _ _ _ h1 => by omega⟩
  | succ k ih =>
    obtain ⟨iht, ihu, ihl⟩ := ih
    refine ⟨?_, ?_, ?_⟩
    · intro k' p hp h1 h2
      obtain ⟨k', rfl⟩ : ∃ j, k' = j + 1 := ⟨k' - 1, by omega⟩
      have hsk := le_skip s p
      rw [term, term]
      rcases h.skip _ p rfl hp with ⟨g1, g2⟩ | ⟨g1, g2⟩
      · rw [g2]
        generalize Txt.skip s p = z at *
        rw [h.same z g1, at?_lt g1]
        simp only
        generalize s[z] = c
        split
        · rcases h.quoted g1 with ⟨v, q, hq, e1, e2⟩ | ⟨e, a, ha, e1, e2⟩ | ⟨e, a, e', a', ha, e1, e2⟩ <;> rw [e1, e2] <;> simp only
          · exact .ok _ hq
          · exact .bad _ ha
          · exact .far _ _ _ ha
        split
        · exact h.whole (by omega)
        rw [h.starts _ _ rfl]
        split
        · rename_i hst
          have := starts_le (by omega) hst
          simp only [List.length_cons, List.length_nil] at this
          rw [Nat.add_assoc]
          exact h.binary (by omega) g1
        split
        · rw [Nat.add_assoc]; exact h.ident _ (by omega) g1
        split
        · rcases h.want (show z ≤ s.size by omega) 35 [82, 101, 102] rfl with ⟨v, q, hq, e1, e2⟩ | ⟨e, a, ha, e1, e2⟩ | ⟨e, a, e', a', ha, e1, e2⟩ <;> rw [e1, e2] <;> simp only
          · rcases h.want hq 60 [] rfl with ⟨v, q, hq, e1, e2⟩ | ⟨e, a, ha, e1, e2⟩ | ⟨e, a, e', a', ha, e1, e2⟩ <;> rw [e1, e2] <;> simp only
            · exact h.ident _ hq g1
            · exact .bad _ ha
            · exact .far _ _ _ ha
          · exact .bad _ ha
          · exact .far _ _ _ ha
        rw [Nat.add_assoc]
        have hy := le_skip s (z + 1)
        split
        · rcases h.skip _ (z + 1) rfl (by omega) with ⟨f1, f2⟩ | ⟨f1, f2⟩
          · rw [f2, h.starts _ _ rfl]
            split
            · rw [Nat.add_assoc]; exact .ok _ (by omega)
            · exact ihu _ _ _ _ (by omega) (by omega) (by omega)
          · rw [f1, f2, starts_end (Nat.le_refl _), starts_end (Nat.le_refl _)]
            simp only [Bool.false_eq_true, if_false]
            rw [tupleL_end (Nat.le_refl _), tupleL_end (Nat.le_refl _)]
            exact .far _ _ _ (Nat.le_refl _)
        split
        · rcases h.skip _ (z + 1) rfl (by omega) with ⟨f1, f2⟩ | ⟨f1, f2⟩
          · rw [f2, h.starts _ _ rfl]
            split
            · rw [Nat.add_assoc]; exact .ok _ (by omega)
            · exact ihl _ _ _ (by omega) (by omega) (by omega)
          · rw [f1, f2, starts_end (Nat.le_refl _), starts_end (Nat.le_refl _)]
            simp only [Bool.false_eq_true, if_false]
            rw [listL_end (Nat.le_refl _), listL_end (Nat.le_refl _)]
            exact .far _ _ _ (Nat.le_refl _)
        · rw [h.scan g1]
          cases hs : Txt.scan s z with
          | bad e a => simp only; exact .bad _ g1
          | ok b q => simp only; exact .ok _ (scan_p (by omega) hs).2
      · rw [g1, g2, at?_ge (Nat.le_refl _), at?_ge (Nat.le_refl _)]
        exact .far _ _ _ (Nat.le_refl _)
    · intro k' p n acc hp h1 h2
      obtain ⟨k', rfl⟩ : ∃ j, k' = j + 1 := ⟨k' - 1, by omega⟩
      rw [tupleL, tupleL]
      have hT := iht k' p hp (by omega) (by omega)
      cases hu : term k s p with
      | bad e a =>
        rw [hu] at hT
        rcases hT with ⟨v, q, hq, e1, e2⟩ | ⟨e, a, ha, e1, e2⟩ | ⟨e, a, e', a', ha, e1, e2⟩ <;> cases e1 <;> rw [e2] <;> simp only
        · exact .bad _ ha
        · exact .far _ _ _ ha
      | ok t q =>
        have hpq := term_p hp hu
        rw [hu] at hT
        rcases hT with ⟨v, q, hq, e1, e2⟩ | ⟨e, a, ha, e1, e2⟩ | ⟨e, a, e', a', ha, e1, e2⟩ <;> cases e1
        rw [e2]
        simp only
        have hsk := le_skip s q
        rcases h.skip _ q rfl hq with ⟨g1, g2⟩ | ⟨g1, g2⟩
        · rw [g2]
          by_cases e125 : at? s (Txt.skip s q) = some 125
          · rw [if_pos e125, if_pos ((h.at_iff _ _ rfl).2 e125)]
            split
            · exact .bad _ g1
            · rw [Nat.add_assoc]; exact .ok _ (by omega)
          · rw [if_neg e125, if_neg fun x => e125 ((h.at_iff _ _ rfl).1 x)]
            have hw := h.want (show Txt.skip s q ≤ s.size by omega) 44 [] rfl
            cases hwe : Txt.want s (Txt.skip s q) [44] with
            | bad e a =>
              rw [hwe] at hw
              rcases hw with ⟨v, q, hq, e1, e2⟩ | ⟨e, a, ha, e1, e2⟩ | ⟨e, a, e', a', ha, e1, e2⟩ <;> cases e1 <;> rw [e2] <;> simp only
              · exact .bad _ ha
              · exact .far _ _ _ ha
            | ok u z =>
              have hwp := want_p (by omega) hwe
              rw [hwe] at hw
              rcases hw with ⟨v, q, hq, e1, e2⟩ | ⟨e, a, ha, e1, e2⟩ | ⟨e, a, e', a', ha, e1, e2⟩ <;> cases e1
              rw [e2]
              simp only
              simp only [List.length_cons, List.length_nil] at hwp
              exact ihu _ _ _ _ (by omega) (by omega) (by omega)
        · rw [g1, g2, at?_ge (Nat.le_refl _), at?_ge (Nat.le_refl _), want_end (Nat.le_refl _), want_end (Nat.le_refl _)]
          simp only [reduceCtorEq, if_false]
          exact .far _ _ _ (Nat.le_refl _)
    · intro k' p acc hp h1 h2
      obtain ⟨k', rfl⟩ : ∃ j, k' = j + 1 := ⟨k' - 1, by omega⟩
      rw [listL, listL]
      have hT := iht k' p hp (by omega) (by omega)
      cases hu : term k s p with
      | bad e a =>
        rw [hu] at hT
        rcases hT with ⟨v, q, hq, e1, e2⟩ | ⟨e, a, ha, e1, e2⟩ | ⟨e, a, e', a', ha, e1, e2⟩ <;> cases e1 <;> rw [e2] <;> simp only
        · exact .bad _ ha
        · exact .far _ _ _ ha
      | ok t q =>
        have hpq := term_p hp hu
        rw [hu] at hT
        rcases hT with ⟨v, q, hq, e1, e2⟩ | ⟨e, a, ha, e1, e2⟩ | ⟨e, a, e', a', ha, e1, e2⟩ <;> cases e1
        rw [e2]
        simp only
        have hsk := le_skip s q
        rcases h.skip _ q rfl hq with ⟨g1, g2⟩ | ⟨g1, g2⟩
        · rw [g2]
          by_cases e93 : at? s (Txt.skip s q) = some 93
          · rw [if_pos e93, if_pos ((h.at_iff _ _ rfl).2 e93)]
            rw [Nat.add_assoc]; exact .ok _ (by omega)
          · rw [if_neg e93, if_neg fun x => e93 ((h.at_iff _ _ rfl).1 x)]
            by_cases e124 : at? s (Txt.skip s q) = some 124
            · rw [if_pos e124, if_pos ((h.at_iff _ _ rfl).2 e124), Nat.add_assoc]
              have hV := iht k' (Txt.skip s q + 1) (by omega) (by omega) (by omega)
              cases hv : term k s (Txt.skip s q + 1) with
              | bad e a =>
                rw [hv] at hV
                rcases hV with ⟨v, q, hq, e1, e2⟩ | ⟨e, a, ha, e1, e2⟩ | ⟨e, a, e', a', ha, e1, e2⟩ <;> cases e1 <;> rw [e2] <;> simp only
                · exact .bad _ ha
                · exact .far _ _ _ ha
              | ok u r =>
                rw [hv] at hV
                rcases hV with ⟨v, q, hq, e1, e2⟩ | ⟨e, a, ha, e1, e2⟩ | ⟨e, a, e', a', ha, e1, e2⟩ <;> cases e1
                rw [e2]
                simp only
                rcases h.want hq 93 [] rfl with ⟨v, q, hq, e1, e2⟩ | ⟨e, a, ha, e1, e2⟩ | ⟨e, a, e', a', ha, e1, e2⟩ <;> rw [e1, e2] <;> simp only
                · exact .ok _ hq
                · exact .bad _ ha
                · exact .far _ _ _ ha
            · rw [if_neg e124, if_neg fun x => e124 ((h.at_iff _ _ rfl).1 x)]
              have hw := h.want (show Txt.skip s q ≤ s.size by omega) 44 [] rfl
              cases hwe : Txt.want s (Txt.skip s q) [44] with
              | bad e a =>
                rw [hwe] at hw
                rcases hw with ⟨v, q, hq, e1, e2⟩ | ⟨e, a, ha, e1, e2⟩ | ⟨e, a, e', a', ha, e1, e2⟩ <;> cases e1 <;> rw [e2] <;> simp only
                · exact .bad _ ha
                · exact .far _ _ _ ha
              | ok u z =>
                have hwp := want_p (by omega) hwe
                rw [hwe] at hw
                rcases hw with ⟨v, q, hq, e1, e2⟩ | ⟨e, a, ha, e1, e2⟩ | ⟨e, a, e', a', ha, e1, e2⟩ <;> cases e1
                rw [e2]
                simp only
                simp only [List.length_cons, List.length_nil] at hwp
                exact ihl _ _ _ (by omega) (by omega) (by omega)
        · rw [g1, g2, at?_ge (Nat.le_refl _), at?_ge (Nat.le_refl _), want_end (Nat.le_refl _), want_end (Nat.le_refl _)]
          simp only [reduceCtorEq, if_false]
          exact .far _ _ _ (Nat.le_refl _)

theorem skip_blanks {s : ByteArray} : ∀ (m p : Nat), p + m ≤ s.size → (∀ i, i < m → ∃ c, at? s (p + i) = some c ∧ blankB c = true) → skip s p = skip s (p + m) := by
  intro m
  induction m with
  | zero => intro p _ _; rfl
  | succ m ih =>
    intro p hp hb
    obtain ⟨c, hc, hbl⟩ := hb 0 (by omega)
    obtain ⟨hlt, e⟩ := at?_some hc
    simp only [Nat.add_zero] at hlt e
    rw [show skip s p = skip s (p + 1) from span_yes hlt (by rw [e]; exact hbl), ih (p + 1) (by omega) fun i hi => by rw [Nat.add_assoc]; rw [show 1 + i = i + 1 by omega]; exact hb (i + 1) (by omega)]
    congr 1; omega

/-- What Parse says of a text with blanks ahead and behind. -/
theorem parse_shift {m : Nat} {s s' : ByteArray} (h : Sh m s s') (hb : ∀ i, i < m → ∃ c, at? s' i = some c ∧ blankB c = true) (hs : s'.size ≤ 65536) :
    ((parse s).2.1 = 0 → parse s' = ((parse s).1, 0, 0))
    ∧ ((parse s).2.1 ≠ 0 → (parse s').2.1 ≠ 0)
    ∧ ((parse s).2.1 ≠ 0 → ¬ ((parse s).2.1 = 7 ∧ (parse s).2.2 = 0) → (parse s).2.2 < s.size → (parse s').2.1 = (parse s).2.1 ∧ (parse s').2.2 = m + (parse s).2.2) := by
  have hsz := h.size
  have e0 : term (fuel s' 0) s' 0 = term (fuel s' 0) s' (m + 0) := by
    have := skip_blanks (s := s') m 0 (by omega) fun i hi => by rw [Nat.zero_add]; exact hb i hi
    rw [Nat.zero_add] at this
    exact term_skip _ this
  have hT := (h.termAll (fuel s 0)).1 (fuel s' 0) 0 (Nat.zero_le _) (Nat.le_refl _) (by unfold fuel; omega)
  unfold parse
  rw [if_neg (by omega), if_neg (by omega), e0]
  cases hu : term (fuel s 0) s 0 with
  | bad e a =>
    have hne := term_ne hu
    rw [hu] at hT
    rcases hT with ⟨v, q, hq, e1, e2⟩ | ⟨e, a, ha, e1, e2⟩ | ⟨e, a, e', a', ha, e1, e2⟩ <;> cases e1 <;> rw [e2] <;> simp only
    · exact ⟨fun x => absurd x hne, fun _ => hne, fun _ _ _ => by simp⟩
    · exact ⟨fun x => absurd x hne, fun _ => term_ne e2, fun _ _ h3 => by omega⟩
  | ok t q =>
    rw [hu] at hT
    rcases hT with ⟨v, q, hq, e1, e2⟩ | ⟨e, a, ha, e1, e2⟩ | ⟨e, a, e', a', ha, e1, e2⟩ <;> cases e1
    rw [e2]
    simp only
    rcases h.skip _ q rfl hq with ⟨g1, g2⟩ | ⟨g1, g2⟩
    · rw [g2, if_pos g1, if_pos (show m + Txt.skip s q < s'.size by omega)]
      exact ⟨fun x => absurd x (show ¬ (70 : Int) = 0 by decide), fun _ => (show (70 : Int) ≠ 0 by decide), fun _ _ _ => ⟨rfl, rfl⟩⟩
    · rw [g1, g2, if_neg (Nat.lt_irrefl s.size), if_neg (Nat.lt_irrefl s'.size)]
      split
      · exact ⟨fun x => absurd x (by decide), fun _ => by decide, fun _ h2 => absurd ⟨rfl, rfl⟩ h2⟩
      · exact ⟨fun _ => rfl, fun x => absurd rfl x, fun x => absurd rfl x⟩
end Go.Proofs.YtebdikbngnolbaaDoor.Txt
