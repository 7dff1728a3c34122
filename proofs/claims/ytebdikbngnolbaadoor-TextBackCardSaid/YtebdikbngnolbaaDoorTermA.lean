/- The parser's model: a term takes at least a byte, and makes at most two cells a byte. -/
import Derived.Test.YtebdikbngnolbaaDoorScan
import Derived.Test.YtebdikbngnolbaaDoorRd6
namespace Go.Proofs.YtebdikbngnolbaaDoor
open Txt
set_option linter.unusedVariables false
set_option linter.unusedSimpArgs false

theorem want_p {s : ByteArray} {p q : Nat} {sign : List UInt8} (hp : p ≤ s.size) (h : want s p sign = .ok () q) : p + sign.length ≤ q ∧ q ≤ s.size ∧ q = skip s p + sign.length ∧ starts s (skip s p) sign = true := by
  unfold want at h
  split at h
  · rename_i hst
    cases h
    have := starts_le (skip_le hp) hst
    have := le_skip s p
    exact ⟨by omega, by omega, rfl, hst⟩
  · cases h
theorem whole_p {s : ByteArray} {p q : Nat} {t : List Cl} (hp : p ≤ s.size) (h : whole s p = .ok t q) : p < q ∧ q ≤ s.size ∧ t.length = 1 := by
  unfold whole at h
  by_cases hneg : at? s p = some 45
  · obtain ⟨hlt, -⟩ := at?_some hneg
    simp only [hneg, decide_true, if_true] at h
    have h1 := le_digitsEnd s (p + 1)
    have h2 := digitsEnd_le (s := s) (p := p + 1) (by omega)
    split at h
    · cases h
    · split at h
      · cases h
      · cases h; exact ⟨by omega, h2, rfl⟩
  · simp only [hneg, decide_false, Bool.false_eq_true, if_false] at h
    have h1 := le_digitsEnd s p
    have h2 := digitsEnd_le (s := s) (p := p) (by omega)
    split at h
    · cases h
    · split at h
      · cases h
      · cases h; exact ⟨by omega, h2, rfl⟩
theorem ident_p {s : ByteArray} {kind : Int} {start p q : Nat} {t : List Cl} (hp : p ≤ s.size) (h : ident s kind start p = .ok t q) : p < q ∧ q ≤ s.size ∧ t.length = 1 := by
  unfold ident at h
  have h0 := le_skip s p
  have h1 := le_digitsEnd s (skip s p)
  have h2 := digitsEnd_le (skip_le hp)
  simp only at h
  split at h
  · cases h
  · split at h
    · cases h
    · split at h
      · cases h
      · rename_i hw
        cases h
        have := want_p h2 hw
        simp at this ⊢; omega
theorem binBytes_p {s : ByteArray} {p q : Nat} {l : List UInt8} (hp : p ≤ s.size) (h : binBytes s p = .ok l q) : p < q ∧ q ≤ s.size := by
  unfold binBytes at h
  have h0 := le_skip s p
  have hsk := skip_le hp
  simp only at h
  split at h
  · split at h
    · cases h
    · rename_i hq
      have h1 := quoted_len hq
      split at h
      · cases h
      · rename_i hw
        cases h
        have := want_p h1.2.1 hw
        simp at this; omega
  · split at h
    · rename_i hst
      cases h
      have := starts_le hsk hst
      simp at this; omega
    · have key : ∀ (k p : Nat) (acc : List UInt8), p ≤ s.size → bytesF s k p acc = .ok l q → p < q ∧ q ≤ s.size := by
        intro k
        induction k with
        | zero => intro p acc hp h; cases h
        | succ k ih =>
          intro p acc hp h
          rw [bytesF] at h
          have h1 := le_skip s p
          have h2 := le_digitsEnd s (skip s p)
          have h4 := digitsEnd_le (skip_le hp)
          have h3 := le_skip s (digitsEnd s (skip s p))
          have h5 := skip_le h4
          split at h
          · cases h
          · split at h
            · cases h
            · split at h
              · rename_i hat
                obtain ⟨hlt, -⟩ := at?_some hat
                have := ih _ _ (by omega) h
                omega
              · split at h
                · cases h
                · rename_i hw
                  cases h
                  have := want_p h5 hw
                  simp at this; omega
      have := key _ _ _ hsk h
      omega
theorem binary_p {s : ByteArray} {start p q : Nat} {t : List Cl} (hp : p ≤ s.size) (h : binary s start p = .ok t q) : p < q ∧ q ≤ s.size ∧ t.length = 1 := by
  unfold binary at h
  split at h
  · cases h
  · rename_i hb
    have := binBytes_p hp hb
    split at h
    · cases h
    · cases h; exact ⟨by omega, by omega, rfl⟩
theorem scan_p {s : ByteArray} {p q : Nat} {b : ByteArray} (hp : p ≤ s.size) (h : scan s p = .ok b q) : p < q ∧ q ≤ s.size := by
  unfold scan at h
  split at h
  · split at h
    · cases h
    · rename_i y hq
      have := quotedAF_p (by simp) hq
      simp only at this
      split at h
      · cases h
      · cases h; omega
  · have := runEnd_in (s := s) hp
    split at h
    · cases h
    · rename_i hn
      split at h
      · cases h
      · cases h
        have : runEnd s p ≠ p := fun e => hn (.inl e)
        omega
theorem strCells_length (l : List UInt8) : (strCells l).length = 2 * l.length + 1 := by
  induction l with
  | nil => rfl
  | cons c l ih => simp [strCells, ih]; omega

theorem quoted_len2 {s : ByteArray} {p q : Nat} {l : List UInt8} (h : Txt.quoted s p = .ok l q) : l.length + 2 ≤ q - p := by
  have key : ∀ (k p : Nat) (acc l : List UInt8) (q : Nat), quotedF s k p acc = .ok l q → p < q ∧ l.length + 1 ≤ acc.length + (q - p) := by
    intro k
    induction k with
    | zero => intro p acc l q h; cases h
    | succ k ih =>
      intro p acc l q h
      rw [quotedF] at h
      split at h
      · cases h
      · split at h
        · cases h; omega
        · split at h
          · split at h
            · cases h
            · split at h
              · have := ih _ _ _ _ h
                simp at this; omega
              · cases h
          · have := ih _ _ _ _ h
            simp at this; omega
  have := key _ _ _ _ _ h
  simp at this; omega
theorem term_all (k : Nat) : (∀ (s : ByteArray) (p q : Nat) (t : List Cl), p ≤ s.size → term k s p = .ok t q → p < q ∧ q ≤ s.size ∧ 1 ≤ t.length ∧ t.length ≤ 2 * (q - p))
    ∧ (∀ (s : ByteArray) (p q n : Nat) (acc t : List Cl), p ≤ s.size → tupleL k s p acc n = .ok t q → p < q ∧ q ≤ s.size ∧ 1 ≤ t.length ∧ t.length ≤ acc.length + 2 * (q - p))
    ∧ (∀ (s : ByteArray) (p q : Nat) (acc t : List Cl), p ≤ s.size → listL k s p acc = .ok t q → p < q ∧ q ≤ s.size ∧ 1 ≤ t.length ∧ t.length ≤ acc.length + 2 * (q - p)) := by
  induction k with
  | zero => exact ⟨fun _ _ _ _ _ h => (by rw [term] at h; cases h), fun _ _ _ _ _ _ _ h => (by rw [tupleL] at h; cases h), fun _ _ _ _ _ _ h => (by rw [listL] at h; cases h)⟩
  | succ k ih =>
    obtain ⟨iht, ihu, ihl⟩ := ih
    refine ⟨?_, ?_, ?_⟩
    · intro s p q t hp h
      rw [term] at h
      have h0 := le_skip s p
      have hsk := skip_le hp
      split at h
      · cases h
      · rename_i c hc
        obtain ⟨hlt, -⟩ := at?_some hc
        split at h
        · split at h
          · cases h
          · rename_i hq
            have := quoted_len hq
            have hl : 1 ≤ q - skip s p := by cases h; omega
            cases h
            rw [strCells_length]
            have h3 := quoted_len2 hq
            omega
        split at h
        · have := whole_p hsk h; omega
        split at h
        · rename_i hst
          have := starts_le hsk hst
          simp at this
          have := binary_p (by omega) h; omega
        split at h
        · have := ident_p (by omega) h; omega
        split at h
        · split at h
          · cases h
          · rename_i hw
            have h1 := want_p hsk hw
            split at h
            · cases h
            · rename_i hw2
              have h2 := want_p h1.2.1 hw2
              have := ident_p h2.2.1 h
              omega
        have h1 := le_skip s (skip s p + 1)
        have h2 := skip_le (s := s) (p := skip s p + 1) (by omega)
        split at h
        · split at h
          · rename_i hst
            have := starts_le h2 hst
            simp at this
            cases h
            simp; omega
          · have := ihu _ _ _ _ _ _ h2 h
            simp at this; omega
        split at h
        · split at h
          · rename_i hst
            have := starts_le h2 hst
            simp at this
            cases h
            simp; omega
          · have := ihl _ _ _ _ _ h2 h
            simp at this; omega
        split at h
        · cases h
        · rename_i hs
          have := scan_p hsk hs
          cases h
          simp; omega
    · intro s p q n acc t hp h
      rw [tupleL] at h
      split at h
      · cases h
      · rename_i u r hu
        have h1 := iht _ _ _ _ hp hu
        have h2 := le_skip s r
        have h3 := skip_le h1.2.1
        split at h
        · rename_i hat
          obtain ⟨hlt, -⟩ := at?_some hat
          split at h
          · cases h
          · cases h
            simp; omega
        · split at h
          · cases h
          · rename_i hw
            have h4 := want_p h3 hw
            have := ihu _ _ _ _ _ _ h4.2.1 h
            simp at this h4; omega
    · intro s p q acc t hp h
      rw [listL] at h
      split at h
      · cases h
      · rename_i u r hu
        have h1 := iht _ _ _ _ hp hu
        have h2 := le_skip s r
        have h3 := skip_le h1.2.1
        split at h
        · rename_i hat
          obtain ⟨hlt, -⟩ := at?_some hat
          cases h
          simp; omega
        · split at h
          · rename_i hat
            obtain ⟨hlt, -⟩ := at?_some hat
            split at h
            · cases h
            · rename_i v r2 hv
              have h4 := iht _ _ _ _ (by omega) hv
              split at h
              · cases h
              · rename_i hw
                have h5 := want_p h4.2.1 hw
                cases h
                simp at h5 ⊢; omega
          · split at h
            · cases h
            · rename_i hw
              have h4 := want_p h3 hw
              have := ihl _ _ _ _ _ h4.2.1 h
              simp at this h4; omega
theorem term_p {k : Nat} {s : ByteArray} {p q : Nat} {t : List Cl} (hp : p ≤ s.size) (h : term k s p = .ok t q) : p < q ∧ q ≤ s.size ∧ 1 ≤ t.length ∧ t.length ≤ 2 * (q - p) := (term_all k).1 s p q t hp h
end Go.Proofs.YtebdikbngnolbaaDoor
