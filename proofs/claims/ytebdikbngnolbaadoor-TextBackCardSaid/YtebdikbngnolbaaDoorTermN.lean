/- The parser's model: a fault is never numbered 0. -/
import Derived.Test.YtebdikbngnolbaaDoorTermA
namespace Go.Proofs.YtebdikbngnolbaaDoor
open Txt
set_option linter.unusedVariables false
set_option linter.unusedSimpArgs false

theorem want_ne {s : ByteArray} {p : Nat} {l : List UInt8} {e : Int} {a : Nat} (h : want s p l = .bad e a) : e ≠ 0 := by
  unfold want at h
  split at h <;> cases h
  decide
theorem whole_ne {s : ByteArray} {p : Nat} {e : Int} {a : Nat} (h : whole s p = .bad e a) : e ≠ 0 := by
  unfold whole at h
  simp only at h
  generalize (if decide (at? s p = some 45) = true then p + 1 else p) = q at h
  split at h
  · cases h; decide
  · split at h <;> cases h
    decide
theorem ident_ne {s : ByteArray} {k : Int} {st p : Nat} {e : Int} {a : Nat} (h : ident s k st p = .bad e a) : e ≠ 0 := by
  unfold ident at h
  simp only at h
  split at h
  · cases h; decide
  · split at h
    · cases h; decide
    · split at h
      · rename_i hw
        cases h; exact want_ne hw
      · cases h
theorem quotedF_ne {s : ByteArray} : ∀ {k p : Nat} {acc : List UInt8} {e : Int} {a : Nat}, quotedF s k p acc = .bad e a → e ≠ 0 := by
  intro k
  induction k with
  | zero => intro p acc e a h; rw [quotedF] at h; cases h; decide
  | succ k ih =>
    intro p acc e a h
    rw [quotedF] at h
    split at h
    · cases h; decide
    · split at h
      · cases h
      · split at h
        · split at h
          · cases h; decide
          · split at h
            · exact ih h
            · cases h; decide
        · exact ih h
theorem bytesF_ne {s : ByteArray} : ∀ {k p : Nat} {acc : List UInt8} {e : Int} {a : Nat}, bytesF s k p acc = .bad e a → e ≠ 0 := by
  intro k
  induction k with
  | zero => intro p acc e a h; rw [bytesF] at h; cases h; decide
  | succ k ih =>
    intro p acc e a h
    rw [bytesF] at h
    split at h
    · cases h; decide
    · split at h
      · cases h; decide
      · split at h
        · exact ih h
        · split at h
          · rename_i hw
            cases h; exact want_ne hw
          · cases h
theorem binBytes_ne {s : ByteArray} {p : Nat} {e : Int} {a : Nat} (h : binBytes s p = .bad e a) : e ≠ 0 := by
  unfold binBytes at h
  simp only at h
  split at h
  · split at h
    · rename_i hq
      cases h; exact quotedF_ne hq
    · split at h
      · rename_i hw
        cases h; exact want_ne hw
      · cases h
  · split at h
    · cases h
    · exact bytesF_ne h
theorem binary_ne {s : ByteArray} {st p : Nat} {e : Int} {a : Nat} (h : binary s st p = .bad e a) : e ≠ 0 := by
  unfold binary at h
  split at h
  · rename_i hb
    cases h; exact binBytes_ne hb
  · split at h <;> cases h
    decide
theorem scan_ne {s : ByteArray} {z : Nat} {e : Int} {a : Nat} (h : scan s z = .bad e a) : e ≠ 0 := by
  unfold scan at h
  split at h
  · split at h
    · cases h; decide
    · split at h <;> cases h
      decide
  · split at h
    · cases h; decide
    · split at h <;> cases h
      decide
theorem term_ne_all (k : Nat) : (∀ (s : ByteArray) (p : Nat) (e : Int) (a : Nat), term k s p = .bad e a → e ≠ 0)
    ∧ (∀ (s : ByteArray) (p n : Nat) (acc : List Cl) (e : Int) (a : Nat), tupleL k s p acc n = .bad e a → e ≠ 0)
    ∧ (∀ (s : ByteArray) (p : Nat) (acc : List Cl) (e : Int) (a : Nat), listL k s p acc = .bad e a → e ≠ 0) := by
  induction k with
  | zero => exact ⟨fun _ _ _ _ h => (by rw [term] at h; cases h; decide), fun _ _ _ _ _ _ h => (by rw [tupleL] at h; cases h; decide), fun _ _ _ _ _ h => (by rw [listL] at h; cases h; decide)⟩
  | succ k ih =>
    obtain ⟨iht, ihu, ihl⟩ := ih
    refine ⟨?_, ?_, ?_⟩
    · intro s p e a h
      rw [term] at h
      split at h
      · cases h; decide
      · split at h
        · split at h
          · rename_i hq
            cases h; exact quotedF_ne hq
          · cases h
        split at h
        · exact whole_ne h
        split at h
        · exact binary_ne h
        split at h
        · exact ident_ne h
        split at h
        · split at h
          · rename_i hw
            cases h; exact want_ne hw
          · split at h
            · rename_i hw
              cases h; exact want_ne hw
            · exact ident_ne h
        split at h
        · split at h
          · cases h
          · exact ihu _ _ _ _ _ _ h
        split at h
        · split at h
          · cases h
          · exact ihl _ _ _ _ _ h
        split at h
        · rename_i hs
          cases h; exact scan_ne hs
        · cases h
    · intro s p n acc e a h
      rw [tupleL] at h
      split at h
      · rename_i hu
        cases h; exact iht _ _ _ _ hu
      · split at h
        · split at h <;> cases h
          decide
        · split at h
          · rename_i hw
            cases h; exact want_ne hw
          · exact ihu _ _ _ _ _ _ h
    · intro s p acc e a h
      rw [listL] at h
      split at h
      · rename_i hu
        cases h; exact iht _ _ _ _ hu
      · split at h
        · cases h
        · split at h
          · split at h
            · rename_i hv
              cases h; exact iht _ _ _ _ hv
            · split at h
              · rename_i hw
                cases h; exact want_ne hw
              · cases h
          · split at h
            · rename_i hw
              cases h; exact want_ne hw
            · exact ihl _ _ _ _ _ h
theorem term_ne {k : Nat} {s : ByteArray} {p : Nat} {e : Int} {a : Nat} (h : term k s p = .bad e a) : e ≠ 0 := (term_ne_all k).1 s p e a h
end Go.Proofs.YtebdikbngnolbaaDoor
