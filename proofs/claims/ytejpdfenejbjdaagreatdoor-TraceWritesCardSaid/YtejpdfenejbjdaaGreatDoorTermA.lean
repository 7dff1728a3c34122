/- The parser's model: a term takes at least a byte, and makes at most two cells a byte. -/
import Derived.Test.YtejpdfenejbjdaaGreatDoorScan
import Derived.Test.YtejpdfenejbjdaaGreatDoorRd3
namespace Go.Proofs.YtejpdfenejbjdaaGreatDoor
open Txt
set_option linter.unusedVariables false
set_option linter.unusedSimpArgs false

theorem want_p {s : ByteArray} {p q : Nat} {sign : List UInt8} (hp : p ≤ s.size) (h : want s p sign = .ok () q) : p + sign.length ≤ q ∧ q ≤ s.size ∧ q = skip s p + sign.length ∧ starts s (skip s p) sign = true := by
  unfold want at h
  split at h
  · rename_i hst
    cases h
    have := starts_le (skip_le hp) hst
    have := le_skip s p
    exact ⟨by omega, by omega, rfl, hst⟩
  · cases h
theorem whole_p {s : ByteArray} {p q : Nat} {t : List Cl} (hp : p ≤ s.size) (h : whole s p = .ok t q) : p < q ∧ q ≤ s.size ∧ t.length = 1 := by
  unfold whole at h
  by_cases hneg : at? s p = some 45
  · obtain ⟨hlt, -⟩ := at?_some hneg
    simp only [hneg, decide_true, if_true] at h
    have h1 := le_digitsEnd s (p + 1)
    have h2 := digitsEnd_le (s := s) (p := p + 1) (by omega)
    split at h
    · cases h
    · split at h
      · cases h
      · cases h; exact ⟨by omega, h2, rfl⟩
  · simp only [hneg, decide_false, Bool.false_eq_true, if_false] at h
    have h1 := le_digitsEnd s p
    have h2 := digitsEnd_le (s := s) (p := p) (by omega)
    split at h
    · cases h
    · split at h
      · cases h
      · cases h; exact ⟨by omega, h2, rfl⟩
theorem ident_p {s : ByteArray} {kind : Int} {start p q : Nat} {t : List Cl} (hp : p ≤ s.size) (h : ident s kind start p = .ok t q) : p < q ∧ q ≤ s.size ∧ t.length = 1 := by
  unfold ident at h
  have h0 := le_skip s p
  have h1 := le_digitsEnd s (skip s p)
  have h2 := digitsEnd_le (skip_le hp)
  simp only at h
  split at h
  · cases h
  · split at h
    · cases h
    · split at h
      · cases h
      · rename_i hw
        cases h
        have := want_p h2 hw
        simp at this ⊢; omega
theorem binBytes_p {s : ByteArray} {p q : Nat} {l : List UInt8} (hp : p ≤ s.size) (h : binBytes s p = .ok l q) : p < q ∧ q ≤ s.size := by
  unfold binBytes at h
  have h0 := le_skip s p
  have hsk := skip_le hp
  simp only at h
  split at h
  · split at h
    · cases h
    · rename_i hq
      have h1 := quoted_len hq
      split at h
      · cases h
      · rename_i hw
        cases h
        have := want_p h1.2.1 hw
        simp at this; omega
  · split at h
    · rename_i hst
      cases h
      have := starts_le hsk hst
      simp at this; omega
    · have key : ∀ (k p : Nat) (acc : List UInt8), p ≤ s.size → bytesF s k p acc = .ok l q → p < q ∧ q ≤ s.size := by
        intro k
        induction k with
        | zero => intro p acc hp h; cases h
        | succ k ih =>
          intro p acc hp h
          rw [bytesF] at h
          have h1 := le_skip s p
          have h2 := le_digitsEnd s (skip s p)
          have h4 := digitsEnd_le (skip_le hp)
          have h3 := le_skip s (digitsEnd s (skip s p))
          have h5 := skip_le h4
          split at h
          · cases h
          · split at h
            · cases h
            · split at h
              · rename_i hat
                obtain ⟨hlt, -⟩ := at?_some hat
                have := ih _ _ (by omega) h
                omega
              · split at h
                · cases h
                · rename_i hw
                  cases h
                  have := want_p h5 hw
                  simp at this; omega
      have := key _ _ _ hsk h
      omega
theorem binary_p {s : ByteArray} {start p q : Nat} {t : List Cl} (hp : p ≤ s.size) (h : binary s start p = .ok t q) : p < q ∧ q ≤ s.size ∧ t.length = 1 := by
  unfold binary at h
  split at h
  · cases h
  · rename_i hb
    have := binBytes_p hp hb
    split at h
    · cases h
    · cases h; exact ⟨by omega, by omega, rfl⟩
theorem scan_p {s : ByteArray} {p q : Nat} {b : ByteArray} (hp : p ≤ s.size) (h : scan s p = .ok b q) : p < q ∧ q ≤ s.size := by
  unfold scan at h
  split at h
  · split at h
    · cases h
    · rename_i y hq
      have := quotedAF_p (by simp) hq
      simp only at this
      split at h
      · cases h
      · cases h; omega
  · have := runEnd_in (s := s) hp
    split at h
    · cases h
    · rename_i hn
      split at h
      · cases h
      · cases h
        have : runEnd s p ≠ p := fun e => hn (.inl e)
        omega
theorem strCells_length (l : List UInt8) : (strCells l).length = 2 * l.length + 1 := by
  induction l with
  | nil => rfl
  | cons c l ih => simp [strCells, ih]; omega

theorem quoted_len2 {s : ByteArray} {p q : Nat} {l : List UInt8} (h : Txt.quoted s p = .ok l q) : l.length + 2 ≤ q - p := by
  have key : ∀ (k p : Nat) (acc l : List UInt8) (q : Nat), quotedF s k p acc = .ok l q → p < q ∧ l.length + 1 ≤ acc.length + (q - p) := by
    intro k
    induction k with
    | zero => intro p acc l q h; cases h
    | succ k ih =>
      intro p acc l q h
      rw [quotedF] at h
      split at h
      · cases h
      · split at h
        · cases h; omega
        · split at h
          · split at h
            · cases h
            · split at h
              · have := ih _ _ _ _ h
                simp at this; omega
              · cases h
          · have := ih _ _ _ _ h
            simp at this; omega
  have := key _ _ _ _ _ h
  simp at this; omega
theorem term_all (k : Nat) : (∀ (s : ByteArray) (p q : Nat) (t : List Cl), p ≤ s.size → term k s p = .ok t q → p < q ∧ q ≤ s.size ∧ 1 ≤ t.length ∧ t.length ≤ 2 * (q - p))
    ∧ (∀ (s : ByteArray) (p q n : Nat) (acc t : List Cl), p ≤ s.size → tupleL k s p acc n = .ok t q → p < q ∧ q ≤ s.size ∧ 1 ≤ t.length ∧ t.length ≤ acc.length + 2 * (q - p))
    ∧ (∀ (s : ByteArray) (p q : Nat) (acc t : List Cl), p ≤ s.size → listL k s p acc = .ok t q → p < q ∧ q ≤ s.size ∧ 1 ≤ t.length ∧ t.length ≤ acc.length + 2 * (q - p)) := by
  induction k with
  | zero => exact ⟨fun _ _ _ _ _ h => (by rw [term] at h; cases h), fun _ _ _ _ _ _ _ h => (by rw [tupleL] at h; cases h), fun _ _ _ _ _ _ h => (by rw [listL] at h; cases h)⟩
  | succ k ih =>
    obtain ⟨iht, ihu, ihl⟩ := ih
    refine ⟨?_, ?_, ?_⟩
    · intro s p q t hp h
      rw [term] at h
      have h0 := le_skip s p
      have hsk := skip_le hp
      split at h
      · cases h
      · rename_i c hc
        obtain ⟨hlt, -⟩ := at?_some hc
        split at h
        · split at h
          · cases h
          · rename_i hq
            have := quoted_len hq
            have hl : 1 ≤ q - skip s p := by cases h; omega
            cases h
            rw [strCells_length]
            have h3 := quoted_len2 hq
            omega
        split at h
        · have := whole_p hsk h; omega
        split at h
        · rename_i hst
          have := starts_le hsk hst
          simp at this
          have := binary_p (by omega) h; omega
        split at h
        · have := ident_p (by omega) h; omega
        split at h
        · split at h
          · cases h
          · rename_i hw
            have h1 := want_p hsk hw
            split at h
            · cases h
            · rename_i hw2
              have h2 := want_p h1.2.1 hw2
              have := ident_p h2.2.1 h
              omega
        have h1 := le_skip s (skip s p + 1)
        have h2 := skip_le (s := s) (p := skip s p + 1) (by omega)
        split at h
        · split at h
          · rename_i hst
            have := starts_le h2 hst
            simp at this
            cases h
            simp; omega
          · have := ihu _ _ _ _ _ _ h2 h
            simp at this; omega
        split at h
        · split at h
          · rename_i hst
            have := starts_le h2 hst
            simp at this
            cases h
            simp; omega
          · have := ihl _ _ _ _ _ h2 h
            simp at this; omega
        split at h
        · cases h
        · rename_i hs
          have := scan_p hsk hs
          cases h
          simp; omega
    · intro s p q n acc t hp h
      rw [tupleL] at h
      split at h
      · cases h
      · rename_i u r hu
        have h1 := iht _ _ _ _ hp hu
        have h2 := le_skip s r
        have h3 := skip_le h1.2.1
        split at h
        · rename_i hat
          obtain ⟨hlt, -⟩ := at?_some hat
          split at h
          · cases h
          · cases h
            simp; omega
        · split at h
          · cases h
          · rename_i hw
            have h4 := want_p h3 hw
            have := ihu _ _ _ _ _ _ h4.2.1 h
            simp at this h4; omega
    · intro s p q acc t hp h
      rw [listL] at h
      split at h
      · cases h
      · rename_i u r hu
        have h1 := iht _ _ _ _ hp hu
        have h2 := le_skip s r
        have h3 := skip_le h1.2.1
        split at h
        · rename_i hat
          obtain ⟨hlt, -⟩ := at?_some hat
          cases h
          simp; omega
        · split at h
          · rename_i hat
            obtain ⟨hlt, -⟩ := at?_some hat
            split at h
            · cases h
            · rename_i v r2 hv
              have h4 := iht _ _ _ _ (by omega) hv
              split at h
              · cases h
              · rename_i hw
                have h5 := want_p h4.2.1 hw
                cases h
                simp at h5 ⊢; omega
          · split at h
            · cases h
            · rename_i hw
              have h4 := want_p h3 hw
              have := ihl _ _ _ _ _ h4.2.1 h
              simp at this h4; omega
theorem term_p {k : Nat} {s : ByteArray} {p q : Nat} {t : List Cl} (hp : p ≤ s.size) (h : term k s p = .ok t q) : p < q ∧ q ≤ s.size ∧ 1 ≤ t.length ∧ t.length ≤ 2 * (q - p) := (term_all k).1 s p q t hp h
end Go.Proofs.YtejpdfenejbjdaaGreatDoor

namespace Go.Proofs.YtejpdfenejbjdaaGreatDoor
open Go.RowKit Txt
set_option linter.unusedVariables false
set_option linter.unusedSimpArgs false

/-- What is known of terms from a place on. -/
def TermOK (b : Nat) (s : ByteArray) (p0 : Nat) : Prop :=
  ∀ (k p : Nat) (w : World), p0 ≤ p → p ≤ s.size → 2 * (s.size - p) + 2 ≤ k → Rd b s p w → Tabs w → Calls Tryz.prog 92 #[.pointer (some ⟨b, 0, none⟩)] w (ParseR b s w (term k s p))

theorem OwnT.form {base : Nat} {w : World} {v : Value} {c : Cl} {t : List Cl} (h : OwnT base w v (c :: t)) :
    ∃ g cap, v = .slice (some ⟨g, 0, none⟩) (t.length + 1) cap ∧ base ≤ g ∧ t.length + 1 ≤ cap ∧ g < w.heap.size ∧ w.cell? ⟨g, 0, none⟩ = some (.int .i64 c.kind) ∧ w.cell? ⟨g, 1, none⟩ = some (.int .i64 c.n) ∧ w.frozen? ⟨g, 1, none⟩ = false ∧
      ∀ m : Int, OwnT base (w.setCell ⟨g, 1, none⟩ (.int .i64 m)) (.slice (some ⟨g, 0, none⟩) (t.length + 1) cap) ({ c with n := m } :: t) := by
  have h' := h
  obtain ⟨hl, ⟨-, h0⟩ | ⟨g, cap, cur, rfl, hb, hh, hn, hm, hs, ht⟩⟩ := h'
  · simp at h0
  · refine ⟨g, cap, rfl, hb, hn, ?_, ?_, ?_, ?_, ?_⟩
    · rcases Nat.lt_or_ge g w.heap.size with h' | h'
      · exact h'
      · rw [Array.getElem?_eq_none h'] at hh; cases hh
    · have := World.ownsRow.cellAt (h : World.ownsRow _ _ _ _ _ _ _) 0 (by simp)
      rw [this]; rfl
    · have := World.ownsRow.cellAt (h : World.ownsRow _ _ _ _ _ _ _) 1 (by simp; omega)
      rw [this]; rfl
    · exact World.ownsRow.frozenAt (h : World.ownsRow _ _ _ _ _ _ _) 1
    · intro m
      have := (World.ownsRow.stored (h : World.ownsRow _ _ _ _ _ _ _) 1 (.int .i64 m)).1
      exact this
theorem Tabs.grown {base : Nat} {u u' : World} {x : Value} (h : Tabs u) (hg : u.grownBy u' x.ownBlock) (hx : ∀ g, x.ownBlock = some g → base ≤ g) (hb : ng ≤ base) : Tabs u' :=
  h.keep hg.size fun k hk => hg.block k (Nat.lt_of_lt_of_le hk h.lt) (fun e => by have := hx k e.symm; omega)

set_option maxHeartbeats 4000000 in
set_option maxRecDepth 100000 in
theorem tuple_loop (b : Nat) (s : ByteArray) (p0 p k : Nat) (w : World) (hIH : TermOK b s p0) (hr : Rd b s p w) (hp0 : p0 ≤ p) (hp : p ≤ s.size) (hs : s.size ≤ 68719476736) (ht : Tabs w) (hb : ng ≤ b)
    (hno : starts s (skip s p) [125] = false) (hk : 2 * (s.size - skip s p) + 3 ≤ k) :
    Calls Tryz.prog 135 #[.pointer (some ⟨b, 0, none⟩)] w (ParseR b s w (tupleL k s (skip s p) [] 0)) := by
  have hsk := skip_le hp
  have hle := le_skip s p
  generalize hR : tupleL k s (skip s p) [] 0 = R
  have HRR := Lib.hid hR; clear hR
  have HNO := Lib.hid hno; clear hno
  have HIH := Lib.hid hIH; clear hIH
  have HT := Lib.hid ht; clear ht
  have hbw := hr.lt
  generalize hQ : skip s p = q0 at *
  have HSK := Lib.hid hQ; clear hQ
  obtain ⟨i0, hi, hz0, hz1, hz2⟩ := info_parts info_cell
  go_enter Tryz.func135, Tryz.ntmps135
  go_wp2_with fail
  refine (blanks_calls b s p _ (hr.alloc _) hp (by omega)).mono ?_
  rw [HSK.out]
  rintro e w1 ⟨rfl, hr1, hm1⟩
  have ho1 := OwnT.mv (OwnT.one w ⟨5, 0, .empty⟩ w.heap.size (Nat.le_refl _)) hm1 hbw
  have HM1 := Lib.hid (((Mv.refl b w).alloc _).trans hm1); clear hm1
  have HO1 := Lib.hid ho1; clear ho1
  go_wp2_with fail
  refine (next_calls b _).mono ?_
  rintro e w2 ⟨rfl, rfl⟩
  go_wp2_with fail
  refine (next1_no b w1.heap.size s ⟨#[125]⟩ q0 _ (hr1.alloc _) hsk (by omega) (by simp) HNO.out).mono ?_
  rintro e w3 ⟨rfl, hr3, hm3⟩
  have HO3 := Lib.hid (OwnT.mv (HO1.out.below ((Below.refl _ _).alloc (Nat.le_refl _) _)) hm3 hbw)
  have HM3 := Lib.hid ((HM1.out.alloc _).trans hm3); clear hm3
  have HR3 := Lib.hid hr3; clear hr3
  go_wp2_with fail
  go_loopw [3] (fun v wr => ∃ (q k n : Nat) (acc : List Cl), q ≤ s.size ∧ p0 ≤ q ∧ acc.length ≤ 2 * q ∧ n ≤ q ∧ 2 * (s.size - q) + 3 ≤ k ∧ tupleL k s q acc n = R ∧ OwnT w.heap.size wr v (⟨5, (n : Nat), .empty⟩ :: acc) ∧ Rd b s q wr ∧ Mv b w wr) (fun _ wr => s.size - (intOf ((wr.cell? ⟨b, 1, none⟩).getD undef)).toNat)
  case atStart => exact ⟨q0, k, 0, [], hsk, by omega, by simp, by omega, hk, HRR.out, HO3.out, HR3.out, HM3.out⟩
  case round =>
    obtain ⟨q, k, n, acc, hq, hpq, hacc, hn, hk, hf, ho, hrd, hmv⟩ := hrel
    have HF := Lib.hid hf; clear hf
    have HO := Lib.hid ho; clear ho
    have HM := Lib.hid hmv; clear hmv
    have HRq := Lib.hid hrd; clear hrd
    have HC1 := Lib.hid HRq.out.c1
    cases k with
    | zero => omega
    | succ k =>
    have htm := HIH.out k q wr hpq hq (by omega) HRq.out (HT.out.mv HM.out hb)
    have hF := HF.out
    rw [tupleL] at hF
    have hTP := fun u r => term_p (k := k) (s := s) (p := q) (t := u) (q := r) hq
    generalize term k s q = R1 at *
    cases R1 with
    | bad e a =>
      simp only at hF
      have HFF := Lib.hid hF; clear hF
      have HTM := Lib.hid htm; clear htm hTP
      go_wp2_with fail
      refine (HTM.out).mono ?_
      rintro e w4 ⟨rfl, hm4⟩
      have HM4 := Lib.hid (HM.out.trans hm4); clear hm4
      go_wp2
      rw [← HFF.out]
      exact ⟨rfl, rfl, HM4.out⟩
    | ok u r =>
      simp only at hF
      obtain ⟨h1, h2, h3, h4⟩ := hTP u r rfl
      have hskr := skip_le h2
      have hler := le_skip s r
      have hss := skip_skip s r
      have HSS := Lib.hid hss; clear hss
      have HFF := Lib.hid hF; clear hF
      have HTM := Lib.hid htm; clear htm hTP
      have hv := OwnT.form HO.out
      obtain ⟨g, cap, rfl, hv⟩ := hv
      have hlt := hv.1; clear hv
      go_wp2_with fail
      refine (HTM.out).mono ?_
      rintro e w4 ⟨x, rfl, hox, hr4, hm4⟩
      have HO4 := Lib.hid (OwnT.mv HO.out hm4 hbw)
      have HM4 := Lib.hid (HM.out.trans hm4); clear hm4
      have hu : u ≠ [] := by intro e; subst e; simp at h3
      obtain ⟨A, xc, rfl, -, hA⟩ := hox.sees
      obtain ⟨ad, rfl, hcells⟩ := hA hu
      have HCELLS := Lib.hid hcells; clear hcells hA hox
      go_wp2_with (at_builtin; refine wpList_append_own _ rfl _ _ 22 rfl w.heap.size 74 i0 (.agg #[.int .i64 0, .int .i64 0, .string .empty]) 3 32 Tryz.underlying22 hi hz0 hz1 hz2 rfl (by decide) _ _ _ rfl HO4.out ad u.length xc (cvs u) rfl (cvs_length u) HCELLS.out (cvs_oneCell u) ?c3 ?c4 ?c5 ?_)
      case c3 => unfold maxLen; simp only [List.length_cons]; omega
      case c4 => simp only [List.length_cons]; omega
      case c5 => exact HM4.out.size
      intro v' w5 hown' hgrow _
      have hge := HO4.out.own_ge
      have hown2 : OwnT w.heap.size w5 v' (⟨5, (n : Nat), .empty⟩ :: (acc ++ u)) := by
        show w5.ownsRow _ _ _ _ _ _
        rw [← List.cons_append, cvs_append, List.length_append]; exact hown'
      have hr5 := hr4.grown hgrow hge hbw
      have hm5 := HM4.out.grown hgrow hge
      clear hown' hgrow hge HCELLS
      obtain ⟨g5, cap5, rfl, hg5, hcap5, hglt, hk0, hk1, hkf, hst⟩ := hown2.form
      have hst6 := hst ((n : Int) + 1)
      rw [List.length_append] at hst6
      have hne : g5 ≠ b := by omega
      have hr6 : Rd b s r (w5.setCell ⟨g5, 1, none⟩ (.int .i64 ((n : Int) + 1))) := hr5.keep (by simp [World.setCell]) (Below.heap_setCell _ _ _ _ (by simp; omega))
      have hm6 : Mv b w (w5.setCell ⟨g5, 1, none⟩ (.int .i64 ((n : Int) + 1))) := ⟨hm5.os, hm5.tape, hm5.output, by simpa [World.setCell] using hm5.size, fun j hj hjb => (Below.heap_setCell _ _ _ _ (by simp; omega)).trans (hm5.block j hj hjb)⟩
      have HST := Lib.hid hst6; clear hst hst6
      have HR6 := Lib.hid hr6; clear hr6 hr5
      have HM6 := Lib.hid hm6; clear hm6 hm5
      clear hk0
      go_wp2_with fail
      refine (blanks_calls b s r _ HR6.out h2 (by omega)).mono ?_
      rintro e w7 ⟨rfl, hr7, hm7⟩
      have HO7 := Lib.hid (OwnT.mv HST.out hm7 hbw)
      have HM7 := Lib.hid (HM6.out.trans hm7); clear hm7
      by_cases hat : at? s (skip s r) = some 125
      · have hF := HFF.out
        rw [if_pos hat] at hF
        obtain ⟨hlt2, -⟩ := at?_some hat
        have hdec : decide (at? s (skip s r) = some 125) = true := decide_eq_true hat
        have HDEC := Lib.hid hdec; clear hdec hat HFF
        generalize skip s r = z at *
        have HFF := Lib.hid hF; clear hF
        go_wp2_with fail
        refine (here_calls b s z 125 w7 hr7 hskr (by omega)).mono ?_
        rw [HDEC.out]
        rintro e w8 ⟨rfl, hr8, hm8⟩
        have HO8 := Lib.hid (OwnT.mv HO7.out hm8 hbw)
        have HM8 := Lib.hid (HM7.out.trans hm8); clear hm8
        obtain ⟨g8, cap8, hsl, hg8, hcap8, hglt8, hk0, hk1, hkf, -⟩ := HO8.out.form
        simp only [List.length_append, Value.slice.injEq, Option.some.injEq, Addr.mk.injEq, and_true, true_and] at hsl
        obtain ⟨rfl, rfl⟩ := hsl
        simp only at hk1
        clear hk0
        by_cases hbig : n + 1 > 255
        · have hF := HFF.out
          rw [if_pos hbig] at hF
          subst hF
          obtain ⟨lt8, d0, d1, f0, f1⟩ := hr8
          go_wp2_with fail
          refine (fail_calls _ _ _ _).mono ?_
          rintro e w9 ⟨rfl, rfl⟩
          go_wp2
          exact ⟨rfl, rfl, HM8.out⟩
        · have hF := HFF.out
          rw [if_neg hbig] at hF
          subst hF
          have HR8 := Lib.hid hr8
          obtain ⟨lt8, d0, d1, f0, f1⟩ := hr8
          go_wp2
          go_ret
          exact ⟨_, rfl, OwnT.mv HO8.out ((Mv.refl b _).setAt 1 _) hbw, HR8.out.go 0 _ _ (by omega), HM8.out.setAt 1 _⟩
      · have hF := HFF.out
        rw [if_neg hat] at hF
        have hdec : decide (at? s (skip s r) = some 125) = false := decide_eq_false hat
        have HDEC := Lib.hid hdec; clear hdec hat HFF
        generalize skip s r = z at *
        unfold want at hF
        rw [HSS.out] at hF
        cases hcm : starts s z [44] with
        | true =>
          rw [hcm] at hF
          simp only [if_true, List.length_cons, List.length_nil] at hF
          have HCM := Lib.hid hcm; clear hcm
          have HFF := Lib.hid hF; clear hF
          have hsl := starts_le hskr HCM.out
          simp only [List.length_cons, List.length_nil] at hsl
          go_wp2_with fail
          refine (here_calls b s z 125 w7 hr7 hskr (by omega)).mono ?_
          rw [HDEC.out]
          rintro e w8 ⟨rfl, hr8, hm8⟩
          have HO8 := Lib.hid (OwnT.mv HO7.out hm8 hbw)
          have HM8 := Lib.hid (HM7.out.trans hm8); clear hm8
          go_wp2_with fail
          refine (want_yes b s ⟨#[44]⟩ z w8 hr8 hskr (by omega) (by rw [HSS.out]; exact HCM.out)).mono ?_
          rw [HSS.out]
          rintro e w9 ⟨rfl, hr9, hm9⟩
          have HO9 := Lib.hid (OwnT.mv HO8.out hm9 hbw)
          have HM9 := Lib.hid (HM8.out.trans hm9); clear hm9
          have HR9 := Lib.hid hr9; clear hr9
          go_wp2
          go_roundw
          case rel => exact ⟨z + 1, k, n + 1, acc ++ u, by omega, by omega, by simp only [List.length_append]; omega, by omega, by omega, HFF.out, by rw [Int.natCast_add]; exact HO9.out, HR9.out, HM9.out⟩
          case measure =>
            have e : w9.cell? ⟨b, 1, none⟩ = some (.int .i64 ((z + 1 : Nat) : Int)) := HR9.out.c1
            rw [e, HC1.out]; simp [intOf]; omega
        | false =>
          rw [hcm] at hF
          simp only [Bool.false_eq_true, if_false] at hF
          have HCM := Lib.hid hcm; clear hcm
          subst hF
          go_wp2_with fail
          refine (here_calls b s z 125 w7 hr7 hskr (by omega)).mono ?_
          rw [HDEC.out]
          rintro e w8 ⟨rfl, hr8, hm8⟩
          have HM8 := Lib.hid (HM7.out.trans hm8); clear hm8
          go_wp2_with fail
          refine (want_no b s ⟨#[44]⟩ z w8 hr8 hskr (by omega) (by decide) (by rw [HSS.out]; exact HCM.out)).mono ?_
          rw [HSS.out]
          rintro e w9 ⟨rfl, hm9⟩
          have HM9 := Lib.hid (HM8.out.trans hm9); clear hm9
          go_wp2
          exact ⟨rfl, rfl, HM9.out⟩

set_option maxHeartbeats 1000000 in
theorem tuple_none (b : Nat) (s : ByteArray) (p : Nat) (w : World) (hr : Rd b s p w) (hp : p ≤ s.size) (hs : s.size ≤ 68719476736)
    (hyes : starts s (skip s p) [125] = true) :
    Calls Tryz.prog 135 #[.pointer (some ⟨b, 0, none⟩)] w (ParseR b s w (.ok [⟨5, 0, .empty⟩] (skip s p + 1))) := by
  have hsk := skip_le hp
  have HNO := Lib.hid hyes; clear hyes
  have hbw := hr.lt
  generalize hQ : skip s p = q0 at *
  have HSK := Lib.hid hQ; clear hQ
  go_enter Tryz.func135, Tryz.ntmps135
  go_wp2_with fail
  refine (blanks_calls b s p _ (hr.alloc _) hp (by omega)).mono ?_
  rw [HSK.out]
  rintro e w1 ⟨rfl, hr1, hm1⟩
  have ho1 := OwnT.mv (OwnT.one w ⟨5, 0, .empty⟩ w.heap.size (Nat.le_refl _)) hm1 hbw
  have HM1 := Lib.hid (((Mv.refl b w).alloc _).trans hm1); clear hm1
  have HO1 := Lib.hid ho1; clear ho1
  go_wp2_with fail
  refine (next_calls b _).mono ?_
  rintro e w2 ⟨rfl, rfl⟩
  go_wp2_with fail
  refine (next1_yes b w1.heap.size s ⟨#[125]⟩ q0 _ (hr1.alloc _) hsk (by omega) (by simp) HNO.out).mono ?_
  rintro e w3 ⟨rfl, hr3, hm3⟩
  have HO3 := Lib.hid (OwnT.mv (HO1.out.below ((Below.refl _ _).alloc (Nat.le_refl _) _)) hm3 hbw)
  have HM3 := Lib.hid ((HM1.out.alloc _).trans hm3); clear hm3
  have HR3 := Lib.hid hr3; clear hr3
  go_wp2
  go_ret
  exact ⟨_, rfl, HO3.out, HR3.out, HM3.out⟩
end Go.Proofs.YtejpdfenejbjdaaGreatDoor

namespace Go.Proofs.YtejpdfenejbjdaaGreatDoor
open Txt
set_option linter.unusedVariables false
set_option linter.unusedSimpArgs false

theorem want_ne {s : ByteArray} {p : Nat} {l : List UInt8} {e : Int} {a : Nat} (h : want s p l = .bad e a) : e ≠ 0 := by
  unfold want at h
  split at h <;> cases h
  decide
theorem whole_ne {s : ByteArray} {p : Nat} {e : Int} {a : Nat} (h : whole s p = .bad e a) : e ≠ 0 := by
  unfold whole at h
  simp only at h
  generalize (if decide (at? s p = some 45) = true then p + 1 else p) = q at h
  split at h
  · cases h; decide
  · split at h <;> cases h
    decide
theorem ident_ne {s : ByteArray} {k : Int} {st p : Nat} {e : Int} {a : Nat} (h : ident s k st p = .bad e a) : e ≠ 0 := by
  unfold ident at h
  simp only at h
  split at h
  · cases h; decide
  · split at h
    · cases h; decide
    · split at h
      · rename_i hw
        cases h; exact want_ne hw
      · cases h
theorem quotedF_ne {s : ByteArray} : ∀ {k p : Nat} {acc : List UInt8} {e : Int} {a : Nat}, quotedF s k p acc = .bad e a → e ≠ 0 := by
  intro k
  induction k with
  | zero => intro p acc e a h; rw [quotedF] at h; cases h; decide
  | succ k ih =>
    intro p acc e a h
    rw [quotedF] at h
    split at h
    · cases h; decide
    · split at h
      · cases h
      · split at h
        · split at h
          · cases h; decide
          · split at h
            · exact ih h
            · cases h; decide
        · exact ih h
theorem bytesF_ne {s : ByteArray} : ∀ {k p : Nat} {acc : List UInt8} {e : Int} {a : Nat}, bytesF s k p acc = .bad e a → e ≠ 0 := by
  intro k
  induction k with
  | zero => intro p acc e a h; rw [bytesF] at h; cases h; decide
  | succ k ih =>
    intro p acc e a h
    rw [bytesF] at h
    split at h
    · cases h; decide
    · split at h
      · cases h; decide
      · split at h
        · exact ih h
        · split at h
          · rename_i hw
            cases h; exact want_ne hw
          · cases h
theorem binBytes_ne {s : ByteArray} {p : Nat} {e : Int} {a : Nat} (h : binBytes s p = .bad e a) : e ≠ 0 := by
  unfold binBytes at h
  simp only at h
  split at h
  · split at h
    · rename_i hq
      cases h; exact quotedF_ne hq
    · split at h
      · rename_i hw
        cases h; exact want_ne hw
      · cases h
  · split at h
    · cases h
    · exact bytesF_ne h
theorem binary_ne {s : ByteArray} {st p : Nat} {e : Int} {a : Nat} (h : binary s st p = .bad e a) : e ≠ 0 := by
  unfold binary at h
  split at h
  · rename_i hb
    cases h; exact binBytes_ne hb
  · split at h <;> cases h
    decide
theorem scan_ne {s : ByteArray} {z : Nat} {e : Int} {a : Nat} (h : scan s z = .bad e a) : e ≠ 0 := by
  unfold scan at h
  split at h
  · split at h
    · cases h; decide
    · split at h <;> cases h
      decide
  · split at h
    · cases h; decide
    · split at h <;> cases h
      decide
theorem term_ne_all (k : Nat) : (∀ (s : ByteArray) (p : Nat) (e : Int) (a : Nat), term k s p = .bad e a → e ≠ 0)
    ∧ (∀ (s : ByteArray) (p n : Nat) (acc : List Cl) (e : Int) (a : Nat), tupleL k s p acc n = .bad e a → e ≠ 0)
    ∧ (∀ (s : ByteArray) (p : Nat) (acc : List Cl) (e : Int) (a : Nat), listL k s p acc = .bad e a → e ≠ 0) := by
  induction k with
  | zero => exact ⟨fun _ _ _ _ h => (by rw [term] at h; cases h; decide), fun _ _ _ _ _ _ h => (by rw [tupleL] at h; cases h; decide), fun _ _ _ _ _ h => (by rw [listL] at h; cases h; decide)⟩
  | succ k ih =>
    obtain ⟨iht, ihu, ihl⟩ := ih
    refine ⟨?_, ?_, ?_⟩
    · intro s p e a h
      rw [term] at h
      split at h
      · cases h; decide
      · split at h
        · split at h
          · rename_i hq
            cases h; exact quotedF_ne hq
          · cases h
        split at h
        · exact whole_ne h
        split at h
        · exact binary_ne h
        split at h
        · exact ident_ne h
        split at h
        · split at h
          · rename_i hw
            cases h; exact want_ne hw
          · split at h
            · rename_i hw
              cases h; exact want_ne hw
            · exact ident_ne h
        split at h
        · split at h
          · cases h
          · exact ihu _ _ _ _ _ _ h
        split at h
        · split at h
          · cases h
          · exact ihl _ _ _ _ _ h
        split at h
        · rename_i hs
          cases h; exact scan_ne hs
        · cases h
    · intro s p n acc e a h
      rw [tupleL] at h
      split at h
      · rename_i hu
        cases h; exact iht _ _ _ _ hu
      · split at h
        · split at h <;> cases h
          decide
        · split at h
          · rename_i hw
            cases h; exact want_ne hw
          · exact ihu _ _ _ _ _ _ h
    · intro s p acc e a h
      rw [listL] at h
      split at h
      · rename_i hu
        cases h; exact iht _ _ _ _ hu
      · split at h
        · cases h
        · split at h
          · split at h
            · rename_i hv
              cases h; exact iht _ _ _ _ hv
            · split at h
              · rename_i hw
                cases h; exact want_ne hw
              · cases h
          · split at h
            · rename_i hw
              cases h; exact want_ne hw
            · exact ihl _ _ _ _ _ h
theorem term_ne {k : Nat} {s : ByteArray} {p : Nat} {e : Int} {a : Nat} (h : term k s p = .bad e a) : e ≠ 0 := (term_ne_all k).1 s p e a h
end Go.Proofs.YtejpdfenejbjdaaGreatDoor
