/- Walks: a binary. -/
import Derived.Test.YtebdikbngnolbaaDoorRd4
namespace Go.Proofs.YtebdikbngnolbaaDoor
open Go.RowKit Txt
set_option linter.unusedVariables false
set_option linter.unusedSimpArgs false

theorem bytes_size (l : List UInt8) : (Txt.bytes l).size = l.length := by simp [Txt.bytes, ByteArray.size]
theorem bytes_data (l : List UInt8) : (Txt.bytes l).data.toList = l := by simp [Txt.bytes]

theorem quotedF_len (s : ByteArray) : ∀ (k p : Nat) (acc l : List UInt8) (q : Nat), quotedF s k p acc = .ok l q → p ≤ q ∧ q ≤ s.size ∧ l.length ≤ acc.length + (q - p) := by
  intro k
  induction k with
  | zero => intro p acc l q h; cases h
  | succ k ih =>
    intro p acc l q h
    rw [quotedF] at h
    cases ha : at? s p with
    | none => rw [ha] at h; cases h
    | some c =>
      obtain ⟨hp, -⟩ := at?_some ha
      rw [ha] at h
      simp only at h
      split at h
      · cases h; omega
      · split at h
        · cases hb : at? s (p + 1) with
          | none => rw [hb] at h; cases h
          | some d =>
            rw [hb] at h
            simp only at h
            split at h
            · have := ih _ _ _ _ h; simp at this; omega
            · cases h
        · have := ih _ _ _ _ h; simp at this; omega
theorem quoted_len {s : ByteArray} {p q : Nat} {l : List UInt8} (h : Txt.quoted s p = .ok l q) : p < q ∧ q ≤ s.size ∧ l.length ≤ q - p := by
  have := quotedF_len s _ _ _ _ _ h; simp at this; omega

set_option maxHeartbeats 2000000 in
set_option maxRecDepth 100000 in
theorem binary_quoted (b : Nat) (s : ByteArray) (start p : Nat) (w : World) (hr : Rd b s p w) (hp : p ≤ s.size) (hs : s.size ≤ 1099511627776) (hq : at? s (skip s p) = some 34) :
    Calls Tryd.prog 32 #[.pointer (some ⟨b, 0, none⟩), .int .i64 (start : Int)] w (ParseR b s w (binary s start p)) := by
  have hsk := skip_le hp
  unfold binary binBytes
  simp only [hq, if_true]
  have HQ := Lib.hid hq; clear hq
  obtain ⟨hlt, -⟩ := at?_some HQ.out
  have hhere : decide (at? s (skip s p) = some 34) = true := decide_eq_true HQ.out
  have HH := Lib.hid hhere; clear hhere
  generalize hQ : skip s p = q at *
  have HSK := Lib.hid hQ; clear hQ
  cases hqt : Txt.quoted s q with
  | bad e a =>
    have HQT := Lib.hid hqt; clear hqt
    go_enter Tryd.func32, Tryd.ntmps32
    go_wp2_with fail
    refine (blanks_calls b s p w hr hp (by omega)).mono ?_
    rw [HSK.out]
    rintro e w1 ⟨rfl, hr1, hm1⟩
    have HM1 := Lib.hid hm1; clear hm1
    go_wp2_with fail
    refine (here_calls b s q 34 w1 hr1 hsk (by omega)).mono ?_
    rw [HH.out]
    rintro e w2 ⟨rfl, hr2, hm2⟩
    have HM2 := Lib.hid (HM1.out.trans hm2); clear hm2
    go_wp2_with fail
    refine (quoted_calls b s q w2 hr2 hlt hs).mono ?_
    rw [HQT.out]
    rintro e w3 ⟨rfl, hm3⟩
    have HM3 := Lib.hid (HM2.out.trans hm3); clear hm3
    go_wp2
    exact ⟨rfl, rfl, HM3.out⟩
  | ok l r =>
    have hln := quoted_len hqt
    have HQT := Lib.hid hqt; clear hqt
    simp only
    unfold want
    cases hst : starts s (skip s r) [62, 62] with
    | false =>
      have HST := Lib.hid hst; clear hst
      simp only [Bool.false_eq_true, if_false]
      go_enter Tryd.func32, Tryd.ntmps32
      go_wp2_with fail
      refine (blanks_calls b s p w hr hp (by omega)).mono ?_
      rw [HSK.out]
      rintro e w1 ⟨rfl, hr1, hm1⟩
      have HM1 := Lib.hid hm1; clear hm1
      go_wp2_with fail
      refine (here_calls b s q 34 w1 hr1 hsk (by omega)).mono ?_
      rw [HH.out]
      rintro e w2 ⟨rfl, hr2, hm2⟩
      have HM2 := Lib.hid (HM1.out.trans hm2); clear hm2
      go_wp2_with fail
      refine (quoted_calls b s q w2 hr2 hlt hs).mono ?_
      rw [HQT.out]
      rintro e w3 ⟨rfl, hr3, hm3⟩
      have HM3 := Lib.hid (HM2.out.trans hm3); clear hm3
      have hcb := conv_bytes w3 (Txt.bytes l)
      go_wp2_with fail
      refine (want_no b s ⟨#[62, 62]⟩ r _ (hr3.below (below_bytesWorld _ _ _)) (by omega) (by omega) (by decide) HST.out).mono ?_
      rintro e w7 ⟨rfl, hm7⟩
      have HM7 := Lib.hid ((HM3.out.trans (Mv.of_below (below_bytesWorld _ _ _))).trans hm7); clear hm7
      go_wp2
      exact ⟨rfl, rfl, HM7.out⟩
    | true =>
      have HST := Lib.hid hst; clear hst
      simp only [if_true]
      by_cases hbig : 1024 < l.length
      · rw [if_pos hbig]
        go_enter Tryd.func32, Tryd.ntmps32
        go_wp2_with fail
        refine (blanks_calls b s p w hr hp (by omega)).mono ?_
        rw [HSK.out]
        rintro e w1 ⟨rfl, hr1, hm1⟩
        have HM1 := Lib.hid hm1; clear hm1
        go_wp2_with fail
        refine (here_calls b s q 34 w1 hr1 hsk (by omega)).mono ?_
        rw [HH.out]
        rintro e w2 ⟨rfl, hr2, hm2⟩
        have HM2 := Lib.hid (HM1.out.trans hm2); clear hm2
        go_wp2_with fail
        refine (quoted_calls b s q w2 hr2 hlt hs).mono ?_
        rw [HQT.out]
        rintro e w3 ⟨rfl, hr3, hm3⟩
        have HM3 := Lib.hid (HM2.out.trans hm3); clear hm3
        have hcb := conv_bytes w3 (Txt.bytes l)
        go_wp2_with fail
        refine (want_yes b s ⟨#[62, 62]⟩ r _ (hr3.below (below_bytesWorld _ _ _)) (by omega) (by omega) HST.out).mono ?_
        rintro e w7 ⟨rfl, hr7, hm7⟩
        have HM7 := Lib.hid ((HM3.out.trans (Mv.of_below (below_bytesWorld _ _ _))).trans hm7); clear hm7
        clear hcb
        have hbs : ((Txt.bytes l).size : Int) = (l.length : Int) := by rw [bytes_size]
        have hbig' : 1024 < (Txt.bytes l).size := by rw [bytes_size]; exact hbig
        go_wp2_with fail
        refine (fail_calls _ _ _ _).mono ?_
        rintro e w8 ⟨rfl, rfl⟩
        go_wp2
        exact ⟨rfl, rfl, HM7.out⟩
      · rw [if_neg hbig]
        go_enter Tryd.func32, Tryd.ntmps32
        go_wp2_with fail
        refine (blanks_calls b s p w hr hp (by omega)).mono ?_
        rw [HSK.out]
        rintro e w1 ⟨rfl, hr1, hm1⟩
        have HM1 := Lib.hid hm1; clear hm1
        go_wp2_with fail
        refine (here_calls b s q 34 w1 hr1 hsk (by omega)).mono ?_
        rw [HH.out]
        rintro e w2 ⟨rfl, hr2, hm2⟩
        have HM2 := Lib.hid (HM1.out.trans hm2); clear hm2
        go_wp2_with fail
        refine (quoted_calls b s q w2 hr2 hlt hs).mono ?_
        rw [HQT.out]
        rintro e w3 ⟨rfl, hr3, hm3⟩
        have HM3 := Lib.hid (HM2.out.trans hm3); clear hm3
        have hcb := conv_bytes w3 (Txt.bytes l)
        go_wp2_with fail
        refine (want_yes b s ⟨#[62, 62]⟩ r _ (hr3.below (below_bytesWorld _ _ _)) (by omega) (by omega) HST.out).mono ?_
        rintro e w7 ⟨rfl, hr7, hm7⟩
        have hblk := hm7.block w3.heap.size (by rw [Lib.bytesWorld_size]; omega) (by have := hr3.lt; omega)
        have hcv := conv_cells w7 w3.heap.size 0 (grownCap w3 (Txt.bytes l).size 0 5) l (by
          intro i hi
          rw [World.cell?_of_block (w := Lib.bytesWorld w3 5 (Txt.bytes l)) hblk]
          have := Lib.bytesWorld_cell w3 5 (Txt.bytes l) i (by rw [bytes_size]; exact hi)
          rw [show 0 + i = i by omega, this, bytes_data]; simp [hi])
        have hcv2 := hcv
        rw [← bytes_size l] at hcv
        have HM7 := Lib.hid ((HM3.out.trans (Mv.of_below (below_bytesWorld _ _ _))).trans hm7); clear hm7 hblk
        clear hcb hcv2
        have hbig' : ¬ 1024 < (Txt.bytes l).size := by rw [bytes_size]; exact hbig
        go_wp2
        go_ret
        exact ⟨_, rfl, OwnT.one w7 ⟨8, 0, Txt.bytes l⟩ _ HM7.out.size, hr7.alloc _, HM7.out.alloc _⟩
end Go.Proofs.YtebdikbngnolbaaDoor
