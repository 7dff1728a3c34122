/- Walks: what is right of a cell. -/
import Derived.Test.YtejpdfenejbjdaaGreatDoorBase
import Derived.Test.YtejpdfenejbjdaaGreatDoorModel
import Derived.Lib.OthersKept
namespace Go.Proofs.YtejpdfenejbjdaaGreatDoor
open Go.RowKit Txt
set_option linter.unusedVariables false
set_option linter.unusedSimpArgs false

theorem width_pos (s : ByteArray) (p : Nat) (h : p < s.size) : 1 ≤ (Utf8.decode s p).2 := by
  by_cases ha : (s[p]'h).toNat < 128
  · rw [decode_ascii s p h ha]; exact Nat.le_refl _
  · exact (decode_high s p h (by omega)).2

theorem decodeGo_at (s : ByteArray) (p : Nat) (h : p < s.size) : Lib.decodeGo (s.extract p s.size) = Utf8.decode s p := by
  have hsz : (s.extract p s.size).size = s.size - p := by simp [ByteArray.size_extract]
  unfold Lib.decodeGo
  rw [if_neg (by omega)]
  have hg : ∀ k, p + k < s.size → (s.extract p s.size).get! (0 + k) = s.get! (p + k) := by
    intro k hk
    have h1 : 0 + k < (s.extract p s.size).size := by omega
    show (s.extract p s.size).data[0 + k]! = s.data[p + k]!
    rw [getElem!_pos _ _ (by simpa using h1), getElem!_pos _ _ (by simpa using hk)]
    simp
  have hb : ∀ k, decide (0 + k < (s.extract p s.size).size) = decide (p + k < s.size) := by intro k; rw [hsz]; simp; omega
  unfold Utf8.decode
  have h0 := hg 0 h
  have hc : ∀ k, (decide (0 + k < (s.extract p s.size).size) && ((s.extract p s.size).get! (0 + k)).toNat / 64 == 2) = (decide (p + k < s.size) && (s.get! (p + k)).toNat / 64 == 2) := by
    intro k
    rw [hb]
    by_cases hk : p + k < s.size
    · rw [hg k hk]
    · simp [hk]
  simp only [hc, h0]
  by_cases h1 : p + 1 < s.size
  · by_cases h2 : p + 2 < s.size
    · by_cases h3 : p + 3 < s.size
      · simp only [hg 1 h1, hg 2 h2, hg 3 h3]
      · simp only [hg 1 h1, hg 2 h2, h3, decide_false, Bool.false_and, Bool.and_false, Bool.false_eq_true, if_false]
    · have h3 : ¬ p + 3 < s.size := by omega
      simp only [hg 1 h1, h2, h3, decide_false, Bool.false_and, Bool.and_false, Bool.false_eq_true, if_false]
  · have h2 : ¬ p + 2 < s.size := by omega
    have h3 : ¬ p + 3 < s.size := by omega
    simp only [h1, h2, h3, decide_false, Bool.false_and, Bool.and_false, Bool.false_eq_true, if_false]

theorem decode_size (s : ByteArray) (p : Nat) : (Utf8.decode s p).2 ≤ 4 := by
  unfold Utf8.decode
  simp only
  repeat' split
  all_goals simp
theorem spelledF_end (s : ByteArray) (k p : Nat) (h : ¬ p < s.size) : spelledF s k p = true := by
  cases k <;> simp [spelledF, h]

set_option maxHeartbeats 800000 in
theorem spelled_calls (s : ByteArray) (t : Bool) (w : World) (hs : s.size ≤ 140737488355328) (ht : Tabs w) (hsp : spelled s = t) :
    Calls Tryz.prog 156 #[.string s] w fun e w' => e = .returned (.bool t) ∧ Below w.heap.size w w' := by
  have HS := Lib.hid hsp; clear hsp
  have HT := Lib.hid ht; clear ht
  go_enter Tryz.func156, Tryz.ntmps156
  go_wp2
  go_loopw [] (fun wr => ∃ pos b : Nat, wr.heap[w.heap.size]? = some (.stringIter s pos) ∧ Below w.heap.size w wr ∧ spelledF s b pos = t ∧ s.size ≤ pos + b) (fun wr => s.size - wr.iterPos w.heap.size)
  case atStart => exact ⟨0, s.size, World.iter_heap _ _ _, (Below.refl _ _).alloc (Nat.le_refl _) _, HS.out, by omega⟩
  case round =>
    obtain ⟨pos, b, hit, hbel, hc, hb⟩ := hrel
    have HB := Lib.hid hbel; clear hbel
    have HC := Lib.hid hc; clear hc
    have HI := Lib.hid hit
    by_cases hp : pos < s.size
    · have hwd := width_pos s pos hp
      have hw4 := decode_size s pos
      have hdl := decode_le s pos
      have hnx := fun ty => Lib.run_next_any_at (P := Tryz.prog) wr w.heap.size s pos ty hit hp
      have hgo := decodeGo_at s pos hp
      have HG := Lib.hid hgo; clear hgo
      clear hit
      have hlast : (wr.iterPos w.heap.size) = pos := by simp [World.iterPos, HI.out]
      have HL := Lib.hid hlast; clear hlast
      cases b with
      | zero => omega
      | succ b =>
        have hC := HC.out
        rw [spelledF, if_pos hp] at hC
        have hbel1 := Lib.below_iterAt HB.out (Nat.le_refl w.heap.size) s (pos + (Utf8.decode s pos).2)
        have hit1 := Lib.iterAt_heap wr w.heap.size s pos (pos + (Utf8.decode s pos).2) HI.out
        have hwp : (wr.iterAt w.heap.size s (pos + (Utf8.decode s pos).2)).iterPos w.heap.size = pos + (Utf8.decode s pos).2 := by simp [World.iterPos, hit1]
        have HB1 := Lib.hid hbel1; clear hbel1
        have HI1 := Lib.hid hit1; clear hit1
        have HW := Lib.hid hwp; clear hwp
        have hsz1 : (wr.iterAt w.heap.size s (pos + (Utf8.decode s pos).2)).heap.size = wr.heap.size := Lib.iterAt_size _ _ _ _
        have hszb : w.heap.size < wr.heap.size := by
          have := HI.out
          rcases Nat.lt_or_ge w.heap.size wr.heap.size with h | h
          · exact h
          · rw [Array.getElem?_eq_none h] at this; cases this
        have HZ := Lib.hid hsz1; clear hsz1
        generalize hdc : Utf8.decode s pos = dc at *
        obtain ⟨r, n⟩ := dc
        simp only at *
        generalize hw1e : wr.iterAt w.heap.size s (pos + n) = w1 at *
        by_cases hr : r = 65533
        · have hr1 : (((r : Int)) == 65533) = true := by subst hr; rfl
          have HR := Lib.hid hr; clear hr
          by_cases hn : n = 1
          · have hn1 : ((n : Int) == 1) = true := by subst hn; rfl
            have HN := Lib.hid hn; clear hn
            have htf : t = false := by rw [← hC, if_pos ⟨HR.out, HN.out⟩]
            have HF := Lib.hid htf; clear htf hC
            go_wp2_with fail
            refine (Tryz.utf8_DecodeRuneInString _ _ (HT.out.below HB1.out).u8).mono ?_
            rw [HG.out]
            rintro e w2 ⟨rfl, hb2⟩
            have HB2 := Lib.hid (HB1.out.trans (hb2.mono HB1.out.size)); clear hb2
            go_wp2
            go_ret
            exact ⟨by rw [HF.out]; rfl, HB2.out⟩
          · have hn1 : ((n : Int) == 1) = false := by rw [beq_eq_false_iff_ne]; omega
            rw [if_neg (fun h => hn h.2)] at hC
            have HC2 := Lib.hid hC; clear hC hn
            go_wp2_with fail
            refine (Tryz.utf8_DecodeRuneInString _ _ (HT.out.below HB1.out).u8).mono ?_
            rw [HG.out]
            rintro e w2 ⟨rfl, hb2⟩
            have HI2 := Lib.hid ((hb2.block w.heap.size (by rw [HZ.out]; exact hszb)).trans HI1.out)
            have HB2 := Lib.hid (HB1.out.trans (hb2.mono HB1.out.size)); clear hb2
            have hw2 : w2.iterPos w.heap.size = pos + n := by simp [World.iterPos, HI2.out]
            have HW2 := Lib.hid hw2; clear hw2
            go_wp2
            go_roundw
            case rel => exact ⟨pos + n, b, HI2.out, HB2.out, HC2.out, by omega⟩
            case measure => rw [HW2.out, HL.out]; omega
        · have hr1 : (((r : Int)) == 65533) = false := by rw [beq_eq_false_iff_ne]; omega
          rw [if_neg (fun h => hr h.1)] at hC
          have HC2 := Lib.hid hC; clear hC hr
          go_wp2
          go_roundw
          case rel => exact ⟨pos + n, b, HI1.out, HB1.out, HC2.out, by omega⟩
          case measure => rw [HW.out, HL.out]; omega
    · have hnx := fun ty => Lib.run_next_end_at (P := Tryz.prog) wr w.heap.size s pos ty hit hp
      clear hit
      have htt : t = true := by rw [← HC.out]; exact spelledF_end _ _ _ hp
      have HF := Lib.hid htt; clear htt
      go_wp2
      go_ret
      exact ⟨by rw [HF.out]; rfl, HB.out⟩
end Go.Proofs.YtejpdfenejbjdaaGreatDoor
