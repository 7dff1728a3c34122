/- Walks: the text of a cell that holds nothing. -/
import Derived.Test.YtejpdfenejbjdaaGreatDoorShown
import Derived.Test.YtejpdfenejbjdaaGreatDoorQuote
import Derived.Test.YtejpdfenejbjdaaGreatDoorBackA
import Derived.Lib.ItoaLen
import Derived.Lib.AppendIntMem
namespace Go.Proofs.YtejpdfenejbjdaaGreatDoor
open Go.RowKit Txt
set_option linter.unusedVariables false
set_option linter.unusedSimpArgs false

theorem bytes_bytes (s : ByteArray) : Txt.bytes s.data.toList = s := by apply ByteArray.ext; simp [Txt.bytes]
theorem itoa_size (n : Int) (h : -9223372036854775808 ≤ n ∧ n ≤ 9223372036854775807) : (⟨(Lib.itoa n).toArray⟩ : ByteArray).size ≤ 21 := by
  have := Lib.itoa_length_le n h.1 h.2
  have e : (⟨(Lib.itoa n).toArray⟩ : ByteArray).size = (Lib.itoa n).length := by simp [ByteArray.size]
  omega

set_option maxHeartbeats 1000000 in
set_option maxRecDepth 100000 in
theorem leaf_calls (c : Cl) (w : World) (hc : cellE c = 0) (hf : fits c) (h7 : c.kind ≠ 7) (ht : Tabs w) :
    Calls Tryz.prog 80 #[.agg #[.int .i64 c.kind, .int .i64 c.n, .string c.text]] w fun e w' => e = .returned (.string (Txt.bytes (leaf c))) ∧ Below w.heap.size w w' := by
  have hcell := cell_ok hc
  obtain ⟨k, n, x⟩ := c
  simp only at hcell h7 ⊢
  unfold fits at hf
  simp only at hf
  unfold leaf
  simp only
  have HT := Lib.hid ht; clear ht
  have HF := Lib.hid hf
  obtain ⟨hf1, hf2⟩ := hf
  have HTA : Hid (∀ o, Tabs (w.alloc o)) := Lib.hid fun o => HT.out.alloc o
  have hsz : (Txt.bytes (Lib.itoa n)).size ≤ 21 := itoa_size n HF.out
  have HDEF : Hid ((⟨(Lib.itoa n).toArray⟩ : ByteArray) = Txt.bytes (Lib.itoa n)) := Lib.hid rfl
  by_cases h1 : k = 1
  · subst h1
    rw [if_pos rfl]
    clear hcell h7 hsz hc
    go_enter Tryz.func80, Tryz.ntmps80
    go_wp2_with fail
    refine (Tryz.strconv_FormatInt_10 n HF.out.1 HF.out.2 _ (HTA.out _).pow).mono ?_
    rintro e w1 ⟨rfl, kk, os, rfl⟩
    have hb := (Below.alloc (Below.refl w.heap.size w) (Nat.le_refl _) (.cells #[.int .i64 1, .int .i64 n, .string x] 74)).trans (Lib.below_grow w.heap.size _ (by simp) kk os)
    have HB := Lib.hid hb; clear hb
    go_wp2
    go_ret
    exact ⟨rfl, HB.out⟩
  rw [if_neg h1]
  by_cases h2 : k = 2
  · subst h2
    rw [if_pos rfl]
    have hx : x.size ≤ 255 := (hcell.2.2.2.2.2.2.2.1 rfl).1
    clear hcell h7 hsz h1 hc
    go_enter Tryz.func80, Tryz.ntmps80
    go_wp2_with fail
    refine (quote_calls x _ (by omega) (HTA.out _)).mono ?_
    rintro e w1 ⟨rfl, hb1⟩
    have hb := (Below.alloc (Below.refl w.heap.size w) (Nat.le_refl _) (.cells #[.int .i64 2, .int .i64 n, .string x] 74)).trans (hb1.mono (by simp))
    have HB := Lib.hid hb; clear hb hb1
    go_wp2
    go_ret
    exact ⟨rfl, HB.out⟩
  rw [if_neg h2]
  by_cases h3 : k = 3
  · subst h3
    rw [if_pos rfl]
    have hz2 : (({ data := #[35, 82, 101, 102, 60] } : ByteArray) ++ Txt.bytes (Lib.itoa n)).size ≤ 100 := by
      rw [ByteArray.size_append, show (({ data := #[35, 82, 101, 102, 60] } : ByteArray)).size = 5 from rfl]; omega
    have hz3 : (({ data := #[35, 82, 101, 102, 60] } : ByteArray) ++ Txt.bytes (Lib.itoa n)) ++ ({ data := #[62] } : ByteArray) = Txt.bytes ([35, 82, 101, 102, 60] ++ Lib.itoa n ++ [62]) := by
      apply ByteArray.ext
      simp [Txt.bytes]
    have HZ3 := Lib.hid hz3
    clear hcell h7 h1 h2 hc hz3
    go_enter Tryz.func80, Tryz.ntmps80
    go_wp2_with fail
    refine (Tryz.strconv_FormatInt_10 n HF.out.1 HF.out.2 _ (HTA.out _).pow).mono ?_
    rintro e w1 ⟨he, kk, os, rfl⟩
    rw [HDEF.out] at he
    subst he
    have hb := (Below.alloc (Below.refl w.heap.size w) (Nat.le_refl _) (.cells #[.int .i64 3, .int .i64 n, .string x] 74)).trans (Lib.below_grow w.heap.size _ (by simp) kk os)
    have HB := Lib.hid hb; clear hb
    go_wp2
    go_ret
    exact ⟨by rw [HZ3.out]; rfl, HB.out⟩
  rw [if_neg h3]
  by_cases h4 : k = 4
  · subst h4
    rw [if_pos rfl]
    have hz2 : (({ data := #[60] } : ByteArray) ++ Txt.bytes (Lib.itoa n)).size ≤ 100 := by
      rw [ByteArray.size_append, show (({ data := #[60] } : ByteArray)).size = 1 from rfl]; omega
    have hz3 : (({ data := #[60] } : ByteArray) ++ Txt.bytes (Lib.itoa n)) ++ ({ data := #[62] } : ByteArray) = Txt.bytes ([60] ++ Lib.itoa n ++ [62]) := by
      apply ByteArray.ext
      simp [Txt.bytes]
    have HZ3 := Lib.hid hz3
    clear hcell h7 h1 h2 h3 hc hz3
    go_enter Tryz.func80, Tryz.ntmps80
    go_wp2_with fail
    refine (Tryz.strconv_FormatInt_10 n HF.out.1 HF.out.2 _ (HTA.out _).pow).mono ?_
    rintro e w1 ⟨he, kk, os, rfl⟩
    rw [HDEF.out] at he
    subst he
    have hb := (Below.alloc (Below.refl w.heap.size w) (Nat.le_refl _) (.cells #[.int .i64 4, .int .i64 n, .string x] 74)).trans (Lib.below_grow w.heap.size _ (by simp) kk os)
    have HB := Lib.hid hb; clear hb
    go_wp2
    go_ret
    exact ⟨by rw [HZ3.out]; rfl, HB.out⟩
  rw [if_neg h4]
  by_cases h6 : k = 6
  · subst h6
    rw [if_pos rfl]
    clear hcell h7 h1 h2 h3 h4 hc
    go_enter Tryz.func80, Tryz.ntmps80
    go_wp2
    go_ret
    exact ⟨rfl, (Below.refl _ _).alloc (Nat.le_refl _) _⟩
  rw [if_neg h6]
  by_cases h5 : k = 5
  · subst h5
    rw [if_pos rfl]
    clear hcell h7 h1 h2 h3 h4 h6 hc
    go_enter Tryz.func80, Tryz.ntmps80
    go_wp2
    go_ret
    exact ⟨rfl, (Below.refl _ _).alloc (Nat.le_refl _) _⟩
  rw [if_neg h5]
  obtain rfl : k = 8 := by omega
  have hx : x.size ≤ 1024 := hcell.2.2.2.2.2.2.2.2 rfl
  clear hcell h7 h1 h2 h3 h4 h6 h5 hc hsz
  go_enter Tryz.func80, Tryz.ntmps80
  go_wp2_with fail
  refine (shown_calls x _ (by omega) (HTA.out _)).mono ?_
  rintro e w1 ⟨rfl, hb1⟩
  have hb := (Below.alloc (Below.refl w.heap.size w) (Nat.le_refl _) (.cells #[.int .i64 8, .int .i64 n, .string x] 74)).trans (hb1.mono (by simp))
  have HB := Lib.hid hb; clear hb hb1
  go_wp2
  go_ret
  exact ⟨rfl, HB.out⟩
end Go.Proofs.YtejpdfenejbjdaaGreatDoor
