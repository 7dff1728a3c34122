/- Walks: the reference's small functions on atoms. -/
import Derived.Test.YtejpdfenejbjdaaGreatDoorAtomB
import Derived.Test.YtejpdfenejbjdaaGreatDoorAtomE
import Derived.Test.YtejpdfenejbjdaaGreatDoorCells
import Derived.WalkSmall
import Derived.Laws.OwnMore
import Derived.Maps.AppendAt
import Derived.Test.YtejpdfenejbjdaaGreatDoorQuote
namespace Go.Proofs.YtejpdfenejbjdaaGreatDoor
open Go.RowKit Txt
set_option linter.unusedVariables false
set_option linter.unusedSimpArgs false

theorem rreserved_0 (w : World) : Calls Tryz.prog 199 #[.string ⟨#[97, 102, 116, 101, 114]⟩] w fun e w' => e = .returned (.bool true) ∧ w' = w := by
  go_enter Tryz.func199, Tryz.ntmps199
  go_wp2
  go_ret
  exact ⟨rfl, rfl⟩
theorem rreserved_1 (w : World) : Calls Tryz.prog 199 #[.string ⟨#[97, 110, 100]⟩] w fun e w' => e = .returned (.bool true) ∧ w' = w := by
  go_enter Tryz.func199, Tryz.ntmps199
  go_wp2
  go_ret
  exact ⟨rfl, rfl⟩
theorem rreserved_2 (w : World) : Calls Tryz.prog 199 #[.string ⟨#[97, 110, 100, 97, 108, 115, 111]⟩] w fun e w' => e = .returned (.bool true) ∧ w' = w := by
  go_enter Tryz.func199, Tryz.ntmps199
  go_wp2
  go_ret
  exact ⟨rfl, rfl⟩
theorem rreserved_3 (w : World) : Calls Tryz.prog 199 #[.string ⟨#[98, 97, 110, 100]⟩] w fun e w' => e = .returned (.bool true) ∧ w' = w := by
  go_enter Tryz.func199, Tryz.ntmps199
  go_wp2
  go_ret
  exact ⟨rfl, rfl⟩
theorem rreserved_4 (w : World) : Calls Tryz.prog 199 #[.string ⟨#[98, 101, 103, 105, 110]⟩] w fun e w' => e = .returned (.bool true) ∧ w' = w := by
  go_enter Tryz.func199, Tryz.ntmps199
  go_wp2
  go_ret
  exact ⟨rfl, rfl⟩
theorem rreserved_5 (w : World) : Calls Tryz.prog 199 #[.string ⟨#[98, 110, 111, 116]⟩] w fun e w' => e = .returned (.bool true) ∧ w' = w := by
  go_enter Tryz.func199, Tryz.ntmps199
  go_wp2
  go_ret
  exact ⟨rfl, rfl⟩
theorem rreserved_6 (w : World) : Calls Tryz.prog 199 #[.string ⟨#[98, 111, 114]⟩] w fun e w' => e = .returned (.bool true) ∧ w' = w := by
  go_enter Tryz.func199, Tryz.ntmps199
  go_wp2
  go_ret
  exact ⟨rfl, rfl⟩
theorem rreserved_7 (w : World) : Calls Tryz.prog 199 #[.string ⟨#[98, 115, 108]⟩] w fun e w' => e = .returned (.bool true) ∧ w' = w := by
  go_enter Tryz.func199, Tryz.ntmps199
  go_wp2
  go_ret
  exact ⟨rfl, rfl⟩
theorem rreserved_8 (w : World) : Calls Tryz.prog 199 #[.string ⟨#[98, 115, 114]⟩] w fun e w' => e = .returned (.bool true) ∧ w' = w := by
  go_enter Tryz.func199, Tryz.ntmps199
  go_wp2
  go_ret
  exact ⟨rfl, rfl⟩
theorem rreserved_9 (w : World) : Calls Tryz.prog 199 #[.string ⟨#[98, 120, 111, 114]⟩] w fun e w' => e = .returned (.bool true) ∧ w' = w := by
  go_enter Tryz.func199, Tryz.ntmps199
  go_wp2
  go_ret
  exact ⟨rfl, rfl⟩
theorem rreserved_10 (w : World) : Calls Tryz.prog 199 #[.string ⟨#[99, 97, 115, 101]⟩] w fun e w' => e = .returned (.bool true) ∧ w' = w := by
  go_enter Tryz.func199, Tryz.ntmps199
  go_wp2
  go_ret
  exact ⟨rfl, rfl⟩
theorem rreserved_11 (w : World) : Calls Tryz.prog 199 #[.string ⟨#[99, 97, 116, 99, 104]⟩] w fun e w' => e = .returned (.bool true) ∧ w' = w := by
  go_enter Tryz.func199, Tryz.ntmps199
  go_wp2
  go_ret
  exact ⟨rfl, rfl⟩
theorem rreserved_12 (w : World) : Calls Tryz.prog 199 #[.string ⟨#[99, 111, 110, 100]⟩] w fun e w' => e = .returned (.bool true) ∧ w' = w := by
  go_enter Tryz.func199, Tryz.ntmps199
  go_wp2
  go_ret
  exact ⟨rfl, rfl⟩
theorem rreserved_13 (w : World) : Calls Tryz.prog 199 #[.string ⟨#[100, 105, 118]⟩] w fun e w' => e = .returned (.bool true) ∧ w' = w := by
  go_enter Tryz.func199, Tryz.ntmps199
  go_wp2
  go_ret
  exact ⟨rfl, rfl⟩
theorem rreserved_14 (w : World) : Calls Tryz.prog 199 #[.string ⟨#[101, 108, 115, 101]⟩] w fun e w' => e = .returned (.bool true) ∧ w' = w := by
  go_enter Tryz.func199, Tryz.ntmps199
  go_wp2
  go_ret
  exact ⟨rfl, rfl⟩
theorem rreserved_15 (w : World) : Calls Tryz.prog 199 #[.string ⟨#[101, 110, 100]⟩] w fun e w' => e = .returned (.bool true) ∧ w' = w := by
  go_enter Tryz.func199, Tryz.ntmps199
  go_wp2
  go_ret
  exact ⟨rfl, rfl⟩
theorem rreserved_16 (w : World) : Calls Tryz.prog 199 #[.string ⟨#[102, 117, 110]⟩] w fun e w' => e = .returned (.bool true) ∧ w' = w := by
  go_enter Tryz.func199, Tryz.ntmps199
  go_wp2
  go_ret
  exact ⟨rfl, rfl⟩
theorem rreserved_17 (w : World) : Calls Tryz.prog 199 #[.string ⟨#[105, 102]⟩] w fun e w' => e = .returned (.bool true) ∧ w' = w := by
  go_enter Tryz.func199, Tryz.ntmps199
  go_wp2
  go_ret
  exact ⟨rfl, rfl⟩
theorem rreserved_18 (w : World) : Calls Tryz.prog 199 #[.string ⟨#[108, 101, 116]⟩] w fun e w' => e = .returned (.bool true) ∧ w' = w := by
  go_enter Tryz.func199, Tryz.ntmps199
  go_wp2
  go_ret
  exact ⟨rfl, rfl⟩
theorem rreserved_19 (w : World) : Calls Tryz.prog 199 #[.string ⟨#[109, 97, 121, 98, 101]⟩] w fun e w' => e = .returned (.bool true) ∧ w' = w := by
  go_enter Tryz.func199, Tryz.ntmps199
  go_wp2
  go_ret
  exact ⟨rfl, rfl⟩
theorem rreserved_20 (w : World) : Calls Tryz.prog 199 #[.string ⟨#[110, 111, 116]⟩] w fun e w' => e = .returned (.bool true) ∧ w' = w := by
  go_enter Tryz.func199, Tryz.ntmps199
  go_wp2
  go_ret
  exact ⟨rfl, rfl⟩
theorem rreserved_21 (w : World) : Calls Tryz.prog 199 #[.string ⟨#[111, 102]⟩] w fun e w' => e = .returned (.bool true) ∧ w' = w := by
  go_enter Tryz.func199, Tryz.ntmps199
  go_wp2
  go_ret
  exact ⟨rfl, rfl⟩
theorem rreserved_22 (w : World) : Calls Tryz.prog 199 #[.string ⟨#[111, 114]⟩] w fun e w' => e = .returned (.bool true) ∧ w' = w := by
  go_enter Tryz.func199, Tryz.ntmps199
  go_wp2
  go_ret
  exact ⟨rfl, rfl⟩
theorem rreserved_23 (w : World) : Calls Tryz.prog 199 #[.string ⟨#[111, 114, 101, 108, 115, 101]⟩] w fun e w' => e = .returned (.bool true) ∧ w' = w := by
  go_enter Tryz.func199, Tryz.ntmps199
  go_wp2
  go_ret
  exact ⟨rfl, rfl⟩
theorem rreserved_24 (w : World) : Calls Tryz.prog 199 #[.string ⟨#[114, 101, 99, 101, 105, 118, 101]⟩] w fun e w' => e = .returned (.bool true) ∧ w' = w := by
  go_enter Tryz.func199, Tryz.ntmps199
  go_wp2
  go_ret
  exact ⟨rfl, rfl⟩
theorem rreserved_25 (w : World) : Calls Tryz.prog 199 #[.string ⟨#[114, 101, 109]⟩] w fun e w' => e = .returned (.bool true) ∧ w' = w := by
  go_enter Tryz.func199, Tryz.ntmps199
  go_wp2
  go_ret
  exact ⟨rfl, rfl⟩
theorem rreserved_26 (w : World) : Calls Tryz.prog 199 #[.string ⟨#[116, 114, 121]⟩] w fun e w' => e = .returned (.bool true) ∧ w' = w := by
  go_enter Tryz.func199, Tryz.ntmps199
  go_wp2
  go_ret
  exact ⟨rfl, rfl⟩
theorem rreserved_27 (w : World) : Calls Tryz.prog 199 #[.string ⟨#[119, 104, 101, 110]⟩] w fun e w' => e = .returned (.bool true) ∧ w' = w := by
  go_enter Tryz.func199, Tryz.ntmps199
  go_wp2
  go_ret
  exact ⟨rfl, rfl⟩
theorem rreserved_28 (w : World) : Calls Tryz.prog 199 #[.string ⟨#[120, 111, 114]⟩] w fun e w' => e = .returned (.bool true) ∧ w' = w := by
  go_enter Tryz.func199, Tryz.ntmps199
  go_wp2
  go_ret
  exact ⟨rfl, rfl⟩
set_option maxHeartbeats 1000000 in
theorem rreserved_no (x : ByteArray) (w : World) (h : reserved x.data.toList = false) : Calls Tryz.prog 199 #[.string x] w fun e w' => e = .returned (.bool false) ∧ w' = w := by
  rw [← ByteArray.toList_eq] at h
  simp only [reserved, Txt.words, List.contains_cons, List.contains_nil, Bool.or_eq_false_iff] at h
  obtain ⟨h0, h1, h2, h3, h4, h5, h6, h7, h8, h9, h10, h11, h12, h13, h14, h15, h16, h17, h18, h19, h20, h21, h22, h23, h24, h25, h26, h27, h28, -⟩ := h
  go_enter Tryz.func199, Tryz.ntmps199
  go_wp2
  go_ret
  exact ⟨rfl, rfl⟩
/-- parleyref02.Reserved -/
theorem rreserved_calls (x : ByteArray) (t : Bool) (w : World) (h : reserved x.data.toList = t) : Calls Tryz.prog 199 #[.string x] w fun e w' => e = .returned (.bool t) ∧ w' = w := by
  cases t with
  | false => exact rreserved_no x w h
  | true =>
    simp only [reserved, Txt.words, List.contains_cons, List.contains_nil, Bool.or_eq_true, beq_iff_eq, Bool.false_eq_true, or_false] at h
    rcases h with h | h | h | h | h | h | h | h | h | h | h | h | h | h | h | h | h | h | h | h | h | h | h | h | h | h | h | h | h
    · rw [bytes_of_list h]; exact rreserved_0 w
    · rw [bytes_of_list h]; exact rreserved_1 w
    · rw [bytes_of_list h]; exact rreserved_2 w
    · rw [bytes_of_list h]; exact rreserved_3 w
    · rw [bytes_of_list h]; exact rreserved_4 w
    · rw [bytes_of_list h]; exact rreserved_5 w
    · rw [bytes_of_list h]; exact rreserved_6 w
    · rw [bytes_of_list h]; exact rreserved_7 w
    · rw [bytes_of_list h]; exact rreserved_8 w
    · rw [bytes_of_list h]; exact rreserved_9 w
    · rw [bytes_of_list h]; exact rreserved_10 w
    · rw [bytes_of_list h]; exact rreserved_11 w
    · rw [bytes_of_list h]; exact rreserved_12 w
    · rw [bytes_of_list h]; exact rreserved_13 w
    · rw [bytes_of_list h]; exact rreserved_14 w
    · rw [bytes_of_list h]; exact rreserved_15 w
    · rw [bytes_of_list h]; exact rreserved_16 w
    · rw [bytes_of_list h]; exact rreserved_17 w
    · rw [bytes_of_list h]; exact rreserved_18 w
    · rw [bytes_of_list h]; exact rreserved_19 w
    · rw [bytes_of_list h]; exact rreserved_20 w
    · rw [bytes_of_list h]; exact rreserved_21 w
    · rw [bytes_of_list h]; exact rreserved_22 w
    · rw [bytes_of_list h]; exact rreserved_23 w
    · rw [bytes_of_list h]; exact rreserved_24 w
    · rw [bytes_of_list h]; exact rreserved_25 w
    · rw [bytes_of_list h]; exact rreserved_26 w
    · rw [bytes_of_list h]; exact rreserved_27 w
    · rw [bytes_of_list h]; exact rreserved_28 w
theorem rsmall_calls (c : UInt8) (t : Bool) (w : World) (h : smallB c = t) :
    Calls Tryz.prog 217 #[.int .u8 (c.toNat : Int)] w fun e w' => e = .returned (.bool t) ∧ w' = w := by
  have HS := Lib.hid h; clear h
  by_cases h1 : 97 ≤ c.toNat
  · by_cases h2 : c.toNat ≤ 122
    · have e : t = true := by rw [← HS.out]; simp [smallB, h1, h2]
      subst e
      go_enter Tryz.func217, Tryz.ntmps217
      go_wp2
      go_ret
      exact ⟨by simp; omega, rfl⟩
    · have e : t = false := by rw [← HS.out]; simp [smallB, h1, h2]
      subst e
      go_enter Tryz.func217, Tryz.ntmps217
      go_wp2
      go_ret
      exact ⟨by simp; omega, rfl⟩
  · have e : t = false := by rw [← HS.out]; simp [smallB, h1]
    subst e
    go_enter Tryz.func217, Tryz.ntmps217
    go_wp2
    go_ret
    exact ⟨by simp, rfl⟩
theorem rinside_small (c : UInt8) (w : World) (h : smallB c = true) :
    Calls Tryz.prog 218 #[.int .u8 (c.toNat : Int)] w fun e w' => e = .returned (.bool true) ∧ w' = w := by
  have HS := Lib.hid h; clear h
  go_enter Tryz.func218, Tryz.ntmps218
  go_wp2_with fail
  refine (rsmall_calls c true w HS.out).mono ?_
  rintro e w' ⟨rfl, rfl⟩
  go_wp2
  go_ret
  exact ⟨rfl, rfl⟩
theorem rinside_a (c : UInt8) (w : World) (hs : smallB c = false) (h : c.toNat < 48) :
    Calls Tryz.prog 218 #[.int .u8 (c.toNat : Int)] w fun e w' => e = .returned (.bool false) ∧ w' = w := by
  have HS := Lib.hid hs; clear hs
  have e95 : ((c.toNat : Int) == 95) = false := by rw [beq_eq_false_iff_ne]; omega
  have e64 : ((c.toNat : Int) == 64) = false := by rw [beq_eq_false_iff_ne]; omega
  go_enter Tryz.func218, Tryz.ntmps218
  go_wp2_with fail
  refine (rsmall_calls c false w HS.out).mono ?_
  rintro e w' ⟨rfl, rfl⟩
  go_wp2
  all_goals
    go_ret
    exact ⟨by first | rfl | (simp; done) | (simp; omega), rfl⟩
theorem rinside_b (c : UInt8) (w : World) (hs : smallB c = false) (h : 48 ≤ c.toNat ∧ c.toNat ≤ 57) :
    Calls Tryz.prog 218 #[.int .u8 (c.toNat : Int)] w fun e w' => e = .returned (.bool true) ∧ w' = w := by
  have HS := Lib.hid hs; clear hs
  have e95 : ((c.toNat : Int) == 95) = false := by rw [beq_eq_false_iff_ne]; omega
  have e64 : ((c.toNat : Int) == 64) = false := by rw [beq_eq_false_iff_ne]; omega
  obtain ⟨h1, h2⟩ := h
  go_enter Tryz.func218, Tryz.ntmps218
  go_wp2_with fail
  refine (rsmall_calls c false w HS.out).mono ?_
  rintro e w' ⟨rfl, rfl⟩
  go_wp2
  all_goals
    go_ret
    exact ⟨by first | rfl | (simp; done) | (simp; omega), rfl⟩
theorem rinside_c (c : UInt8) (w : World) (hs : smallB c = false) (h : 58 ≤ c.toNat ∧ c.toNat ≤ 63) :
    Calls Tryz.prog 218 #[.int .u8 (c.toNat : Int)] w fun e w' => e = .returned (.bool false) ∧ w' = w := by
  have HS := Lib.hid hs; clear hs
  have e95 : ((c.toNat : Int) == 95) = false := by rw [beq_eq_false_iff_ne]; omega
  have e64 : ((c.toNat : Int) == 64) = false := by rw [beq_eq_false_iff_ne]; omega
  obtain ⟨h1, h2⟩ := h
  go_enter Tryz.func218, Tryz.ntmps218
  go_wp2_with fail
  refine (rsmall_calls c false w HS.out).mono ?_
  rintro e w' ⟨rfl, rfl⟩
  go_wp2
  all_goals
    go_ret
    exact ⟨by first | rfl | (simp; done) | (simp; omega), rfl⟩
theorem rinside_d (c : UInt8) (w : World) (hs : smallB c = false) (h : c.toNat = 64) :
    Calls Tryz.prog 218 #[.int .u8 (c.toNat : Int)] w fun e w' => e = .returned (.bool true) ∧ w' = w := by
  have HS := Lib.hid hs; clear hs
  have e95 : ((c.toNat : Int) == 95) = false := by rw [beq_eq_false_iff_ne]; omega
  have e64 : ((c.toNat : Int) == 64) = true := by rw [beq_iff_eq]; omega
  have h1 : 64 ≤ c.toNat := by omega
  have h2 : c.toNat ≤ 95 := by omega
  have h3 : c.toNat < 65 := by omega
  clear h
  go_enter Tryz.func218, Tryz.ntmps218
  go_wp2_with fail
  refine (rsmall_calls c false w HS.out).mono ?_
  rintro e w' ⟨rfl, rfl⟩
  go_wp2
  all_goals
    go_ret
    exact ⟨by first | rfl | (simp; done) | (simp; omega), rfl⟩
theorem rinside_e (c : UInt8) (w : World) (hs : smallB c = false) (h : 65 ≤ c.toNat ∧ c.toNat ≤ 90) :
    Calls Tryz.prog 218 #[.int .u8 (c.toNat : Int)] w fun e w' => e = .returned (.bool true) ∧ w' = w := by
  have HS := Lib.hid hs; clear hs
  have e95 : ((c.toNat : Int) == 95) = false := by rw [beq_eq_false_iff_ne]; omega
  have e64 : ((c.toNat : Int) == 64) = false := by rw [beq_eq_false_iff_ne]; omega
  obtain ⟨h1, h2⟩ := h
  go_enter Tryz.func218, Tryz.ntmps218
  go_wp2_with fail
  refine (rsmall_calls c false w HS.out).mono ?_
  rintro e w' ⟨rfl, rfl⟩
  go_wp2
  all_goals
    go_ret
    exact ⟨by first | rfl | (simp; done) | (simp; omega), rfl⟩
theorem rinside_f (c : UInt8) (w : World) (hs : smallB c = false) (h : 91 ≤ c.toNat ∧ c.toNat ≤ 94) :
    Calls Tryz.prog 218 #[.int .u8 (c.toNat : Int)] w fun e w' => e = .returned (.bool false) ∧ w' = w := by
  have HS := Lib.hid hs; clear hs
  have e95 : ((c.toNat : Int) == 95) = false := by rw [beq_eq_false_iff_ne]; omega
  have e64 : ((c.toNat : Int) == 64) = false := by rw [beq_eq_false_iff_ne]; omega
  obtain ⟨h1, h2⟩ := h
  go_enter Tryz.func218, Tryz.ntmps218
  go_wp2_with fail
  refine (rsmall_calls c false w HS.out).mono ?_
  rintro e w' ⟨rfl, rfl⟩
  go_wp2
  all_goals
    go_ret
    exact ⟨by first | rfl | (simp; done) | (simp; omega), rfl⟩
theorem rinside_g (c : UInt8) (w : World) (hs : smallB c = false) (h : c.toNat = 95) :
    Calls Tryz.prog 218 #[.int .u8 (c.toNat : Int)] w fun e w' => e = .returned (.bool true) ∧ w' = w := by
  have HS := Lib.hid hs; clear hs
  have e95 : ((c.toNat : Int) == 95) = true := by rw [beq_iff_eq]; omega
  have e64 : ((c.toNat : Int) == 64) = false := by rw [beq_eq_false_iff_ne]; omega
  have h1 : 64 ≤ c.toNat := by omega
  have h2 : c.toNat ≤ 95 := by omega
  have h3 : 90 < c.toNat := by omega
  clear h
  go_enter Tryz.func218, Tryz.ntmps218
  go_wp2_with fail
  refine (rsmall_calls c false w HS.out).mono ?_
  rintro e w' ⟨rfl, rfl⟩
  go_wp2
  all_goals
    go_ret
    exact ⟨by first | rfl | (simp; done) | (simp; omega), rfl⟩
theorem rinside_h (c : UInt8) (w : World) (hs : smallB c = false) (h : 96 ≤ c.toNat) :
    Calls Tryz.prog 218 #[.int .u8 (c.toNat : Int)] w fun e w' => e = .returned (.bool false) ∧ w' = w := by
  have HS := Lib.hid hs; clear hs
  have e95 : ((c.toNat : Int) == 95) = false := by rw [beq_eq_false_iff_ne]; omega
  have e64 : ((c.toNat : Int) == 64) = false := by rw [beq_eq_false_iff_ne]; omega
  go_enter Tryz.func218, Tryz.ntmps218
  go_wp2_with fail
  refine (rsmall_calls c false w HS.out).mono ?_
  rintro e w' ⟨rfl, rfl⟩
  go_wp2
  all_goals
    go_ret
    exact ⟨by first | rfl | (simp; done) | (simp; omega), rfl⟩
theorem rinside_calls (c : UInt8) (t : Bool) (w : World) (h : insideB c = t) :
    Calls Tryz.prog 218 #[.int .u8 (c.toNat : Int)] w fun e w' => e = .returned (.bool t) ∧ w' = w := by
  cases hs : smallB c with
  | true =>
    have : t = true := by rw [← h]; simp [insideB, hs]
    subst this; exact rinside_small c w hs
  | false =>
    rw [insideB_iff c hs] at h
    have hr : c.toNat < 48 ∨ (48 ≤ c.toNat ∧ c.toNat ≤ 57) ∨ (58 ≤ c.toNat ∧ c.toNat ≤ 63) ∨ c.toNat = 64 ∨ (65 ≤ c.toNat ∧ c.toNat ≤ 90) ∨ (91 ≤ c.toNat ∧ c.toNat ≤ 94) ∨ c.toNat = 95 ∨ 96 ≤ c.toNat := by omega
    generalize hn : c.toNat = n at *
    rcases hr with h1 | h1 | h1 | h1 | h1 | h1 | h1 | h1
    · have : t = false := by rw [← h]; simp; omega
      subst this; exact hn ▸ rinside_a c w hs (by rw [hn]; exact h1)
    · have : t = true := by rw [← h]; simp; omega
      subst this; exact hn ▸ rinside_b c w hs (by rw [hn]; exact h1)
    · have : t = false := by rw [← h]; simp; omega
      subst this; exact hn ▸ rinside_c c w hs (by rw [hn]; exact h1)
    · have : t = true := by rw [← h]; simp; omega
      subst this; exact hn ▸ rinside_d c w hs (by rw [hn]; exact h1)
    · have : t = true := by rw [← h]; simp; omega
      subst this; exact hn ▸ rinside_e c w hs (by rw [hn]; exact h1)
    · have : t = false := by rw [← h]; simp; omega
      subst this; exact hn ▸ rinside_f c w hs (by rw [hn]; exact h1)
    · have : t = true := by rw [← h]; simp; omega
      subst this; exact hn ▸ rinside_g c w hs (by rw [hn]; exact h1)
    · have : t = false := by rw [← h]; simp; omega
      subst this; exact hn ▸ rinside_h c w hs (by rw [hn]; exact h1)

theorem run_small {s : ByteArray} {q : Nat} (hq : q < s.size) (hs : smallB s[q] = true) (h : q = 0 ∨ (0 < q ∧ span insideB s q = runEnd s 0)) : span insideB s (q + 1) = runEnd s 0 := by
  have hi : insideB s[q] = true := by unfold insideB; rw [hs]; rfl
  rcases h with rfl | ⟨-, h⟩
  · unfold runEnd; rw [dif_pos hq, hs, if_pos rfl]; exact (span_yes hq hi).symm
  · exact (span_yes hq hi).symm.trans h
/-- parleyref02.Run, from 0 on -/
theorem rrun_calls (s : ByteArray) (w : World) (hs : s.size ≤ 140737488355328) :
    Calls Tryz.prog 198 #[.string s, .int .i64 0] w fun e w' => e = .returned (.int .i64 (runEnd s 0 : Int)) ∧ ∃ n, w' = w.drewN n := by
  go_enter Tryz.func198, Tryz.ntmps198
  go_wp2
  go_loop [5] (fun i => ∃ q : Nat, q ≤ s.size ∧ i = .int .i64 q ∧ (q = 0 ∨ (0 < q ∧ span insideB s q = runEnd s 0))) (fun i => s.size - (intOf i).toNat)
  case atStart => exact ⟨0, Nat.zero_le _, rfl, .inl rfl⟩
  case round =>
    obtain ⟨q, hq, rfl, he⟩ := hrel
    have HE := Lib.hid he; clear he
    by_cases hlq : q < s.size
    · cases hsm : smallB s[q] with
      | true =>
        have HS := Lib.hid hsm; clear hsm
        go_wp2_with (first | (go_at_call 217; refine (rsmall_calls _ _ _ HS.out).mono ?_; rintro e w' ⟨rfl, rfl⟩))
        go_round
        case rel => exact ⟨q + 1, by omega, by go_num, .inr ⟨by omega, run_small hlq HS.out HE.out⟩⟩
        case measure => simp [intOf]; omega
      | false =>
        have HS := Lib.hid hsm; clear hsm
        by_cases hq0 : 0 < q
        · cases hin : insideB s[q] with
          | true =>
            have HI := Lib.hid hin; clear hin
            go_wp2_with (first | (go_at_call 217; refine (rsmall_calls _ _ _ HS.out).mono ?_; rintro e w' ⟨rfl, rfl⟩) | (go_at_call 218; refine (rinside_calls _ _ _ HI.out).mono ?_; rintro e w' ⟨rfl, rfl⟩))
            go_round
            case rel => exact ⟨q + 1, by omega, by go_num, .inr ⟨by omega, by
              rcases HE.out with h | ⟨-, h⟩
              · omega
              · exact (span_yes hlq HI.out).symm.trans h⟩⟩
            case measure => simp [intOf]; omega
          | false =>
            have HI := Lib.hid hin; clear hin
            have e : q = runEnd s 0 := by
              rcases HE.out with h | ⟨-, h⟩
              · omega
              · exact (span_no hlq HI.out).symm.trans h
            have EE := Lib.hid e; clear e
            go_wp2_with (first | (go_at_call 217; refine (rsmall_calls _ _ _ HS.out).mono ?_; rintro e w' ⟨rfl, rfl⟩) | (go_at_call 218; refine (rinside_calls _ _ _ HI.out).mono ?_; rintro e w' ⟨rfl, rfl⟩))
            go_ret
            exact ⟨by rw [← EE.out]; rfl, 0, rfl⟩
        · obtain rfl : q = 0 := by omega
          have e : 0 = runEnd s 0 := by unfold runEnd; rw [dif_pos hlq, HS.out]; rfl
          have EE := Lib.hid e; clear e
          go_wp2_with (first | (go_at_call 217; refine (rsmall_calls _ _ _ HS.out).mono ?_; rintro e w' ⟨rfl, rfl⟩))
          go_ret
          exact ⟨by rw [← EE.out]; rfl, 0, rfl⟩
    · have e : q = runEnd s 0 := by
        rcases HE.out with h | ⟨-, h⟩
        · subst h; unfold runEnd; rw [dif_neg hlq]
        · exact (span_end (by omega)).symm.trans h
      have EE := Lib.hid e; clear e
      go_wp2_with fail
      go_ret
      exact ⟨by rw [← EE.out]; rfl, 0, rfl⟩
end Go.Proofs.YtejpdfenejbjdaaGreatDoor

namespace Go.Proofs.YtejpdfenejbjdaaGreatDoor
open Go.RowKit Txt
set_option linter.unusedVariables false
set_option linter.unusedSimpArgs false

/-- A rune of a text: where, how long, which, is it bad. -/
structure Rn where
  at_ : Nat
  len : Nat
  r : Nat
  bad : Bool
def rv (x : Rn) : List Value := [.int .i64 (x.at_ : Int), .int .i64 (x.len : Int), .int .i32 (x.r : Int), .bool x.bad]
def rvs (l : List Rn) : List Value := l.flatMap rv
theorem rvs_append (t u : List Rn) : rvs (t ++ u) = rvs t ++ rvs u := by simp [rvs]
theorem rvs_one (o : Rn) : rvs [o] = rv o := by simp [rvs]
theorem rvs_length (t : List Rn) : (rvs t).length = t.length * 4 := by
  induction t with
  | nil => rfl
  | cons c t ih =>
    have : rvs (c :: t) = rv c ++ rvs t := rfl
    rw [this, List.length_append, ih]; simp [rv]; omega
theorem rv_oneCell (o : Rn) : ∀ u ∈ rv o, u.oneCell' = true := by
  intro u hu
  simp only [rv, List.mem_cons, List.not_mem_nil, or_false] at hu
  rcases hu with rfl | rfl | rfl | rfl <;> rfl
theorem info_rune : (Tryz.prog.info? 186).map (fun i => (i.zero, i.size, i.bytes)) = some (some (.agg #[.int .i64 0, .int .i64 0, .int .i32 0, .bool false]), 4, 24) := by kernel_rfl
def OwnR (base : Nat) (w : World) (x : Value) (l : List Rn) : Prop := w.ownsRow base 186 4 x l.length (rvs l)
def runesF (s : ByteArray) : Nat → Nat → List Rn
  | 0, _ => []
  | k + 1, p => if p < s.size then ⟨p, (Utf8.decode s p).2, (Utf8.decode s p).1, false⟩ :: runesF s k (p + (Utf8.decode s p).2) else []
/-- What has come up to a place: all but the last are whole, the last one reaches to the end. -/
structure RR (it : Nat) (w : World) (s : ByteArray) (R : List Rn) (pos : Nat) (x : Value) (L : List Rn) (wr : World) : Prop where
  it : wr.heap[it]? = some (.stringIter s pos)
  own : OwnR w.heap.size wr x L
  be : Below w.heap.size w wr
  ple : pos ≤ s.size
  lle : L.length ≤ pos
  eq : (x = .slice none 0 0 ∧ L = [] ∧ pos = 0 ∧ R = runesF s s.size 0) ∨ ∃ acc a r fuel, L = acc ++ [⟨a, s.size - a, r, false⟩] ∧ a < pos ∧ acc ++ ⟨a, pos - a, r, false⟩ :: runesF s fuel pos = R ∧ s.size ≤ pos + fuel
def RRstep (s : ByteArray) (R : List Rn) (pos : Nat) (acc : List Rn) : Prop := ∃ fuel, acc ++ runesF s fuel pos = R ∧ s.size ≤ pos + fuel
theorem ownR_iter {base : Nat} {w : World} {x : Value} {L : List Rn} {it : Nat} {s : ByteArray} {p : Nat} (h : OwnR base w x L) (hit : w.heap[it]? = some (.stringIter s p)) (s' : ByteArray) (q : Nat) : OwnR base (w.iterAt it s' q) x L := by
  obtain ⟨h1, h2⟩ := h
  refine ⟨h1, ?_⟩
  rcases h2 with h2 | ⟨g, cap, cur, rfl, hb, hg, hrest⟩
  · exact .inl h2
  · refine .inr ⟨g, cap, cur, rfl, hb, ?_, hrest⟩
    rw [Lib.iterAt_other]
    · exact hg
    · rintro rfl; rw [hit] at hg; cases hg
theorem own_ne {base : Nat} {w : World} {g n c : Nat} {L : List Rn} {s : ByteArray} {p : Nat} (h : OwnR base w (.slice (some ⟨g, 0, none⟩) n c) L) (hit : w.heap[base]? = some (.stringIter s p)) (hg : base ≤ g) : base < g := by
  rcases Nat.lt_or_ge base g with h' | h'
  · exact h'
  · obtain rfl : g = base := by omega
    rcases h.2 with ⟨h2, -⟩ | ⟨g', cap, cur, h2, hb, hg', -⟩
    · cases h2
    · cases h2
      rw [hit] at hg'; cases hg'
theorem runesF_len (s : ByteArray) : ∀ (k p : Nat), (runesF s k p).length ≤ s.size - p := by
  intro k
  induction k with
  | zero => intro p; simp [runesF]
  | succ k ih =>
    intro p
    rw [runesF]
    split
    · rename_i h
      have := ih (p + (Utf8.decode s p).2)
      have hw := width_pos s p h
      rw [List.length_cons]; omega
    · simp
theorem RR.fin {it : Nat} {w : World} {s : ByteArray} {R : List Rn} {pos : Nat} {x : Value} {L : List Rn} {wr : World} (h : RR it w s R pos x L wr) (hp : ¬ pos < s.size) : L = R := by
  have hple := h.ple
  obtain rfl : pos = s.size := by omega
  rcases h.eq with ⟨-, rfl, h0, h1⟩ | ⟨acc, a, r, fuel, rfl, -, h1, -⟩
  · rw [h1, h0]; rfl
  · rw [← h1]
    cases fuel with
    | zero => rfl
    | succ f => rw [runesF, if_neg hp]
/-- An element of the row, and its last field written. -/
theorem own_at {base : Nat} {w : World} {A B : List Rn} {o : Rn} {a : Option Addr} {n cap : Nat} (h : OwnR base w (.slice a n cap) (A ++ o :: B)) :
    ∃ g, a = some ⟨g, 0, none⟩ ∧ base ≤ g ∧ g < w.heap.size ∧ w.cell? ⟨g, A.length * 4 + 1, none⟩ = some (.int .i64 (o.len : Int)) ∧ w.cell? ⟨g, A.length * 4 + 2, none⟩ = some (.int .i32 (o.r : Int)) ∧ w.cell? ⟨g, A.length * 4 + 3, none⟩ = some (.bool o.bad) ∧ w.cell? ⟨g, A.length * 4, none⟩ = some (.int .i64 (o.at_ : Int)) ∧
      (∀ j, w.frozen? ⟨g, j, none⟩ = false) ∧ (∀ b : Bool, OwnR base (w.setCell ⟨g, A.length * 4 + 3, none⟩ (.bool b)) (.slice a n cap) (A ++ { o with bad := b } :: B) ∧ w.grownBy (w.setCell ⟨g, A.length * 4 + 3, none⟩ (.bool b)) (some g)) := by
  have hs : w.ownsRow base 186 4 (.slice a n cap) (A.length + B.length + 1) (rvs A ++ (rv o ++ rvs B)) := by
    have := h
    unfold OwnR at this
    rw [show A ++ o :: B = A ++ ([o] ++ B) from rfl, rvs_append, rvs_append, rvs_one] at this
    simpa [Nat.add_assoc] using this
  have hl := rvs_length A
  obtain ⟨hlen, ⟨-, h0⟩ | ⟨g, cap', cur, he, hg, hh, hn, hm, hsz, ht⟩⟩ := id hs
  · omega
  cases he
  have hcl := fun j (hj : j < 4) => World.ownsRow.cellAt hs (A.length * 4 + j) (by omega)
  have hat : ∀ j, j < 4 → (rvs A ++ (rv o ++ rvs B))[A.length * 4 + j]? = (rv o)[j]? := by
    intro j hj
    rw [List.getElem?_append_right (by omega), hl, show A.length * 4 + j - A.length * 4 = j by omega, List.getElem?_append_left (by simp [rv]; omega)]
  have hlt : g < w.heap.size := by
    rcases Nat.lt_or_ge g w.heap.size with h' | h'
    · exact h'
    · rw [Array.getElem?_eq_none h'] at hh; cases hh
  refine ⟨g, rfl, hg, hlt, ?_, ?_, ?_, ?_, World.ownsRow.frozenAt hs, fun b => ?_⟩
  · rw [hcl 1 (by omega), hat 1 (by omega)]; rfl
  · rw [hcl 2 (by omega), hat 2 (by omega)]; rfl
  · rw [hcl 3 (by omega), hat 3 (by omega)]; rfl
  · have := hcl 0 (by omega); rw [hat 0 (by omega)] at this; exact this
  · obtain ⟨h1, h2⟩ := World.ownsRow.stored hs (A.length * 4 + 3) (.bool b)
    refine ⟨?_, h2⟩
    unfold OwnR
    rw [show A ++ { o with bad := b } :: B = A ++ ([{ o with bad := b }] ++ B) from rfl, rvs_append, rvs_append, rvs_one]
    rw [List.set_append_right _ _ (by omega), hl, show A.length * 4 + 3 - A.length * 4 = 3 by omega, List.set_append_left _ _ (by simp [rv])] at h1
    rw [show (rv o).set 3 (.bool b) = rv { o with bad := b } from rfl] at h1
    simpa [Nat.add_assoc] using h1
def wb (x : Rn) : Rn := { x with bad := decide (x.r = 65533) && decide (x.len = 1) }
theorem own_last {base : Nat} {w : World} {x : Value} {acc : List Rn} {o : Rn} (h : OwnR base w x (acc ++ [o])) :
    ∃ g cap, x = .slice (some ⟨g, 0, none⟩) (acc.length + 1) cap ∧ base ≤ g ∧ g < w.heap.size ∧ w.cell? ⟨g, acc.length * 4, none⟩ = some (.int .i64 (o.at_ : Int)) ∧ w.cell? ⟨g, acc.length * 4 + 1, none⟩ = some (.int .i64 (o.len : Int)) ∧
      (∀ j, w.frozen? ⟨g, j, none⟩ = false) ∧ (∀ n : Nat, OwnR base (w.setCell ⟨g, acc.length * 4 + 1, none⟩ (.int .i64 (n : Int))) x (acc ++ [{ o with len := n }]) ∧ w.grownBy (w.setCell ⟨g, acc.length * 4 + 1, none⟩ (.int .i64 (n : Int))) (some g)) := by
  have hs : w.ownsRow base 186 4 x (acc.length + 1) (rvs acc ++ rv o) := by
    have := h
    unfold OwnR at this
    rw [rvs_append, rvs_one, List.length_append, List.length_singleton] at this
    exact this
  have hl := rvs_length acc
  obtain ⟨hlen, ⟨-, h0⟩ | ⟨g, cap, cur, rfl, hg, hh, hn, hm, hsz, ht⟩⟩ := id hs
  · omega
  have hcl := fun j (hj : j < 4) => World.ownsRow.cellAt hs (acc.length * 4 + j) (by omega)
  have hat : ∀ j, j < 4 → (rvs acc ++ rv o)[acc.length * 4 + j]? = (rv o)[j]? := by
    intro j hj
    rw [List.getElem?_append_right (by omega), hl]
    congr 1; omega
  have hlt : g < w.heap.size := by
    rcases Nat.lt_or_ge g w.heap.size with h' | h'
    · exact h'
    · rw [Array.getElem?_eq_none h'] at hh; cases hh
  refine ⟨g, cap, rfl, hg, hlt, ?_, ?_, World.ownsRow.frozenAt hs, fun n => ?_⟩
  · have := hcl 0 (by omega); rw [hat 0 (by omega)] at this; exact this
  · rw [hcl 1 (by omega), hat 1 (by omega)]; rfl
  · obtain ⟨h1, h2⟩ := World.ownsRow.stored hs (acc.length * 4 + 1) (.int .i64 (n : Int))
    refine ⟨?_, h2⟩
    unfold OwnR
    rw [rvs_append, rvs_one, List.length_append, List.length_singleton]
    rw [List.set_append_right _ _ (by omega), hl, show acc.length * 4 + 1 - acc.length * 4 = 1 by omega] at h1
    exact h1
theorem grown_two {u v x : World} {row : Option Nat} (h : u.grownBy v row) (k : v.grownBy x row) : u.grownBy x row :=
  ⟨k.os.trans h.os, k.tape.trans h.tape, k.output.trans h.output, Nat.le_trans h.size k.size, fun i hi hr => (k.block i (Nat.lt_of_lt_of_le hi h.size) hr).trans (h.block i hi hr)⟩
theorem grown_alloc (u : World) (o : Obj) (row : Option Nat) : u.grownBy (u.alloc o) row := World.grownBy_alloc u o row
theorem rr_next {s : ByteArray} {w v1 x' : World} {R L1 : List Rn} {pos n r : Nat} {v' : Value} {row : Option Nat} (hit : v1.heap[w.heap.size]? = some (.stringIter s (pos + n))) (hb : Below w.heap.size w v1) (hgr : v1.grownBy x' row) (hrow : ∀ g, row = some g → w.heap.size < g)
    (hown : x'.ownsRow w.heap.size 186 4 v' (L1.length + 1) (rvs L1 ++ [.int .i64 (pos : Int), .int .i64 ((s.size : Int) - (pos : Int)), .int .i32 (r : Int), .bool false])) (hp : pos < s.size) (hpn : pos + n ≤ s.size) (hn : 1 ≤ n) (hl : L1.length ≤ pos)
    (heq : ∃ fuel, L1 ++ ⟨pos, pos + n - pos, r, false⟩ :: runesF s fuel (pos + n) = R ∧ s.size ≤ pos + n + fuel) : RR w.heap.size w s R (pos + n) v' (L1 ++ [⟨pos, s.size - pos, r, false⟩]) x' := by
  have hlt : w.heap.size < v1.heap.size := (Array.getElem?_eq_some_iff.1 hit).1
  refine ⟨(hgr.block _ hlt (fun e => by have := hrow _ e.symm; omega)).trans hit, ?_, ?_, hpn, by simp; omega, ?_⟩
  · unfold OwnR
    rw [rvs_append, rvs_one, List.length_append, List.length_singleton]
    unfold rv
    rw [Int.ofNat_sub (by omega)]
    exact hown
  · refine ⟨hgr.os.trans hb.os, hgr.tape.trans hb.tape, hgr.output.trans hb.output, Nat.le_trans hb.size hgr.size, fun i hi => (hgr.block i (by omega) (fun e => by have := hrow _ e.symm; omega)).trans (hb.block i hi)⟩
  · obtain ⟨fuel, he, hf⟩ := heq
    exact .inr ⟨L1, pos, r, fuel, rfl, by omega, he, hf⟩
/-- What comes of Runes. -/
def RunesOut (w : World) (L : List Rn) (e : Ending) (w' : World) : Prop := ∃ A cap, e = .returned (.slice A L.length cap) ∧ OwnR w.heap.size w' (.slice A L.length cap) L ∧ Below w.heap.size w w'
set_option maxHeartbeats 4000000 in
set_option maxRecDepth 100000 in
theorem runes_calls (s : ByteArray) (w : World) (hs : s.size ≤ 255) :
    Calls Tryz.prog 167 #[.string s] w (RunesOut w ((runesF s s.size 0).map wb)) := by
  obtain ⟨FLw, hFLw⟩ : ∃ F, (runesF s s.size 0).map wb = F := ⟨_, rfl⟩
  rw [hFLw]
  have HFL := Lib.hid hFLw; clear hFLw
  go_enter Tryz.func167, Tryz.ntmps167
  go_wp2_with fail
  go_loopw [3] (fun x wr => ∃ pos L, RR w.heap.size w s (runesF s s.size 0) pos x L wr) (fun _ wr => s.size - wr.iterPos w.heap.size)
  case atStart => exact ⟨0, [], World.iter_heap _ _ _, World.ownsRow_nil _ _ _ 4, (Below.refl _ _).alloc (Nat.le_refl _) _, Nat.zero_le _, Nat.le_refl _, .inl ⟨rfl, rfl, rfl, rfl⟩⟩
  case round =>
    obtain ⟨pos, L, hqr⟩ := hrel
    have HR := Lib.hid hqr; clear hqr
    have hit := HR.out.it
    have hlast : (wr.iterPos w.heap.size) = pos := by simp [World.iterPos, hit]
    have HL := Lib.hid hlast; clear hlast
    by_cases hp : pos < s.size
    · have hwd := width_pos s pos hp
      have hdin := decode_in s pos hp
      have hrl := Lib.rune_le s pos
      have hnx := fun ty => Lib.run_next_any_at (P := Tryz.prog) wr w.heap.size s pos ty hit hp
      have hob := HR.out.own
      have hoi : OwnR w.heap.size (wr.iterAt w.heap.size s (pos + (Utf8.decode s pos).2)) u3 L := ownR_iter hob hit _ _
      have hbi := Lib.below_iterAt HR.out.be (Nat.le_refl w.heap.size) s (pos + (Utf8.decode s pos).2)
      have hiti := Lib.iterAt_heap wr w.heap.size s pos (pos + (Utf8.decode s pos).2) hit
      have heq := HR.out.eq
      have hll := HR.out.lle
      have HOI := Lib.hid hoi; clear hoi hob
      have HBI := Lib.hid hbi; clear hbi
      have HIT := Lib.hid hiti; clear hiti hit
      obtain ⟨i0, hi, hz0, hz1, hz2⟩ := info_parts info_rune
      have hend : ∀ (acc : List Rn) (a r : Nat), RRstep s (runesF s s.size 0) pos acc → True := fun _ _ _ _ => trivial
      clear hend
      generalize hw1e : wr.iterAt w.heap.size s (pos + (Utf8.decode s pos).2) = v1 at *
      clear hw1e
      have hnext : ∀ acc : List Rn, (∃ fuel, acc ++ runesF s fuel pos = runesF s s.size 0 ∧ s.size ≤ pos + fuel) → ∃ fuel, acc ++ ⟨pos, pos + (Utf8.decode s pos).2 - pos, (Utf8.decode s pos).1, false⟩ :: runesF s fuel (pos + (Utf8.decode s pos).2) = runesF s s.size 0 ∧ s.size ≤ pos + (Utf8.decode s pos).2 + fuel := by
        rintro acc ⟨fuel, he, hf⟩
        obtain ⟨fuel, rfl⟩ : ∃ f, fuel = f + 1 := ⟨fuel - 1, by omega⟩
        rw [runesF, if_pos hp] at he
        exact ⟨fuel, by rw [← he, Nat.add_sub_cancel_left], by omega⟩
      have HN := Lib.hid hnext; clear hnext
      generalize hdc : Utf8.decode s pos = dc at *
      clear hdc
      obtain ⟨r, n⟩ := dc
      simp only at *
      rcases heq with ⟨rfl, rfl, rfl, hR⟩ | ⟨acc, a, r0, fuel, rfl, hap, hR, hfu⟩
      · have HR0 := Lib.hid hR; clear hR
        go_wp2_with (at_builtin; refine wpList_append_own_at _ rfl _ _ 183 rfl w.heap.size 186 i0 (.agg #[.int .i64 0, .int .i64 0, .int .i32 0, .bool false]) 4 24 Tryz.underlying183 hi hz0 hz1 hz2 rfl (by decide) _ _ _ rfl (World.ownsRow.alloc HOI.out _) ⟨_, 0, none⟩ 1 1 (rv ⟨0, s.size, r, false⟩) rfl rfl ?a1 (rv_oneCell _) ?b1 ?c1 ?d1 ?_)
        case a1 => exact new_list _ (rv ⟨0, s.size, r, false⟩) _ _ rfl
        case b1 => simp [maxLen]
        case c1 => simp
        case d1 => have := HBI.out.size; simp; omega
        intro v' x' hown hgrow _ hloc
        have hrr := rr_next (L1 := []) (n := n) (r := r) (row := none) HIT.out HBI.out (grown_two (grown_alloc v1 _ none) hgrow) (fun g e => by cases e) hown hp hdin hwd (Nat.le_refl _) (HN.out [] ⟨s.size, rfl, by omega⟩)
        have HRR := Lib.hid hrr; clear hrr hown hgrow hloc
        have hms : s.size - x'.iterPos w.heap.size < s.size - wr.iterPos w.heap.size := by
          have := HRR.out.it
          rw [HL.out]
          simp only [World.iterPos, this]; omega
        have HMS := Lib.hid hms; clear hms
        go_wp2
        go_roundw
        case rel => exact ⟨_, _, HRR.out⟩
        case measure => exact HMS.out
      · have HR0 := Lib.hid hR; clear hR
        obtain ⟨g, cap, rfl, hg1, hg2, hc0, hc1, hfz, hst⟩ := own_last HOI.out
        have HST := Lib.hid hst; clear hst
        have hal0 : acc.length + 1 ≤ pos := by simpa using hll
        have hal : acc.length + 1 ≤ 255 := by omega
        have hgw : w.heap.size < g := own_ne HOI.out HIT.out hg1
        have f1 := hfz (acc.length * 4 + 1)
        clear hll hfz
        dsimp only at hc0 hc1
        have hs1 : OwnR w.heap.size (v1.setCell ⟨g, acc.length * 4 + 1, none⟩ (.int .i64 ((pos : Int) - (a : Int)))) (.slice (some ⟨g, 0, none⟩) (acc.length + 1) cap) (acc ++ [⟨a, pos - a, r0, false⟩]) := by
          have := (HST.out (pos - a)).1
          rw [Int.ofNat_sub (by omega)] at this
          exact this
        have hg1' : v1.grownBy (v1.setCell ⟨g, acc.length * 4 + 1, none⟩ (.int .i64 ((pos : Int) - (a : Int)))) (some g) := by
          have := (HST.out (pos - a)).2
          rw [Int.ofNat_sub (by omega)] at this
          exact this
        have HS1 := Lib.hid hs1; clear hs1 HST
        have HG1 := Lib.hid hg1'; clear hg1'
        go_wp2_with (at_builtin; refine wpList_append_own_at _ rfl _ _ 183 rfl w.heap.size 186 i0 (.agg #[.int .i64 0, .int .i64 0, .int .i32 0, .bool false]) 4 24 Tryz.underlying183 hi hz0 hz1 hz2 rfl (by decide) _ _ _ rfl (World.ownsRow.alloc HS1.out _) ⟨_, 0, none⟩ 1 1 [.int .i64 (pos : Int), .int .i64 ((s.size : Int) - (pos : Int)), .int .i32 (r : Int), .bool false] rfl rfl ?a2 ?e2 ?b2 ?c2 ?d2 ?_)
        case a2 => exact new_list _ [.int .i64 (pos : Int), .int .i64 ((s.size : Int) - (pos : Int)), .int .i32 (r : Int), .bool false] _ _ (by simp [World.setCell])
        case e2 => intro u hu; simp only [List.mem_cons, List.not_mem_nil, or_false] at hu; rcases hu with rfl | rfl | rfl | rfl <;> rfl
        case b2 => simp [maxLen]; omega
        case c2 => simp; omega
        case d2 => have := HBI.out.size; simp [World.setCell]; omega
        intro v' x' hown hgrow _ hloc
        have hrr := rr_next (L1 := acc ++ [⟨a, pos - a, r0, false⟩]) (n := n) (r := r) (row := some g) HIT.out HBI.out (grown_two (grown_two HG1.out (grown_alloc _ _ _)) hgrow) (fun g' e => by cases e; exact hgw) (by rw [List.length_append, List.length_singleton]; exact hown) hp hdin hwd (by simp; omega) (HN.out _ ⟨fuel, by rw [← HR0.out]; simp, hfu⟩)
        have HRR := Lib.hid hrr; clear hrr hown hgrow hloc
        have hms : s.size - x'.iterPos w.heap.size < s.size - wr.iterPos w.heap.size := by
          have := HRR.out.it
          rw [HL.out]
          simp only [World.iterPos, this]; omega
        have HMS := Lib.hid hms; clear hms
        go_wp2
        go_roundw
        case rel => exact ⟨_, _, HRR.out⟩
        case measure => exact HMS.out
    · have hfin := HR.out.fin hp
      have hend := fun ty => Lib.run_next_end_at (P := Tryz.prog) wr w.heap.size s pos ty hit hp
      have hbe := HR.out.be
      have hown := HR.out.own
      rw [hfin] at hown
      clear hfin HR HL hit
      have HBE := Lib.hid hbe; clear hbe
      have hll : (runesF s s.size 0).length ≤ s.size := by
        have := runesF_len s s.size 0; omega
      have hfl := HFL.out
      clear HFL
      generalize runesF s s.size 0 = FL at *
      subst hfl
      have hform : ∃ A cap, u3 = .slice A FL.length cap := by
        obtain ⟨-, ⟨rfl, h0⟩ | ⟨g, cap, cur, rfl, -⟩⟩ := hown
        · exact ⟨none, 0, by rw [h0]⟩
        · exact ⟨_, cap, rfl⟩
      obtain ⟨A, cap, rfl⟩ := hform
      have HO := Lib.hid hown; clear hown
      go_wp2_with fail
      go_loopw [43] (fun i wr2 => ∃ k : Nat, k ≤ FL.length ∧ i = .int .i64 k ∧ OwnR w.heap.size wr2 (.slice A FL.length cap) ((FL.take k).map wb ++ FL.drop k) ∧ Below w.heap.size w wr2) (fun i _ => FL.length - (intOf i).toNat)
      case atStart => exact ⟨0, Nat.zero_le _, rfl, by simpa using HO.out, HBE.out⟩
      case round =>
        obtain ⟨k, hk, rfl, hown, hbe⟩ := hrel
        by_cases hlt : k < FL.length
        · have hdr : FL.drop k = FL[k] :: FL.drop (k + 1) := List.drop_eq_getElem_cons hlt
          rw [hdr] at hown
          have htl : ((FL.take k).map wb).length = k := by simp; omega
          obtain ⟨g, rfl, hg1, hg2, c1, c2, c3, c0, hfz, hst⟩ := own_at hown
          rw [htl] at c1 c2 c3 c0 hst
          have f3 := hfz (k * 4 + 3)
          have hbad : wb FL[k] = { FL[k] with bad := decide (FL[k].r = 65533) && decide (FL[k].len = 1) } := rfl
          have HST := Lib.hid (hst (decide (FL[k].r = 65533) && decide (FL[k].len = 1))); clear hst hfz hown
          have HB := Lib.hid hbe; clear hbe
          have htk : (FL.take (k + 1)).map wb = (FL.take k).map wb ++ [wb FL[k]] := by
            rw [List.take_succ_eq_append_getElem hlt, List.map_append]; rfl
          have HTK := Lib.hid htk; clear htk hdr htl
          rw [hbad] at HTK
          clear hbad
          generalize FL[k] = o at *
          have e1 : ((o.r : Int) == 65533) = decide (o.r = 65533) := by rw [Bool.eq_iff_iff, beq_iff_eq, decide_eq_true_eq]; omega
          have e2 : ((o.len : Int) == 1) = decide (o.len = 1) := by rw [Bool.eq_iff_iff, beq_iff_eq, decide_eq_true_eq]; omega
          have hkl : (k : Int) < (FL.length : Int) := by omega
          generalize decide (o.r = 65533) = b1 at *
          generalize decide (o.len = 1) = b2 at *
          cases b1
          all_goals
            go_wp2
            go_roundw
            case rel => exact ⟨k + 1, by omega, by go_num, by rw [HTK.out, List.append_assoc]; exact HST.out.1, HB.out.setCell (p := ⟨g, k * 4 + 3, none⟩) hg1 _⟩
            case measure => simp [intOf]; omega
        · obtain rfl : k = FL.length := by omega
          rw [List.take_of_length_le (Nat.le_refl _), List.drop_of_length_le (Nat.le_refl _), List.append_nil] at hown
          have HOW := Lib.hid hown; clear hown
          have HB := Lib.hid hbe; clear hbe
          go_wp2
          go_ret
          have hlen : (FL.map wb).length = FL.length := by simp
          exact ⟨A, cap, by rw [hlen]; rfl, by rw [hlen]; exact HOW.out, HB.out⟩
end Go.Proofs.YtejpdfenejbjdaaGreatDoor

namespace Go.Proofs.YtejpdfenejbjdaaGreatDoor
open Go.RowKit Txt
set_option linter.unusedVariables false
set_option linter.unusedSimpArgs false

theorem spelled_runes (s : ByteArray) : ∀ (k p : Nat), spelledF s k p = ((runesF s k p).map wb).all fun x => !x.bad := by
  intro k
  induction k with
  | zero => intro p; rfl
  | succ k ih =>
    intro p
    rw [spelledF, runesF]
    by_cases hp : p < s.size
    · rw [if_pos hp, if_pos hp, List.map_cons, List.all_cons, ← ih]
      by_cases hd : (Utf8.decode s p).1 = 65533 ∧ (Utf8.decode s p).2 = 1
      · rw [if_pos hd]; simp [wb, hd.1, hd.2]
      · rw [if_neg hd]
        have : (!(wb ⟨p, (Utf8.decode s p).2, (Utf8.decode s p).1, false⟩).bad) = true := by
          simp only [wb, Bool.not_eq_true', Bool.and_eq_false_iff, decide_eq_false_iff_not]
          by_cases h1 : (Utf8.decode s p).1 = 65533
          · exact .inr fun h2 => hd ⟨h1, h2⟩
          · exact .inl h1
        rw [this, Bool.true_and]
    · rw [if_neg hp, if_neg hp]; rfl
theorem own_get {base : Nat} {w : World} {L : List Rn} {a : Option Addr} {n cap : Nat} (h : OwnR base w (.slice a n cap) L) (k : Nat) (hk : k < L.length) :
    ∃ g, a = some ⟨g, 0, none⟩ ∧ g < w.heap.size ∧ w.cell? ⟨g, k * 4, none⟩ = some (.int .i64 (L[k].at_ : Int)) ∧ w.cell? ⟨g, k * 4 + 1, none⟩ = some (.int .i64 (L[k].len : Int)) ∧ w.cell? ⟨g, k * 4 + 2, none⟩ = some (.int .i32 (L[k].r : Int)) ∧ w.cell? ⟨g, k * 4 + 3, none⟩ = some (.bool L[k].bad) := by
  have hsp : L.take k ++ L[k] :: L.drop (k + 1) = L := by rw [← List.drop_eq_getElem_cons hk, List.take_append_drop]
  have h' : OwnR base w (.slice a n cap) (L.take k ++ L[k] :: L.drop (k + 1)) := by rw [hsp]; exact h
  have htl : (L.take k).length = k := by simp; omega
  obtain ⟨g, hA, hg1, hg2, c1, c2, c3, c0, -, -⟩ := own_at h'
  rw [htl] at c0 c1 c2 c3
  exact ⟨g, hA, hg2, c0, c1, c2, c3⟩
theorem OwnR.below {base : Nat} {w w' : World} {x : Value} {L : List Rn} (h : OwnR base w x L) (hb : Below w.heap.size w w') : OwnR base w' x L := by
  refine World.ownsRow.kept h (row := none) ⟨hb.os, hb.tape, hb.output, hb.size, fun k hk _ => hb.block k hk⟩ ?_
  cases x.ownBlock with
  | none => exact .inl rfl
  | some g => exact .inr (by simp)
set_option maxHeartbeats 2000000 in
set_option maxRecDepth 100000 in
theorem r2right_calls (s : ByteArray) (w : World) (hs : s.size ≤ 140737488355328) :
    Calls Tryz.prog 165 #[.string s] w fun e w' => e = .returned (.int .i64 (if atomOk s then 0 else 20)) ∧ Below w.heap.size w w' := by
  by_cases hbig : 255 < s.size
  · have e : atomOk s = false := by unfold atomOk; rw [decide_eq_false (by omega)]; rfl
    rw [e]
    have hd : decide ((255 : Int) < (s.size : Int)) = true := by simp; omega
    go_enter Tryz.func165, Tryz.ntmps165
    go_wp2
    go_ret
    exact ⟨rfl, Below.refl _ _⟩
  · have e : atomOk s = ((runesF s s.size 0).map wb).all fun x => !x.bad := by unfold atomOk; rw [decide_eq_true (by omega)]; exact spelled_runes s _ _
    rw [e]
    have hd : decide ((255 : Int) < (s.size : Int)) = false := by simp; omega
    have hc := runes_calls s w (by omega)
    have hll : ((runesF s s.size 0).map wb).length ≤ 255 := by
      have := runesF_len s s.size 0; simp; omega
    generalize (runesF s s.size 0).map wb = L at *
    have HC := Lib.hid hc; clear hc e
    obtain ⟨v, hv⟩ : ∃ v : Int, (if (L.all fun x => !x.bad) = true then (0 : Int) else 20) = v := ⟨_, rfl⟩
    rw [hv]
    have HV := Lib.hid hv; clear hv
    go_enter Tryz.func165, Tryz.ntmps165
    go_wp2_with fail
    refine (HC.out).mono ?_
    rintro e w1 ⟨A, cap, rfl, hown, hb⟩
    have HO := Lib.hid hown; clear hown
    have HB := Lib.hid hb; clear hb
    go_wp2_with fail
    go_loopw [11] (fun i wr => ∃ k : Nat, k ≤ L.length ∧ i = .int .i64 k ∧ (∀ x ∈ L.take k, x.bad = false) ∧ OwnR w.heap.size wr (.slice A L.length cap) L ∧ Below w.heap.size w wr) (fun i _ => L.length - (intOf i).toNat)
    case atStart => exact ⟨0, Nat.zero_le _, rfl, by simp, HO.out, HB.out⟩
    case round =>
      obtain ⟨k, hk, rfl, hno, hown, hbe⟩ := hrel
      have HOW := Lib.hid hown
      have HBE := Lib.hid hbe; clear hbe
      have HNO := Lib.hid hno; clear hno
      by_cases hlt : k < L.length
      · obtain ⟨g, rfl, hg2, c0, c1, c2, c3⟩ := own_get hown k hlt
        have htk : L.take (k + 1) = L.take k ++ [L[k]] := List.take_succ_eq_append_getElem hlt
        have hmem : L[k] ∈ L := List.getElem_mem hlt
        have HTK := Lib.hid htk; clear htk
        have HM := Lib.hid hmem; clear hmem hown
        have hkl : (k : Int) < (L.length : Int) := by omega
        generalize L[k] = o at *
        obtain ⟨oa, ol, orr, ob⟩ := o
        dsimp only at c0 c1 c2 c3
        have HBX := Lib.hid (HBE.out.alloc HBE.out.size (.cells #[.int .i64 (oa : Int), .int .i64 (ol : Int), .int .i32 (orr : Int), .bool ob] 186))
        have HOX := Lib.hid (HOW.out.below ((Below.refl _ _).alloc (Nat.le_refl _) (.cells #[.int .i64 (oa : Int), .int .i64 (ol : Int), .int .i32 (orr : Int), .bool ob] 186)))
        cases ob with
        | true =>
          obtain rfl : v = 20 := by
            rw [← HV.out, if_neg]
            intro h
            have := List.all_eq_true.1 h _ HM.out
            cases this
          go_wp2
          go_ret
          exact ⟨rfl, HBX.out⟩
        | false =>
          go_wp2
          go_roundw
          case rel => exact ⟨k + 1, by omega, by go_num, by
            rw [HTK.out]
            intro x hx
            rw [List.mem_append, List.mem_singleton] at hx
            rcases hx with hx | rfl
            · exact HNO.out x hx
            · rfl, HOX.out, HBX.out⟩
          case measure => simp [intOf]; omega
      · obtain rfl : k = L.length := by omega
        obtain rfl : v = 0 := by
          rw [← HV.out, if_pos]
          rw [List.all_eq_true]
          intro x hx
          have := HNO.out x (by rw [List.take_of_length_le (Nat.le_refl _)]; exact hx)
          simp [this]
        clear hown
        go_wp2
        go_ret
        exact ⟨rfl, HBE.out⟩
set_option maxHeartbeats 1000000 in
theorem r2bare_calls (s : ByteArray) (t : Bool) (w : World) (hs : s.size ≤ 255) (h : bare s = t) : Calls Tryz.prog 166 #[.string s] w fun e w' => e = .returned (.bool t) ∧ ∃ n, w' = w.drewN n := by
  unfold bare at h
  have hlt : decide (s.size ≤ 255) = true := by simpa using hs
  rw [hlt, Bool.and_true] at h
  have h255 : decide ((s.size : Int) ≤ 255) = true := by simp; omega
  by_cases h0 : s.size = 0
  · have ht : t = false := by rw [← h]; simp [h0]
    subst ht
    have hz : decide (0 < s.size) = false := by rw [h0]; rfl
    clear h hlt h0
    go_enter Tryz.func166, Tryz.ntmps166
    go_wp2
    go_ret
    exact ⟨rfl, 0, rfl⟩
  · have hd : decide (s.size ≠ 0) = true := by simpa using h0
    rw [hd, Bool.true_and] at h
    clear hd
    have hz : decide (0 < s.size) = true := decide_eq_true (by omega)
    by_cases hr : runEnd s 0 = s.size
    · have hre : ((runEnd s 0 : Int) == (s.size : Int)) = true := by rw [hr]; simp
      rw [decide_eq_true hr, Bool.true_and] at h
      cases hres : reserved s.data.toList with
      | true =>
        have ht : t = false := by rw [← h, hres]; rfl
        subst ht
        have HR := Lib.hid hres
        clear h hres hr h0 hlt
        go_enter Tryz.func166, Tryz.ntmps166
        go_wp2_with (first | (go_at_call 198; refine (rrun_calls s _ (by omega)).mono ?_; rintro e w' ⟨rfl, n, rfl⟩) | (go_at_call 199; refine (rreserved_calls s true _ HR.out).mono ?_; rintro e w' ⟨rfl, rfl⟩))
        go_ret
        exact ⟨rfl, _, rfl⟩
      | false =>
        have ht : t = true := by rw [← h, hres]; rfl
        subst ht
        have HR := Lib.hid hres
        clear h hres hr h0 hlt
        go_enter Tryz.func166, Tryz.ntmps166
        go_wp2_with (first | (go_at_call 198; refine (rrun_calls s _ (by omega)).mono ?_; rintro e w' ⟨rfl, n, rfl⟩) | (go_at_call 199; refine (rreserved_calls s false _ HR.out).mono ?_; rintro e w' ⟨rfl, rfl⟩))
        go_ret
        exact ⟨rfl, _, rfl⟩
    · have hre : ((runEnd s 0 : Int) == (s.size : Int)) = false := by rw [beq_eq_false_iff_ne]; omega
      have ht : t = false := by rw [← h, decide_eq_false hr]; rfl
      subst ht
      clear h hr h0 hlt
      go_enter Tryz.func166, Tryz.ntmps166
      go_wp2_with (go_at_call 198; refine (rrun_calls s _ (by omega)).mono ?_; rintro e w' ⟨rfl, n, rfl⟩)
      go_ret
      exact ⟨rfl, _, rfl⟩
end Go.Proofs.YtejpdfenejbjdaaGreatDoor
