/- Walks: the small functions of package atom. -/
import Derived.Test.YtejpdfenejbjdaaGreatDoorBuild
import Derived.Test.YtejpdfenejbjdaaGreatDoorRd0
namespace Go.Proofs.YtejpdfenejbjdaaGreatDoor
open Go.RowKit Txt
set_option linter.unusedVariables false
set_option linter.unusedSimpArgs false

theorem reserved_0 (w : World) : Calls Tryz.prog 193 #[.string ⟨#[97, 102, 116, 101, 114]⟩] w fun e w' => e = .returned (.bool true) ∧ w' = w := by
  go_enter Tryz.func193, Tryz.ntmps193
  go_wp2
  go_ret
  exact ⟨rfl, rfl⟩
theorem reserved_1 (w : World) : Calls Tryz.prog 193 #[.string ⟨#[97, 110, 100]⟩] w fun e w' => e = .returned (.bool true) ∧ w' = w := by
  go_enter Tryz.func193, Tryz.ntmps193
  go_wp2
  go_ret
  exact ⟨rfl, rfl⟩
theorem reserved_2 (w : World) : Calls Tryz.prog 193 #[.string ⟨#[97, 110, 100, 97, 108, 115, 111]⟩] w fun e w' => e = .returned (.bool true) ∧ w' = w := by
  go_enter Tryz.func193, Tryz.ntmps193
  go_wp2
  go_ret
  exact ⟨rfl, rfl⟩
theorem reserved_3 (w : World) : Calls Tryz.prog 193 #[.string ⟨#[98, 97, 110, 100]⟩] w fun e w' => e = .returned (.bool true) ∧ w' = w := by
  go_enter Tryz.func193, Tryz.ntmps193
  go_wp2
  go_ret
  exact ⟨rfl, rfl⟩
theorem reserved_4 (w : World) : Calls Tryz.prog 193 #[.string ⟨#[98, 101, 103, 105, 110]⟩] w fun e w' => e = .returned (.bool true) ∧ w' = w := by
  go_enter Tryz.func193, Tryz.ntmps193
  go_wp2
  go_ret
  exact ⟨rfl, rfl⟩
theorem reserved_5 (w : World) : Calls Tryz.prog 193 #[.string ⟨#[98, 110, 111, 116]⟩] w fun e w' => e = .returned (.bool true) ∧ w' = w := by
  go_enter Tryz.func193, Tryz.ntmps193
  go_wp2
  go_ret
  exact ⟨rfl, rfl⟩
theorem reserved_6 (w : World) : Calls Tryz.prog 193 #[.string ⟨#[98, 111, 114]⟩] w fun e w' => e = .returned (.bool true) ∧ w' = w := by
  go_enter Tryz.func193, Tryz.ntmps193
  go_wp2
  go_ret
  exact ⟨rfl, rfl⟩
theorem reserved_7 (w : World) : Calls Tryz.prog 193 #[.string ⟨#[98, 115, 108]⟩] w fun e w' => e = .returned (.bool true) ∧ w' = w := by
  go_enter Tryz.func193, Tryz.ntmps193
  go_wp2
  go_ret
  exact ⟨rfl, rfl⟩
theorem reserved_8 (w : World) : Calls Tryz.prog 193 #[.string ⟨#[98, 115, 114]⟩] w fun e w' => e = .returned (.bool true) ∧ w' = w := by
  go_enter Tryz.func193, Tryz.ntmps193
  go_wp2
  go_ret
  exact ⟨rfl, rfl⟩
theorem reserved_9 (w : World) : Calls Tryz.prog 193 #[.string ⟨#[98, 120, 111, 114]⟩] w fun e w' => e = .returned (.bool true) ∧ w' = w := by
  go_enter Tryz.func193, Tryz.ntmps193
  go_wp2
  go_ret
  exact ⟨rfl, rfl⟩
theorem reserved_10 (w : World) : Calls Tryz.prog 193 #[.string ⟨#[99, 97, 115, 101]⟩] w fun e w' => e = .returned (.bool true) ∧ w' = w := by
  go_enter Tryz.func193, Tryz.ntmps193
  go_wp2
  go_ret
  exact ⟨rfl, rfl⟩
theorem reserved_11 (w : World) : Calls Tryz.prog 193 #[.string ⟨#[99, 97, 116, 99, 104]⟩] w fun e w' => e = .returned (.bool true) ∧ w' = w := by
  go_enter Tryz.func193, Tryz.ntmps193
  go_wp2
  go_ret
  exact ⟨rfl, rfl⟩
theorem reserved_12 (w : World) : Calls Tryz.prog 193 #[.string ⟨#[99, 111, 110, 100]⟩] w fun e w' => e = .returned (.bool true) ∧ w' = w := by
  go_enter Tryz.func193, Tryz.ntmps193
  go_wp2
  go_ret
  exact ⟨rfl, rfl⟩
theorem reserved_13 (w : World) : Calls Tryz.prog 193 #[.string ⟨#[100, 105, 118]⟩] w fun e w' => e = .returned (.bool true) ∧ w' = w := by
  go_enter Tryz.func193, Tryz.ntmps193
  go_wp2
  go_ret
  exact ⟨rfl, rfl⟩
theorem reserved_14 (w : World) : Calls Tryz.prog 193 #[.string ⟨#[101, 108, 115, 101]⟩] w fun e w' => e = .returned (.bool true) ∧ w' = w := by
  go_enter Tryz.func193, Tryz.ntmps193
  go_wp2
  go_ret
  exact ⟨rfl, rfl⟩
theorem reserved_15 (w : World) : Calls Tryz.prog 193 #[.string ⟨#[101, 110, 100]⟩] w fun e w' => e = .returned (.bool true) ∧ w' = w := by
  go_enter Tryz.func193, Tryz.ntmps193
  go_wp2
  go_ret
  exact ⟨rfl, rfl⟩
theorem reserved_16 (w : World) : Calls Tryz.prog 193 #[.string ⟨#[102, 117, 110]⟩] w fun e w' => e = .returned (.bool true) ∧ w' = w := by
  go_enter Tryz.func193, Tryz.ntmps193
  go_wp2
  go_ret
  exact ⟨rfl, rfl⟩
theorem reserved_17 (w : World) : Calls Tryz.prog 193 #[.string ⟨#[105, 102]⟩] w fun e w' => e = .returned (.bool true) ∧ w' = w := by
  go_enter Tryz.func193, Tryz.ntmps193
  go_wp2
  go_ret
  exact ⟨rfl, rfl⟩
theorem reserved_18 (w : World) : Calls Tryz.prog 193 #[.string ⟨#[108, 101, 116]⟩] w fun e w' => e = .returned (.bool true) ∧ w' = w := by
  go_enter Tryz.func193, Tryz.ntmps193
  go_wp2
  go_ret
  exact ⟨rfl, rfl⟩
theorem reserved_19 (w : World) : Calls Tryz.prog 193 #[.string ⟨#[109, 97, 121, 98, 101]⟩] w fun e w' => e = .returned (.bool true) ∧ w' = w := by
  go_enter Tryz.func193, Tryz.ntmps193
  go_wp2
  go_ret
  exact ⟨rfl, rfl⟩
theorem reserved_20 (w : World) : Calls Tryz.prog 193 #[.string ⟨#[110, 111, 116]⟩] w fun e w' => e = .returned (.bool true) ∧ w' = w := by
  go_enter Tryz.func193, Tryz.ntmps193
  go_wp2
  go_ret
  exact ⟨rfl, rfl⟩
theorem reserved_21 (w : World) : Calls Tryz.prog 193 #[.string ⟨#[111, 102]⟩] w fun e w' => e = .returned (.bool true) ∧ w' = w := by
  go_enter Tryz.func193, Tryz.ntmps193
  go_wp2
  go_ret
  exact ⟨rfl, rfl⟩
theorem reserved_22 (w : World) : Calls Tryz.prog 193 #[.string ⟨#[111, 114]⟩] w fun e w' => e = .returned (.bool true) ∧ w' = w := by
  go_enter Tryz.func193, Tryz.ntmps193
  go_wp2
  go_ret
  exact ⟨rfl, rfl⟩
theorem reserved_23 (w : World) : Calls Tryz.prog 193 #[.string ⟨#[111, 114, 101, 108, 115, 101]⟩] w fun e w' => e = .returned (.bool true) ∧ w' = w := by
  go_enter Tryz.func193, Tryz.ntmps193
  go_wp2
  go_ret
  exact ⟨rfl, rfl⟩
theorem reserved_24 (w : World) : Calls Tryz.prog 193 #[.string ⟨#[114, 101, 99, 101, 105, 118, 101]⟩] w fun e w' => e = .returned (.bool true) ∧ w' = w := by
  go_enter Tryz.func193, Tryz.ntmps193
  go_wp2
  go_ret
  exact ⟨rfl, rfl⟩
theorem reserved_25 (w : World) : Calls Tryz.prog 193 #[.string ⟨#[114, 101, 109]⟩] w fun e w' => e = .returned (.bool true) ∧ w' = w := by
  go_enter Tryz.func193, Tryz.ntmps193
  go_wp2
  go_ret
  exact ⟨rfl, rfl⟩
theorem reserved_26 (w : World) : Calls Tryz.prog 193 #[.string ⟨#[116, 114, 121]⟩] w fun e w' => e = .returned (.bool true) ∧ w' = w := by
  go_enter Tryz.func193, Tryz.ntmps193
  go_wp2
  go_ret
  exact ⟨rfl, rfl⟩
theorem reserved_27 (w : World) : Calls Tryz.prog 193 #[.string ⟨#[119, 104, 101, 110]⟩] w fun e w' => e = .returned (.bool true) ∧ w' = w := by
  go_enter Tryz.func193, Tryz.ntmps193
  go_wp2
  go_ret
  exact ⟨rfl, rfl⟩
theorem reserved_28 (w : World) : Calls Tryz.prog 193 #[.string ⟨#[120, 111, 114]⟩] w fun e w' => e = .returned (.bool true) ∧ w' = w := by
  go_enter Tryz.func193, Tryz.ntmps193
  go_wp2
  go_ret
  exact ⟨rfl, rfl⟩
set_option maxHeartbeats 1000000 in
theorem reserved_no (x : ByteArray) (w : World) (h : reserved x.data.toList = false) : Calls Tryz.prog 193 #[.string x] w fun e w' => e = .returned (.bool false) ∧ w' = w := by
  rw [← ByteArray.toList_eq] at h
  simp only [reserved, Txt.words, List.contains_cons, List.contains_nil, Bool.or_eq_false_iff] at h
  obtain ⟨h0, h1, h2, h3, h4, h5, h6, h7, h8, h9, h10, h11, h12, h13, h14, h15, h16, h17, h18, h19, h20, h21, h22, h23, h24, h25, h26, h27, h28, -⟩ := h
  go_enter Tryz.func193, Tryz.ntmps193
  go_wp2
  go_ret
  exact ⟨rfl, rfl⟩
theorem bytes_of_list {x : ByteArray} {l : List UInt8} (h : x.data.toList = l) : x = ⟨l.toArray⟩ := by
  subst h; simp
/-- atom.reserved -/
theorem reserved_calls (x : ByteArray) (t : Bool) (w : World) (h : reserved x.data.toList = t) : Calls Tryz.prog 193 #[.string x] w fun e w' => e = .returned (.bool t) ∧ w' = w := by
  cases t with
  | false => exact reserved_no x w h
  | true =>
    simp only [reserved, Txt.words, List.contains_cons, List.contains_nil, Bool.or_eq_true, beq_iff_eq, Bool.false_eq_true, or_false] at h
    rcases h with h | h | h | h | h | h | h | h | h | h | h | h | h | h | h | h | h | h | h | h | h | h | h | h | h | h | h | h | h
    · rw [bytes_of_list h]; exact reserved_0 w
    · rw [bytes_of_list h]; exact reserved_1 w
    · rw [bytes_of_list h]; exact reserved_2 w
    · rw [bytes_of_list h]; exact reserved_3 w
    · rw [bytes_of_list h]; exact reserved_4 w
    · rw [bytes_of_list h]; exact reserved_5 w
    · rw [bytes_of_list h]; exact reserved_6 w
    · rw [bytes_of_list h]; exact reserved_7 w
    · rw [bytes_of_list h]; exact reserved_8 w
    · rw [bytes_of_list h]; exact reserved_9 w
    · rw [bytes_of_list h]; exact reserved_10 w
    · rw [bytes_of_list h]; exact reserved_11 w
    · rw [bytes_of_list h]; exact reserved_12 w
    · rw [bytes_of_list h]; exact reserved_13 w
    · rw [bytes_of_list h]; exact reserved_14 w
    · rw [bytes_of_list h]; exact reserved_15 w
    · rw [bytes_of_list h]; exact reserved_16 w
    · rw [bytes_of_list h]; exact reserved_17 w
    · rw [bytes_of_list h]; exact reserved_18 w
    · rw [bytes_of_list h]; exact reserved_19 w
    · rw [bytes_of_list h]; exact reserved_20 w
    · rw [bytes_of_list h]; exact reserved_21 w
    · rw [bytes_of_list h]; exact reserved_22 w
    · rw [bytes_of_list h]; exact reserved_23 w
    · rw [bytes_of_list h]; exact reserved_24 w
    · rw [bytes_of_list h]; exact reserved_25 w
    · rw [bytes_of_list h]; exact reserved_26 w
    · rw [bytes_of_list h]; exact reserved_27 w
    · rw [bytes_of_list h]; exact reserved_28 w

theorem small_calls (c : UInt8) (t : Bool) (w : World) (h : smallB c = t) :
    Calls Tryz.prog 214 #[.int .u8 (c.toNat : Int)] w fun e w' => e = .returned (.bool t) ∧ w' = w := by
  have HS := Lib.hid h; clear h
  by_cases h1 : 97 ≤ c.toNat
  · by_cases h2 : c.toNat ≤ 122
    · have e : t = true := by rw [← HS.out]; simp [smallB, h1, h2]
      subst e
      go_enter Tryz.func214, Tryz.ntmps214
      go_wp2
      go_ret
      exact ⟨by simp; omega, rfl⟩
    · have e : t = false := by rw [← HS.out]; simp [smallB, h1, h2]
      subst e
      go_enter Tryz.func214, Tryz.ntmps214
      go_wp2
      go_ret
      exact ⟨by simp; omega, rfl⟩
  · have e : t = false := by rw [← HS.out]; simp [smallB, h1]
    subst e
    go_enter Tryz.func214, Tryz.ntmps214
    go_wp2
    go_ret
    exact ⟨by simp, rfl⟩

theorem lower_calls (c : UInt8) (w : World) :
    Calls Tryz.prog 229 #[.int .u8 (c.toNat : Int)] w fun e w' => e = .returned (.int .u8 ((lowerC c).toNat : Int)) ∧ w' = w := by
  by_cases h1 : 65 ≤ c.toNat
  · by_cases h2 : c.toNat ≤ 90
    · have e : ((lowerC c).toNat : Int) = (c.toNat : Int) + 32 := by
        rw [lowerC, if_pos ⟨h1, h2⟩, UInt8.toNat_add]; simp; omega
      have E := Lib.hid e; clear e
      go_enter Tryz.func229, Tryz.ntmps229
      go_wp2
      go_ret
      exact ⟨by rw [E.out]; rfl, rfl⟩
    · have e : lowerC c = c := by rw [lowerC, if_neg (by omega)]
      have E := Lib.hid e; clear e
      go_enter Tryz.func229, Tryz.ntmps229
      go_wp2
      go_ret
      exact ⟨by rw [E.out]; rfl, rfl⟩
  · have e : lowerC c = c := by rw [lowerC, if_neg (by omega)]
    have E := Lib.hid e; clear e
    go_enter Tryz.func229, Tryz.ntmps229
    go_wp2
    go_ret
    exact ⟨by rw [E.out]; rfl, rfl⟩
theorem escape_8 (w : World) : Calls Tryz.prog 160 #[.int .i32 8] w fun e w' => e = .returned (.int .u8 98) ∧ w' = w := by
  go_enter Tryz.func160, Tryz.ntmps160
  go_wp2
  go_ret
  exact ⟨rfl, rfl⟩
theorem escape_9 (w : World) : Calls Tryz.prog 160 #[.int .i32 9] w fun e w' => e = .returned (.int .u8 116) ∧ w' = w := by
  go_enter Tryz.func160, Tryz.ntmps160
  go_wp2
  go_ret
  exact ⟨rfl, rfl⟩
theorem escape_10 (w : World) : Calls Tryz.prog 160 #[.int .i32 10] w fun e w' => e = .returned (.int .u8 110) ∧ w' = w := by
  go_enter Tryz.func160, Tryz.ntmps160
  go_wp2
  go_ret
  exact ⟨rfl, rfl⟩
theorem escape_11 (w : World) : Calls Tryz.prog 160 #[.int .i32 11] w fun e w' => e = .returned (.int .u8 118) ∧ w' = w := by
  go_enter Tryz.func160, Tryz.ntmps160
  go_wp2
  go_ret
  exact ⟨rfl, rfl⟩
theorem escape_12 (w : World) : Calls Tryz.prog 160 #[.int .i32 12] w fun e w' => e = .returned (.int .u8 102) ∧ w' = w := by
  go_enter Tryz.func160, Tryz.ntmps160
  go_wp2
  go_ret
  exact ⟨rfl, rfl⟩
theorem escape_13 (w : World) : Calls Tryz.prog 160 #[.int .i32 13] w fun e w' => e = .returned (.int .u8 114) ∧ w' = w := by
  go_enter Tryz.func160, Tryz.ntmps160
  go_wp2
  go_ret
  exact ⟨rfl, rfl⟩
theorem escape_27 (w : World) : Calls Tryz.prog 160 #[.int .i32 27] w fun e w' => e = .returned (.int .u8 101) ∧ w' = w := by
  go_enter Tryz.func160, Tryz.ntmps160
  go_wp2
  go_ret
  exact ⟨rfl, rfl⟩
theorem escape_127 (w : World) : Calls Tryz.prog 160 #[.int .i32 127] w fun e w' => e = .returned (.int .u8 100) ∧ w' = w := by
  go_enter Tryz.func160, Tryz.ntmps160
  go_wp2
  go_ret
  exact ⟨rfl, rfl⟩
/-- atom.escape -/
theorem escape_calls (r : Nat) (w : World) : Calls Tryz.prog 160 #[.int .i32 (r : Int)] w fun e w' => e = .returned (.int .u8 (escape r : Int)) ∧ w' = w := by
  by_cases h : r = 8 ∨ r = 9 ∨ r = 10 ∨ r = 11 ∨ r = 12 ∨ r = 13 ∨ r = 27 ∨ r = 127
  · rcases h with rfl | rfl | rfl | rfl | rfl | rfl | rfl | rfl
    · exact escape_8 w
    · exact escape_9 w
    · exact escape_10 w
    · exact escape_11 w
    · exact escape_12 w
    · exact escape_13 w
    · exact escape_27 w
    · exact escape_127 w
  · have hz : escape r = 0 := by simp only [not_or] at h; simp [escape, h]
    have HZ := Lib.hid hz; clear hz
    simp only [not_or] at h
    obtain ⟨h8, h9, h10, h11, h12, h13, h27, h127⟩ := h
    have e8 : ((r : Int) == 8) = false := by rw [beq_eq_false_iff_ne]; omega
    have e9 : ((r : Int) == 9) = false := by rw [beq_eq_false_iff_ne]; omega
    have e10 : ((r : Int) == 10) = false := by rw [beq_eq_false_iff_ne]; omega
    have e11 : ((r : Int) == 11) = false := by rw [beq_eq_false_iff_ne]; omega
    have e12 : ((r : Int) == 12) = false := by rw [beq_eq_false_iff_ne]; omega
    have e13 : ((r : Int) == 13) = false := by rw [beq_eq_false_iff_ne]; omega
    have e27 : ((r : Int) == 27) = false := by rw [beq_eq_false_iff_ne]; omega
    have e127 : ((r : Int) == 127) = false := by rw [beq_eq_false_iff_ne]; omega
    clear h8 h9 h10 h11 h12 h13 h27 h127
    go_enter Tryz.func160, Tryz.ntmps160
    go_wp2
    go_ret
    exact ⟨by rw [HZ.out]; rfl, rfl⟩
end Go.Proofs.YtejpdfenejbjdaaGreatDoor
