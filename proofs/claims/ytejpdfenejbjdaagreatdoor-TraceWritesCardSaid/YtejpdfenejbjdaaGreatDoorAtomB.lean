/- Walks: the bytes of a bare atom; letters behind a backslash. -/
import Derived.Test.YtejpdfenejbjdaaGreatDoorAtomA
namespace Go.Proofs.YtejpdfenejbjdaaGreatDoor
open Go.RowKit Txt
set_option linter.unusedVariables false
set_option linter.unusedSimpArgs false

theorem inside_small (c : UInt8) (w : World) (h : smallB c = true) :
    Calls Tryz.prog 215 #[.int .u8 (c.toNat : Int)] w fun e w' => e = .returned (.bool true) ∧ w' = w := by
  have HS := Lib.hid h; clear h
  go_enter Tryz.func215, Tryz.ntmps215
  go_wp2_with fail
  refine (small_calls c true w HS.out).mono ?_
  rintro e w' ⟨rfl, rfl⟩
  go_wp2
  go_ret
  exact ⟨rfl, rfl⟩
theorem inside_a (c : UInt8) (w : World) (hs : smallB c = false) (h : c.toNat < 48) :
    Calls Tryz.prog 215 #[.int .u8 (c.toNat : Int)] w fun e w' => e = .returned (.bool false) ∧ w' = w := by
  have HS := Lib.hid hs; clear hs
  have e95 : ((c.toNat : Int) == 95) = false := by rw [beq_eq_false_iff_ne]; omega
  have e64 : ((c.toNat : Int) == 64) = false := by rw [beq_eq_false_iff_ne]; omega
  go_enter Tryz.func215, Tryz.ntmps215
  go_wp2_with fail
  refine (small_calls c false w HS.out).mono ?_
  rintro e w' ⟨rfl, rfl⟩
  go_wp2
  all_goals
    go_ret
    exact ⟨by first | rfl | (simp; done) | (simp; omega), rfl⟩
theorem inside_b (c : UInt8) (w : World) (hs : smallB c = false) (h : 48 ≤ c.toNat ∧ c.toNat ≤ 57) :
    Calls Tryz.prog 215 #[.int .u8 (c.toNat : Int)] w fun e w' => e = .returned (.bool true) ∧ w' = w := by
  have HS := Lib.hid hs; clear hs
  have e95 : ((c.toNat : Int) == 95) = false := by rw [beq_eq_false_iff_ne]; omega
  have e64 : ((c.toNat : Int) == 64) = false := by rw [beq_eq_false_iff_ne]; omega
  obtain ⟨h1, h2⟩ := h
  go_enter Tryz.func215, Tryz.ntmps215
  go_wp2_with fail
  refine (small_calls c false w HS.out).mono ?_
  rintro e w' ⟨rfl, rfl⟩
  go_wp2
  all_goals
    go_ret
    exact ⟨by first | rfl | (simp; done) | (simp; omega), rfl⟩
theorem inside_c (c : UInt8) (w : World) (hs : smallB c = false) (h : 58 ≤ c.toNat ∧ c.toNat ≤ 63) :
    Calls Tryz.prog 215 #[.int .u8 (c.toNat : Int)] w fun e w' => e = .returned (.bool false) ∧ w' = w := by
  have HS := Lib.hid hs; clear hs
  have e95 : ((c.toNat : Int) == 95) = false := by rw [beq_eq_false_iff_ne]; omega
  have e64 : ((c.toNat : Int) == 64) = false := by rw [beq_eq_false_iff_ne]; omega
  obtain ⟨h1, h2⟩ := h
  go_enter Tryz.func215, Tryz.ntmps215
  go_wp2_with fail
  refine (small_calls c false w HS.out).mono ?_
  rintro e w' ⟨rfl, rfl⟩
  go_wp2
  all_goals
    go_ret
    exact ⟨by first | rfl | (simp; done) | (simp; omega), rfl⟩
theorem inside_d (c : UInt8) (w : World) (hs : smallB c = false) (h : c.toNat = 64) :
    Calls Tryz.prog 215 #[.int .u8 (c.toNat : Int)] w fun e w' => e = .returned (.bool true) ∧ w' = w := by
  have HS := Lib.hid hs; clear hs
  have e95 : ((c.toNat : Int) == 95) = false := by rw [beq_eq_false_iff_ne]; omega
  have e64 : ((c.toNat : Int) == 64) = true := by rw [beq_iff_eq]; omega
  have h1 : 64 ≤ c.toNat := by omega
  have h2 : c.toNat ≤ 95 := by omega
  have h3 : c.toNat < 65 := by omega
  clear h
  go_enter Tryz.func215, Tryz.ntmps215
  go_wp2_with fail
  refine (small_calls c false w HS.out).mono ?_
  rintro e w' ⟨rfl, rfl⟩
  go_wp2
  all_goals
    go_ret
    exact ⟨by first | rfl | (simp; done) | (simp; omega), rfl⟩
theorem inside_e (c : UInt8) (w : World) (hs : smallB c = false) (h : 65 ≤ c.toNat ∧ c.toNat ≤ 90) :
    Calls Tryz.prog 215 #[.int .u8 (c.toNat : Int)] w fun e w' => e = .returned (.bool true) ∧ w' = w := by
  have HS := Lib.hid hs; clear hs
  have e95 : ((c.toNat : Int) == 95) = false := by rw [beq_eq_false_iff_ne]; omega
  have e64 : ((c.toNat : Int) == 64) = false := by rw [beq_eq_false_iff_ne]; omega
  obtain ⟨h1, h2⟩ := h
  go_enter Tryz.func215, Tryz.ntmps215
  go_wp2_with fail
  refine (small_calls c false w HS.out).mono ?_
  rintro e w' ⟨rfl, rfl⟩
  go_wp2
  all_goals
    go_ret
    exact ⟨by first | rfl | (simp; done) | (simp; omega), rfl⟩
theorem inside_f (c : UInt8) (w : World) (hs : smallB c = false) (h : 91 ≤ c.toNat ∧ c.toNat ≤ 94) :
    Calls Tryz.prog 215 #[.int .u8 (c.toNat : Int)] w fun e w' => e = .returned (.bool false) ∧ w' = w := by
  have HS := Lib.hid hs; clear hs
  have e95 : ((c.toNat : Int) == 95) = false := by rw [beq_eq_false_iff_ne]; omega
  have e64 : ((c.toNat : Int) == 64) = false := by rw [beq_eq_false_iff_ne]; omega
  obtain ⟨h1, h2⟩ := h
  go_enter Tryz.func215, Tryz.ntmps215
  go_wp2_with fail
  refine (small_calls c false w HS.out).mono ?_
  rintro e w' ⟨rfl, rfl⟩
  go_wp2
  all_goals
    go_ret
    exact ⟨by first | rfl | (simp; done) | (simp; omega), rfl⟩
theorem inside_g (c : UInt8) (w : World) (hs : smallB c = false) (h : c.toNat = 95) :
    Calls Tryz.prog 215 #[.int .u8 (c.toNat : Int)] w fun e w' => e = .returned (.bool true) ∧ w' = w := by
  have HS := Lib.hid hs; clear hs
  have e95 : ((c.toNat : Int) == 95) = true := by rw [beq_iff_eq]; omega
  have e64 : ((c.toNat : Int) == 64) = false := by rw [beq_eq_false_iff_ne]; omega
  have h1 : 64 ≤ c.toNat := by omega
  have h2 : c.toNat ≤ 95 := by omega
  have h3 : 90 < c.toNat := by omega
  clear h
  go_enter Tryz.func215, Tryz.ntmps215
  go_wp2_with fail
  refine (small_calls c false w HS.out).mono ?_
  rintro e w' ⟨rfl, rfl⟩
  go_wp2
  all_goals
    go_ret
    exact ⟨by first | rfl | (simp; done) | (simp; omega), rfl⟩
theorem inside_h (c : UInt8) (w : World) (hs : smallB c = false) (h : 96 ≤ c.toNat) :
    Calls Tryz.prog 215 #[.int .u8 (c.toNat : Int)] w fun e w' => e = .returned (.bool false) ∧ w' = w := by
  have HS := Lib.hid hs; clear hs
  have e95 : ((c.toNat : Int) == 95) = false := by rw [beq_eq_false_iff_ne]; omega
  have e64 : ((c.toNat : Int) == 64) = false := by rw [beq_eq_false_iff_ne]; omega
  go_enter Tryz.func215, Tryz.ntmps215
  go_wp2_with fail
  refine (small_calls c false w HS.out).mono ?_
  rintro e w' ⟨rfl, rfl⟩
  go_wp2
  all_goals
    go_ret
    exact ⟨by first | rfl | (simp; done) | (simp; omega), rfl⟩
theorem insideB_iff (c : UInt8) (hs : smallB c = false) : insideB c = (decide (65 ≤ c.toNat) && decide (c.toNat ≤ 90) || (decide (48 ≤ c.toNat) && decide (c.toNat ≤ 57)) || decide (c.toNat = 95) || decide (c.toNat = 64)) := by
  unfold insideB digitB
  rw [hs]
  have h1 : (c == 95) = decide (c.toNat = 95) := by rw [Bool.eq_iff_iff, beq_iff_eq, decide_eq_true_eq, ← UInt8.toNat_inj]; rfl
  have h2 : (c == 64) = decide (c.toNat = 64) := by rw [Bool.eq_iff_iff, beq_iff_eq, decide_eq_true_eq, ← UInt8.toNat_inj]; rfl
  rw [h1, h2]; simp
theorem inside_calls (c : UInt8) (t : Bool) (w : World) (h : insideB c = t) :
    Calls Tryz.prog 215 #[.int .u8 (c.toNat : Int)] w fun e w' => e = .returned (.bool t) ∧ w' = w := by
  cases hs : smallB c with
  | true =>
    have : t = true := by rw [← h]; simp [insideB, hs]
    subst this; exact inside_small c w hs
  | false =>
    rw [insideB_iff c hs] at h
    have hr : c.toNat < 48 ∨ (48 ≤ c.toNat ∧ c.toNat ≤ 57) ∨ (58 ≤ c.toNat ∧ c.toNat ≤ 63) ∨ c.toNat = 64 ∨ (65 ≤ c.toNat ∧ c.toNat ≤ 90) ∨ (91 ≤ c.toNat ∧ c.toNat ≤ 94) ∨ c.toNat = 95 ∨ 96 ≤ c.toNat := by omega
    generalize hn : c.toNat = n at *
    rcases hr with h1 | h1 | h1 | h1 | h1 | h1 | h1 | h1
    · have : t = false := by rw [← h]; simp; omega
      subst this; exact hn ▸ inside_a c w hs (by rw [hn]; exact h1)
    · have : t = true := by rw [← h]; simp; omega
      subst this; exact hn ▸ inside_b c w hs (by rw [hn]; exact h1)
    · have : t = false := by rw [← h]; simp; omega
      subst this; exact hn ▸ inside_c c w hs (by rw [hn]; exact h1)
    · have : t = true := by rw [← h]; simp; omega
      subst this; exact hn ▸ inside_d c w hs (by rw [hn]; exact h1)
    · have : t = true := by rw [← h]; simp; omega
      subst this; exact hn ▸ inside_e c w hs (by rw [hn]; exact h1)
    · have : t = false := by rw [← h]; simp; omega
      subst this; exact hn ▸ inside_f c w hs (by rw [hn]; exact h1)
    · have : t = true := by rw [← h]; simp; omega
      subst this; exact hn ▸ inside_g c w hs (by rw [hn]; exact h1)
    · have : t = false := by rw [← h]; simp; omega
      subst this; exact hn ▸ inside_h c w hs (by rw [hn]; exact h1)

theorem runF_calls (s : ByteArray) (p : Nat) (w : World) (hp : p ≤ s.size) (hs : s.size ≤ 140737488355328) :
    Calls Tryz.prog 192 #[.string s, .int .i64 (p : Int)] w fun e w' => e = .returned (.int .i64 (runEnd s p : Int)) ∧ ∃ n, w' = w.drewN n := by
  by_cases hlt : p < s.size
  · cases hsm : smallB s[p] with
    | false =>
      have hre : runEnd s p = p := by simp [runEnd, hlt, hsm]
      rw [hre]
      have HS := Lib.hid hsm; clear hsm hre
      have hd : decide (s.size ≤ p) = false := by simp; omega
      go_enter Tryz.func192, Tryz.ntmps192
      go_wp2_with (go_at_call 214; refine (small_calls _ _ _ HS.out).mono ?_; rintro e w' ⟨rfl, rfl⟩)
      go_ret
      exact ⟨rfl, 0, rfl⟩
    | true =>
      have hre : runEnd s p = span insideB s p := by simp [runEnd, hlt, hsm]
      rw [hre]
      have HS := Lib.hid hsm; clear hsm hre
      have hd : decide (s.size ≤ p) = false := by simp; omega
      go_enter Tryz.func192, Tryz.ntmps192
      go_wp2_with (go_at_call 214; refine (small_calls _ _ _ HS.out).mono ?_; rintro e w' ⟨rfl, rfl⟩)
      go_loop [1] (fun i => ∃ q : Nat, q ≤ s.size ∧ i = .int .i64 q ∧ span insideB s q = span insideB s p) (fun i => s.size - (intOf i).toNat)
      case atStart => exact ⟨p, hp, rfl, rfl⟩
      case round =>
        obtain ⟨q, hq, rfl, he⟩ := hrel
        have HE := Lib.hid he; clear he
        by_cases hlq : q < s.size
        · cases hin : insideB s[q] with
          | true =>
            have HI := Lib.hid hin; clear hin
            go_wp2_with (go_at_call 215; refine (inside_calls _ _ _ HI.out).mono ?_; rintro e w' ⟨rfl, rfl⟩)
            go_round
            case rel => exact ⟨q + 1, by omega, by go_num, (span_yes hlq HI.out).symm.trans HE.out⟩
            case measure => simp [intOf]; omega
          | false =>
            have HI := Lib.hid hin; clear hin
            have e : q = span insideB s p := (span_no hlq HI.out).symm.trans HE.out
            have EE := Lib.hid e; clear e
            go_wp2_with (go_at_call 215; refine (inside_calls _ _ _ HI.out).mono ?_; rintro e w' ⟨rfl, rfl⟩)
            go_ret
            exact ⟨by rw [← EE.out]; rfl, 0, rfl⟩
        · have e : q = span insideB s p := (span_end (by omega)).symm.trans HE.out
          have EE := Lib.hid e; clear e
          go_wp2_with fail
          go_ret
          exact ⟨by rw [← EE.out]; rfl, 0, rfl⟩
  · have hre : runEnd s p = p := by simp [runEnd, hlt]
    rw [hre]
    clear hre
    go_enter Tryz.func192, Tryz.ntmps192
    go_wp2
    go_ret
    exact ⟨rfl, 0, rfl⟩

theorem escape_hit {k c : Nat} (hk : escape k ≠ 0) (hc : escape k = c) : unescape c = some k := by
  subst hc
  unfold escape at hk ⊢
  repeat' (split at hk)
  all_goals first | (subst_vars; rfl) | (exact absurd rfl hk)
theorem escape_115 (k : Nat) : escape k ≠ 115 := by
  unfold escape; repeat' split
  all_goals decide
theorem unescape_none {c : Nat} (hc : c ≠ 115) (h : ∀ j, j < 128 → ¬ (escape j ≠ 0 ∧ escape j = c)) : unescape c = none := by
  unfold unescape
  have h8 := h 8 (by omega); have h9 := h 9 (by omega); have h10 := h 10 (by omega); have h11 := h 11 (by omega)
  have h12 := h 12 (by omega); have h13 := h 13 (by omega); have h27 := h 27 (by omega); have h127 := h 127 (by omega)
  simp [escape] at h8 h9 h10 h11 h12 h13 h27 h127
  simp [hc, Ne.symm h8, Ne.symm h9, Ne.symm h10, Ne.symm h11, Ne.symm h12, Ne.symm h13, Ne.symm h27, Ne.symm h127]
theorem escape_le (k : Nat) : escape k ≤ 120 := by
  unfold escape; repeat' split
  all_goals decide

def unRes (c : Nat) : Value := match unescape c with
  | some u => .tuple #[.int .i32 (u : Int), .bool true]
  | none => .tuple #[.int .i32 0, .bool false]
set_option maxHeartbeats 1000000 in
set_option maxRecDepth 100000 in
theorem unescape_calls (c : Nat) (hc : c < 256) (w : World) :
    Calls Tryz.prog 224 #[.int .u8 (c : Int)] w fun e w' => e = .returned (unRes c) ∧ w' = w := by
  by_cases h115 : c = 115
  · subst h115
    go_enter Tryz.func224, Tryz.ntmps224
    go_wp2
    go_ret2
    exact ⟨rfl, rfl⟩
  · have e115 : ((c : Int) == 115) = false := by rw [beq_eq_false_iff_ne]; omega
    have HC := Lib.hid h115; clear h115
    go_enter Tryz.func224, Tryz.ntmps224
    go_wp2_with fail
    go_loop [4] (fun i => ∃ k : Nat, k ≤ 128 ∧ i = .int .i32 k ∧ ∀ j, j < k → ¬ (escape j ≠ 0 ∧ escape j = c)) (fun i => 128 - (intOf i).toNat)
    case atStart => exact ⟨0, by omega, rfl, fun j h => by omega⟩
    case round =>
      obtain ⟨k, hk, rfl, hno⟩ := hrel
      have HN := Lib.hid hno; clear hno
      by_cases hlt : k < 128
      · have hle := escape_le k
        by_cases hz : escape k = 0
        · have ez : ((escape k : Int) == 0) = true := by rw [beq_iff_eq]; omega
          have HZ := Lib.hid hz; clear hz
          go_wp2_with (go_at_call 160; refine (escape_calls k _).mono ?_; rintro e w' ⟨rfl, rfl⟩)
          go_round
          case rel => exact ⟨k + 1, by omega, by go_num, fun j hj => by
            by_cases e : j = k
            · subst e; exact fun h => h.1 HZ.out
            · exact HN.out j (by omega)⟩
          case measure => simp [intOf]; omega
        · have ez : ((escape k : Int) == 0) = false := by rw [beq_eq_false_iff_ne]; omega
          by_cases he : escape k = c
          · have ee : ((escape k : Int) == (c : Int)) = true := by rw [beq_iff_eq]; omega
            have hu := escape_hit hz he
            have HU := Lib.hid hu; clear hu he
            go_wp2_with (go_at_call 160; refine (escape_calls k _).mono ?_; rintro e w' ⟨rfl, rfl⟩)
            go_ret2
            exact ⟨by unfold unRes; rw [HU.out]; rfl, rfl⟩
          · have ee : ((escape k : Int) == (c : Int)) = false := by rw [beq_eq_false_iff_ne]; omega
            have HE := Lib.hid he; clear he
            go_wp2_with (go_at_call 160; refine (escape_calls k _).mono ?_; rintro e w' ⟨rfl, rfl⟩)
            go_round
            case rel => exact ⟨k + 1, by omega, by go_num, fun j hj => by
              by_cases e : j = k
              · subst e; exact fun h => HE.out h.2
              · exact HN.out j (by omega)⟩
            case measure => simp [intOf]; omega
      · have hn : unescape c = none := unescape_none HC.out (fun j hj => HN.out j (by omega))
        have HU := Lib.hid hn; clear hn
        go_wp2_with fail
        go_ret2
        exact ⟨by unfold unRes; rw [HU.out]; rfl, rfl⟩
end Go.Proofs.YtejpdfenejbjdaaGreatDoor
