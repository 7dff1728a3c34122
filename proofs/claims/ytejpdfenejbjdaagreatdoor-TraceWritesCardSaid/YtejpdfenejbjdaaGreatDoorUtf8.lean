/- Walks: the reference's test of UTF-8. -/
import Derived.Test.YtejpdfenejbjdaaGreatDoorAtomE
namespace Go.Proofs.YtejpdfenejbjdaaGreatDoor
open Go.RowKit Txt
set_option linter.unusedVariables false
set_option linter.unusedSimpArgs false

theorem and31 : ∀ c : Fin 256, bits BinOp.and IntKind.i64 (c.1 : Int) 31 = ((c.1 % 32 : Nat) : Int) := by decide +kernel
theorem and15 : ∀ c : Fin 256, bits BinOp.and IntKind.i64 (c.1 : Int) 15 = ((c.1 % 16 : Nat) : Int) := by decide +kernel
theorem and7 : ∀ c : Fin 256, bits BinOp.and IntKind.i64 (c.1 : Int) 7 = ((c.1 % 8 : Nat) : Int) := by decide +kernel
theorem and63 : ∀ c : Fin 256, bits BinOp.and IntKind.u8 (c.1 : Int) 63 = ((c.1 % 64 : Nat) : Int) := by decide +kernel
theorem and192 : ∀ c : Fin 256, (bits BinOp.and IntKind.u8 (c.1 : Int) 192 != 128) = !decide (c.1 / 64 = 2) := by decide +kernel
theorem spelledF_bad {s : ByteArray} {k p : Nat} (h : p < s.size) (hd : Utf8.decode s p = (65533, 1)) : spelledF s (k + 1) p = false := by
  rw [spelledF, if_pos h, hd, if_pos ⟨rfl, rfl⟩]
theorem spelledF_good {s : ByteArray} {k p r n : Nat} (h : p < s.size) (hd : Utf8.decode s p = (r, n)) (hn : n ≠ 1 ∨ r ≠ 65533) : spelledF s (k + 1) p = spelledF s k (p + n) := by
  rw [spelledF, if_pos h, hd, if_neg (by rintro ⟨a, b⟩; simp only at a b; omega)]
theorem get_nat (s : ByteArray) (i : Nat) (h : i < s.size) : (s.get! i).toNat = s[i].toNat := by
  obtain ⟨a⟩ := s
  have h' : i < a.size := h
  show (a[i]!).toNat = (a[i]).toNat
  rw [getElem!_pos a i h']
/-- The model's decoding, by the bytes that are there. -/
theorem dec_at (s : ByteArray) (p : Nat) : Utf8.decode s p = Lib.decodeN (s.size - p) (s.get! p).toNat (s.get! (p + 1)).toNat (s.get! (p + 2)).toNat (s.get! (p + 3)).toNat := Lib.decode_at s p
theorem dec_bad0 {s : ByteArray} {p : Nat} (h : p < s.size) (hc : (128 ≤ s[p].toNat ∧ s[p].toNat < 194) ∨ 245 ≤ s[p].toNat) : Utf8.decode s p = (65533, 1) := by
  rw [dec_at, get_nat s p h]
  have := s[p].toNat_lt
  unfold Lib.decodeN
  rw [if_neg (by omega)]
  by_cases h6 : s[p].toNat / 32 = 6 ∧ (1 < s.size - p ∧ (s.get! (p + 1)).toNat / 64 = 2)
  · rw [if_pos h6, if_neg (by omega)]
  · rw [if_neg h6]
    rw [if_neg (by omega)]
    by_cases h8 : s[p].toNat / 8 = 30 ∧ (1 < s.size - p ∧ (s.get! (p + 1)).toNat / 64 = 2) ∧ (2 < s.size - p ∧ (s.get! (p + 2)).toNat / 64 = 2) ∧ (3 < s.size - p ∧ (s.get! (p + 3)).toNat / 64 = 2)
    · rw [if_pos h8, if_neg (by omega)]
    · rw [if_neg h8]
/-- A byte that goes on. -/
def goesOn (s : ByteArray) (i : Nat) : Prop := ∃ h : i < s.size, s[i].toNat / 64 = 2
theorem goesOn_iff (s : ByteArray) (p k : Nat) : goesOn s (p + k) ↔ (k < s.size - p ∧ (s.get! (p + k)).toNat / 64 = 2) := by
  constructor
  · rintro ⟨h, e⟩
    exact ⟨by omega, by rw [get_nat s _ h]; exact e⟩
  · rintro ⟨h, e⟩
    have h' : p + k < s.size := by omega
    rw [get_nat s _ h'] at e
    exact ⟨h', e⟩
theorem dec2 {s : ByteArray} {p : Nat} (h : p < s.size) (hc : 194 ≤ s[p].toNat ∧ s[p].toNat < 224) : (¬ goesOn s (p + 1) → Utf8.decode s p = (65533, 1)) ∧ (∀ (h1 : p + 1 < s.size), s[p + 1].toNat / 64 = 2 → Utf8.decode s p = (s[p].toNat % 32 * 64 + s[p + 1].toNat % 64, 2)) := by
  rw [dec_at, get_nat s p h]
  unfold Lib.decodeN
  rw [if_neg (by omega)]
  refine ⟨fun hn => ?_, fun h1 h2 => ?_⟩
  · rw [goesOn_iff] at hn
    rw [if_neg (by rintro ⟨-, x⟩; exact hn x), if_neg (by omega), if_neg (by omega)]
  · rw [get_nat s _ h1, if_pos ⟨by omega, by omega, h2⟩, if_pos (by omega)]
theorem dec3 {s : ByteArray} {p : Nat} (h : p < s.size) (hc : 224 ≤ s[p].toNat ∧ s[p].toNat < 240) : (¬ (goesOn s (p + 1) ∧ goesOn s (p + 2)) → Utf8.decode s p = (65533, 1)) ∧ (∀ (h2 : p + 2 < s.size) (v : Nat), s[p + 1].toNat / 64 = 2 → s[p + 2].toNat / 64 = 2 → v = s[p].toNat % 16 * 4096 + s[p + 1].toNat % 64 * 64 + s[p + 2].toNat % 64 →
    (¬ (v < 2048 ∨ 1114111 < v ∨ (55296 ≤ v ∧ v < 57344)) → Utf8.decode s p = (v, 3)) ∧ ((v < 2048 ∨ 1114111 < v ∨ (55296 ≤ v ∧ v < 57344)) → Utf8.decode s p = (65533, 1))) := by
  rw [dec_at, get_nat s p h]
  unfold Lib.decodeN
  rw [if_neg (by omega), if_neg (by omega)]
  refine ⟨fun hn => ?_, fun h2 v c1 c2 hv => ?_⟩
  · rw [goesOn_iff, goesOn_iff] at hn
    rw [if_neg (by rintro ⟨-, x⟩; exact hn x), if_neg (by omega)]
  · rw [get_nat s _ (show p + 1 < s.size by omega), get_nat s _ h2, if_pos ⟨by omega, ⟨by omega, c1⟩, by omega, c2⟩]
    refine ⟨fun hg => ?_, fun hb => ?_⟩
    · rw [if_pos (by omega), hv]
    · rw [if_neg (by omega)]
theorem dec4 {s : ByteArray} {p : Nat} (h : p < s.size) (hc : 240 ≤ s[p].toNat ∧ s[p].toNat < 245) : (¬ (goesOn s (p + 1) ∧ goesOn s (p + 2) ∧ goesOn s (p + 3)) → Utf8.decode s p = (65533, 1)) ∧ (∀ (h3 : p + 3 < s.size) (v : Nat), s[p + 1].toNat / 64 = 2 → s[p + 2].toNat / 64 = 2 → s[p + 3].toNat / 64 = 2 → v = s[p].toNat % 8 * 262144 + s[p + 1].toNat % 64 * 4096 + s[p + 2].toNat % 64 * 64 + s[p + 3].toNat % 64 →
    (¬ (v < 65536 ∨ 1114111 < v ∨ (55296 ≤ v ∧ v < 57344)) → Utf8.decode s p = (v, 4)) ∧ ((v < 65536 ∨ 1114111 < v ∨ (55296 ≤ v ∧ v < 57344)) → Utf8.decode s p = (65533, 1))) := by
  rw [dec_at, get_nat s p h]
  unfold Lib.decodeN
  rw [if_neg (by omega), if_neg (by omega), if_neg (by omega)]
  refine ⟨fun hn => ?_, fun h3 v c1 c2 c3 hv => ?_⟩
  · rw [goesOn_iff, goesOn_iff, goesOn_iff] at hn
    rw [if_neg (by rintro ⟨-, x⟩; exact hn x)]
  · rw [get_nat s _ (show p + 1 < s.size by omega), get_nat s _ (show p + 2 < s.size by omega), get_nat s _ h3, if_pos ⟨by omega, ⟨by omega, c1⟩, ⟨by omega, c2⟩, by omega, c3⟩]
    refine ⟨fun hg => ?_, fun hb => ?_⟩
    · rw [if_pos (by omega), hv]
    · rw [if_neg (by omega)]

/-- Where a number lies. -/
structure Rng (least v : Int) (a b c d : Bool) : Prop where
  r1 : decide (v < least) = a
  r2 : decide ((1114111 : Int) < v) = b
  r3 : decide ((55296 : Int) ≤ v) = c
  r4 : decide (v < 57344) = d

set_option maxHeartbeats 20000000 in
set_option maxRecDepth 100000 in
theorem utf8_calls (s : ByteArray) (t : Bool) (w : World) (hs : s.size ≤ 140737488355328) (h : spelled s = t) :
    Calls Tryz.prog 103 #[.string s] w fun e w' => e = .returned (.bool t) ∧ w' = w := by
  have HS := Lib.hid h; clear h
  go_enter Tryz.func103, Tryz.ntmps103
  go_wp2_with fail
  go_loop [3] (fun i => ∃ p k : Nat, p ≤ s.size ∧ i = .int .i64 p ∧ spelledF s k p = t ∧ s.size ≤ p + k) (fun i => s.size - (intOf i).toNat)
  case atStart => exact ⟨0, s.size, Nat.zero_le _, rfl, HS.out, by omega⟩
  case round =>
    obtain ⟨p, k, hp, rfl, hk, hf⟩ := hrel
    have HK := Lib.hid hk; clear hk
    by_cases hlt : p < s.size
    · obtain ⟨k, rfl⟩ : ∃ j, k = j + 1 := ⟨k - 1, by omega⟩
      have hcl := s[p].toNat_lt
      -- a step that goes on, one that ends
      have hgo : ∀ r n, Utf8.decode s p = (r, n) → (n ≠ 1 ∨ r ≠ 65533) → spelledF s k (p + n) = t := fun r n hd hn => (spelledF_good hlt hd hn).symm.trans HK.out
      have hno : Utf8.decode s p = (65533, 1) → t = false := fun hd => HK.out.symm.trans (spelledF_bad hlt hd)
      have HGO := Lib.hid hgo; clear hgo
      have HNO := Lib.hid hno; clear hno
      by_cases h128 : s[p].toNat < 128
      · have l128 : decide ((s[p].toNat : Int) < 128) = true := by simp; omega
        have hd := decode_ascii s p hlt h128
        have HG := Lib.hid (HGO.out _ _ hd (.inr (by omega))); clear hd
        go_wp2
        go_round
        case rel => exact ⟨p + 1, k, by omega, by go_num, HG.out, by omega⟩
        case measure => simp [intOf]; omega
      · have l128 : decide ((s[p].toNat : Int) < 128) = false := by simp; omega
        by_cases h194 : s[p].toNat < 194
        · have g194 : decide ((194 : Int) ≤ (s[p].toNat : Int)) = false := by simp; omega
          have g224 : decide ((224 : Int) ≤ (s[p].toNat : Int)) = false := by simp; omega
          have g240 : decide ((240 : Int) ≤ (s[p].toNat : Int)) = false := by simp; omega
          obtain rfl := HNO.out (dec_bad0 hlt (.inl (by omega)))
          go_wp2
          go_ret
          exact ⟨rfl, rfl⟩
        · have g194 : decide ((194 : Int) ≤ (s[p].toNat : Int)) = true := by simp; omega
          by_cases h224 : s[p].toNat < 224
          · have l224 : decide ((s[p].toNat : Int) < 224) = true := by simp; omega
            have hdec := dec2 hlt (by omega)
            have a31 := and31 ⟨s[p].toNat, hcl⟩
            simp only at a31
            obtain ⟨m0, e0⟩ : ∃ m, m = s[p].toNat % 32 := ⟨_, rfl⟩
            rw [← e0] at a31
            have b0 : m0 ≤ 31 := by omega
            have E0 := Lib.hid e0; clear e0
            by_cases hz1 : p + 1 < s.size
            · have z1 : decide (((s.size : Nat) : Int) ≤ (p : Int) + 1) = false := by simp; omega
              have w1 := s[p + 1].toNat_lt
              have a1 := and192 ⟨s[p + 1].toNat, w1⟩
              have m1 := and63 ⟨s[p + 1].toNat, w1⟩
              simp only at a1 m1
              obtain ⟨d1, e1⟩ : ∃ d, d = s[p + 1].toNat % 64 := ⟨_, rfl⟩
              rw [← e1] at m1
              have b1 : d1 ≤ 63 := by omega
              have E1 := Lib.hid e1; clear e1
              by_cases hq1 : s[p + 1].toNat / 64 = 2
              · rw [decide_eq_true hq1, Bool.not_true] at a1
                have HG := Lib.hid (HGO.out _ _ (hdec.2 hz1 hq1) (.inl (by omega)))
                have hlow : 2 ≤ m0 := by have := E0.out; omega
                have r1 : decide (((m0 : Int) * 64 + (d1 : Int)) < 128) = false := by simp; omega
                have r2 : decide ((1114111 : Int) < ((m0 : Int) * 64 + (d1 : Int))) = false := by simp; omega
                have r3 : decide ((55296 : Int) ≤ ((m0 : Int) * 64 + (d1 : Int))) = false := by simp; omega
                clear hdec
                go_wp2
                refine wp_loop_rounds 2 ?_
                rw [rounds_succ]
                go_wp2
                rw [rounds_succ]
                go_wp2
                go_round
                case rel => exact ⟨p + 2, k, by omega, by go_num, HG.out, by omega⟩
                case measure => simp [intOf]; omega
              · rw [decide_eq_false hq1, Bool.not_false] at a1
                obtain rfl := HNO.out (hdec.1 (by rintro ⟨h', e⟩; exact hq1 e))
                go_wp2
                refine wp_loop_rounds 1 ?_
                rw [rounds_succ]
                go_wp2
                go_ret
                exact ⟨rfl, rfl⟩
            · have z1 : decide (((s.size : Nat) : Int) ≤ (p : Int) + 1) = true := by simp; omega
              obtain rfl := HNO.out (hdec.1 (by rintro ⟨h', e⟩; omega))
              go_wp2
              refine wp_loop_rounds 1 ?_
              rw [rounds_succ]
              go_wp2
              go_ret
              exact ⟨rfl, rfl⟩
          · by_cases h240 : s[p].toNat < 240
            · have g224 : decide ((224 : Int) ≤ (s[p].toNat : Int)) = true := by simp; omega
              have l224 : decide ((s[p].toNat : Int) < 224) = false := by simp; omega
              have l240 : decide ((s[p].toNat : Int) < 240) = true := by simp; omega
              have hdec := dec3 hlt (by omega)
              have a15 := and15 ⟨s[p].toNat, hcl⟩
              simp only at a15
              obtain ⟨m0, e0⟩ : ∃ m, m = s[p].toNat % 16 := ⟨_, rfl⟩
              rw [← e0] at a15
              have b0 : m0 ≤ 15 := by omega
              have E0 := Lib.hid e0; clear e0
              by_cases hz1 : p + 1 < s.size
              · have z1 : decide (((s.size : Nat) : Int) ≤ (p : Int) + 1) = false := by simp; omega
                have w1 := s[p + 1].toNat_lt
                have a1 := and192 ⟨s[p + 1].toNat, w1⟩
                have m1 := and63 ⟨s[p + 1].toNat, w1⟩
                simp only at a1 m1
                obtain ⟨d1, e1⟩ : ∃ d, d = s[p + 1].toNat % 64 := ⟨_, rfl⟩
                rw [← e1] at m1
                have b1 : d1 ≤ 63 := by omega
                have E1 := Lib.hid e1; clear e1
                by_cases hq1 : s[p + 1].toNat / 64 = 2
                · rw [decide_eq_true hq1, Bool.not_true] at a1
                  by_cases hz2 : p + 2 < s.size
                  · have z2 : decide (((s.size : Nat) : Int) ≤ (p : Int) + 2) = false := by simp; omega
                    have w2 := s[p + 2].toNat_lt
                    have a2 := and192 ⟨s[p + 2].toNat, w2⟩
                    have m2 := and63 ⟨s[p + 2].toNat, w2⟩
                    simp only at a2 m2
                    obtain ⟨d2, e2⟩ : ∃ d, d = s[p + 2].toNat % 64 := ⟨_, rfl⟩
                    rw [← e2] at m2
                    have b2 : d2 ≤ 63 := by omega
                    have E2 := Lib.hid e2; clear e2
                    by_cases hq2 : s[p + 2].toNat / 64 = 2
                    · rw [decide_eq_true hq2, Bool.not_true] at a2
                      obtain ⟨hgood, hbad⟩ := hdec.2 hz2 ((m0 * 64 + d1) * 64 + d2) hq1 hq2 (by have := E0.out; have := E1.out; have := E2.out; omega)
                      by_cases hv1 : ((m0 * 64 + d1) * 64 + d2) < 2048
                      · obtain rfl := HNO.out (hbad (.inl hv1))
                        have HR : Rng 2048 (((m0 : Int) * 64 + (d1 : Int)) * 64 + (d2 : Int)) true (decide ((1114111 : Int) < (((m0 : Int) * 64 + (d1 : Int)) * 64 + (d2 : Int)))) (decide ((55296 : Int) ≤ (((m0 : Int) * 64 + (d1 : Int)) * 64 + (d2 : Int)))) (decide ((((m0 : Int) * 64 + (d1 : Int)) * 64 + (d2 : Int)) < 57344)) := ⟨by simp; omega, rfl, rfl, rfl⟩
                        clear hdec hgood hbad hv1
                        go_wp2
                        refine wp_loop_rounds 3 ?_
                        rw [rounds_succ]
                        go_wp2
                        rw [rounds_succ]
                        go_wp2
                        rw [rounds_succ]
                        go_upto_region 28 with (fail)
                        generalize (((m0 : Int) * 64 + (d1 : Int)) * 64 + (d2 : Int)) = rv at *
                        have r1 := HR.r1
                        go_wp2
                        go_ret
                        exact ⟨rfl, rfl⟩
                      · by_cases hv3 : 55296 ≤ ((m0 * 64 + d1) * 64 + d2)
                        · by_cases hv4 : ((m0 * 64 + d1) * 64 + d2) < 57344
                          · obtain rfl := HNO.out (hbad (.inr (.inr ⟨hv3, hv4⟩)))
                            have HR : Rng 2048 (((m0 : Int) * 64 + (d1 : Int)) * 64 + (d2 : Int)) false false true true := ⟨by simp; omega, by simp; omega, by simp; omega, by simp; omega⟩
                            clear hdec hgood hbad hv1 hv3 hv4
                            go_wp2
                            refine wp_loop_rounds 3 ?_
                            rw [rounds_succ]
                            go_wp2
                            rw [rounds_succ]
                            go_wp2
                            rw [rounds_succ]
                            go_upto_region 28 with (fail)
                            generalize (((m0 : Int) * 64 + (d1 : Int)) * 64 + (d2 : Int)) = rv at *
                            have r1 := HR.r1
                            have r2 := HR.r2
                            have r3 := HR.r3
                            have r4 := HR.r4
                            go_wp2
                            go_ret
                            exact ⟨rfl, rfl⟩
                          · have HG := Lib.hid (HGO.out _ _ (hgood (by omega)) (.inl (by omega)))
                            have HR : Rng 2048 (((m0 : Int) * 64 + (d1 : Int)) * 64 + (d2 : Int)) false false true false := ⟨by simp; omega, by simp; omega, by simp; omega, by simp; omega⟩
                            clear hdec hgood hbad hv1 hv3 hv4
                            go_wp2
                            refine wp_loop_rounds 3 ?_
                            rw [rounds_succ]
                            go_wp2
                            rw [rounds_succ]
                            go_wp2
                            rw [rounds_succ]
                            go_upto_region 28 with (fail)
                            generalize (((m0 : Int) * 64 + (d1 : Int)) * 64 + (d2 : Int)) = rv at *
                            have r1 := HR.r1
                            have r2 := HR.r2
                            have r3 := HR.r3
                            have r4 := HR.r4
                            go_wp2
                            go_round
                            case rel => exact ⟨p + 3, k, by omega, by go_num, HG.out, by omega⟩
                            case measure => simp [intOf]; omega
                        · have HG := Lib.hid (HGO.out _ _ (hgood (by omega)) (.inl (by omega)))
                          have HR : Rng 2048 (((m0 : Int) * 64 + (d1 : Int)) * 64 + (d2 : Int)) false false false (decide ((((m0 : Int) * 64 + (d1 : Int)) * 64 + (d2 : Int)) < 57344)) := ⟨by simp; omega, by simp; omega, by simp; omega, rfl⟩
                          clear hdec hgood hbad hv1 hv3
                          go_wp2
                          refine wp_loop_rounds 3 ?_
                          rw [rounds_succ]
                          go_wp2
                          rw [rounds_succ]
                          go_wp2
                          rw [rounds_succ]
                          go_upto_region 28 with (fail)
                          generalize (((m0 : Int) * 64 + (d1 : Int)) * 64 + (d2 : Int)) = rv at *
                          have r1 := HR.r1
                          have r2 := HR.r2
                          have r3 := HR.r3
                          go_wp2
                          go_round
                          case rel => exact ⟨p + 3, k, by omega, by go_num, HG.out, by omega⟩
                          case measure => simp [intOf]; omega
                    · rw [decide_eq_false hq2, Bool.not_false] at a2
                      obtain rfl := HNO.out (hdec.1 (by rintro ⟨-, ⟨h', e⟩⟩; exact hq2 e))
                      go_wp2
                      refine wp_loop_rounds 2 ?_
                      rw [rounds_succ]
                      go_wp2
                      rw [rounds_succ]
                      go_wp2
                      go_ret
                      exact ⟨rfl, rfl⟩
                  · have z2 : decide (((s.size : Nat) : Int) ≤ (p : Int) + 2) = true := by simp; omega
                    obtain rfl := HNO.out (hdec.1 (by rintro ⟨-, ⟨h', e⟩⟩; omega))
                    go_wp2
                    refine wp_loop_rounds 2 ?_
                    rw [rounds_succ]
                    go_wp2
                    rw [rounds_succ]
                    go_wp2
                    go_ret
                    exact ⟨rfl, rfl⟩
                · rw [decide_eq_false hq1, Bool.not_false] at a1
                  obtain rfl := HNO.out (hdec.1 (by rintro ⟨⟨h', e⟩, -⟩; exact hq1 e))
                  go_wp2
                  refine wp_loop_rounds 1 ?_
                  rw [rounds_succ]
                  go_wp2
                  go_ret
                  exact ⟨rfl, rfl⟩
              · have z1 : decide (((s.size : Nat) : Int) ≤ (p : Int) + 1) = true := by simp; omega
                obtain rfl := HNO.out (hdec.1 (by rintro ⟨⟨h', e⟩, -⟩; omega))
                go_wp2
                refine wp_loop_rounds 1 ?_
                rw [rounds_succ]
                go_wp2
                go_ret
                exact ⟨rfl, rfl⟩
            · by_cases h245 : s[p].toNat < 245
              · have l224 : decide ((s[p].toNat : Int) < 224) = false := by simp; omega
                have g224 : decide ((224 : Int) ≤ (s[p].toNat : Int)) = true := by simp; omega
                have l240 : decide ((s[p].toNat : Int) < 240) = false := by simp; omega
                have g240 : decide ((240 : Int) ≤ (s[p].toNat : Int)) = true := by simp; omega
                have l245 : decide ((s[p].toNat : Int) < 245) = true := by simp; omega
                have hdec := dec4 hlt (by omega)
                have a7 := and7 ⟨s[p].toNat, hcl⟩
                simp only at a7
                obtain ⟨m0, e0⟩ : ∃ m, m = s[p].toNat % 8 := ⟨_, rfl⟩
                rw [← e0] at a7
                have b0 : m0 ≤ 7 := by omega
                have E0 := Lib.hid e0; clear e0
                by_cases hz1 : p + 1 < s.size
                · have z1 : decide (((s.size : Nat) : Int) ≤ (p : Int) + 1) = false := by simp; omega
                  have w1 := s[p + 1].toNat_lt
                  have a1 := and192 ⟨s[p + 1].toNat, w1⟩
                  have m1 := and63 ⟨s[p + 1].toNat, w1⟩
                  simp only at a1 m1
                  obtain ⟨d1, e1⟩ : ∃ d, d = s[p + 1].toNat % 64 := ⟨_, rfl⟩
                  rw [← e1] at m1
                  have b1 : d1 ≤ 63 := by omega
                  have E1 := Lib.hid e1; clear e1
                  by_cases hq1 : s[p + 1].toNat / 64 = 2
                  · rw [decide_eq_true hq1, Bool.not_true] at a1
                    by_cases hz2 : p + 2 < s.size
                    · have z2 : decide (((s.size : Nat) : Int) ≤ (p : Int) + 2) = false := by simp; omega
                      have w2 := s[p + 2].toNat_lt
                      have a2 := and192 ⟨s[p + 2].toNat, w2⟩
                      have m2 := and63 ⟨s[p + 2].toNat, w2⟩
                      simp only at a2 m2
                      obtain ⟨d2, e2⟩ : ∃ d, d = s[p + 2].toNat % 64 := ⟨_, rfl⟩
                      rw [← e2] at m2
                      have b2 : d2 ≤ 63 := by omega
                      have E2 := Lib.hid e2; clear e2
                      by_cases hq2 : s[p + 2].toNat / 64 = 2
                      · rw [decide_eq_true hq2, Bool.not_true] at a2
                        by_cases hz3 : p + 3 < s.size
                        · have z3 : decide (((s.size : Nat) : Int) ≤ (p : Int) + 3) = false := by simp; omega
                          have w3 := s[p + 3].toNat_lt
                          have a3 := and192 ⟨s[p + 3].toNat, w3⟩
                          have m3 := and63 ⟨s[p + 3].toNat, w3⟩
                          simp only at a3 m3
                          obtain ⟨d3, e3⟩ : ∃ d, d = s[p + 3].toNat % 64 := ⟨_, rfl⟩
                          rw [← e3] at m3
                          have b3 : d3 ≤ 63 := by omega
                          have E3 := Lib.hid e3; clear e3
                          by_cases hq3 : s[p + 3].toNat / 64 = 2
                          · rw [decide_eq_true hq3, Bool.not_true] at a3
                            obtain ⟨hgood, hbad⟩ := hdec.2 hz3 (((m0 * 64 + d1) * 64 + d2) * 64 + d3) hq1 hq2 hq3 (by have := E0.out; have := E1.out; have := E2.out; have := E3.out; omega)
                            by_cases hv1 : (((m0 * 64 + d1) * 64 + d2) * 64 + d3) < 65536
                            · obtain rfl := HNO.out (hbad (.inl hv1))
                              have HR : Rng 65536 ((((m0 : Int) * 64 + (d1 : Int)) * 64 + (d2 : Int)) * 64 + (d3 : Int)) true (decide ((1114111 : Int) < ((((m0 : Int) * 64 + (d1 : Int)) * 64 + (d2 : Int)) * 64 + (d3 : Int)))) (decide ((55296 : Int) ≤ ((((m0 : Int) * 64 + (d1 : Int)) * 64 + (d2 : Int)) * 64 + (d3 : Int)))) (decide (((((m0 : Int) * 64 + (d1 : Int)) * 64 + (d2 : Int)) * 64 + (d3 : Int)) < 57344)) := ⟨by simp; omega, rfl, rfl, rfl⟩
                              clear hdec hgood hbad hv1
                              go_wp2
                              refine wp_loop_rounds 4 ?_
                              rw [rounds_succ]
                              go_wp2
                              rw [rounds_succ]
                              go_wp2
                              rw [rounds_succ]
                              go_wp2
                              rw [rounds_succ]
                              go_upto_region 28 with (fail)
                              generalize ((((m0 : Int) * 64 + (d1 : Int)) * 64 + (d2 : Int)) * 64 + (d3 : Int)) = rv at *
                              have r1 := HR.r1
                              go_wp2
                              go_ret
                              exact ⟨rfl, rfl⟩
                            · by_cases hv2 : 1114111 < (((m0 * 64 + d1) * 64 + d2) * 64 + d3)
                              · obtain rfl := HNO.out (hbad (.inr (.inl hv2)))
                                have HR : Rng 65536 ((((m0 : Int) * 64 + (d1 : Int)) * 64 + (d2 : Int)) * 64 + (d3 : Int)) false true (decide ((55296 : Int) ≤ ((((m0 : Int) * 64 + (d1 : Int)) * 64 + (d2 : Int)) * 64 + (d3 : Int)))) (decide (((((m0 : Int) * 64 + (d1 : Int)) * 64 + (d2 : Int)) * 64 + (d3 : Int)) < 57344)) := ⟨by simp; omega, by simp; omega, rfl, rfl⟩
                                clear hdec hgood hbad hv1 hv2
                                go_wp2
                                refine wp_loop_rounds 4 ?_
                                rw [rounds_succ]
                                go_wp2
                                rw [rounds_succ]
                                go_wp2
                                rw [rounds_succ]
                                go_wp2
                                rw [rounds_succ]
                                go_upto_region 28 with (fail)
                                generalize ((((m0 : Int) * 64 + (d1 : Int)) * 64 + (d2 : Int)) * 64 + (d3 : Int)) = rv at *
                                have r1 := HR.r1
                                have r2 := HR.r2
                                go_wp2
                                go_ret
                                exact ⟨rfl, rfl⟩
                              · have HG := Lib.hid (HGO.out _ _ (hgood (by omega)) (.inl (by omega)))
                                have HR : Rng 65536 ((((m0 : Int) * 64 + (d1 : Int)) * 64 + (d2 : Int)) * 64 + (d3 : Int)) false false true false := ⟨by simp; omega, by simp; omega, by simp; omega, by simp; omega⟩
                                clear hdec hgood hbad hv1 hv2
                                go_wp2
                                refine wp_loop_rounds 4 ?_
                                rw [rounds_succ]
                                go_wp2
                                rw [rounds_succ]
                                go_wp2
                                rw [rounds_succ]
                                go_wp2
                                rw [rounds_succ]
                                go_upto_region 28 with (fail)
                                generalize ((((m0 : Int) * 64 + (d1 : Int)) * 64 + (d2 : Int)) * 64 + (d3 : Int)) = rv at *
                                have r1 := HR.r1
                                have r2 := HR.r2
                                have r3 := HR.r3
                                have r4 := HR.r4
                                go_wp2
                                go_round
                                case rel => exact ⟨p + 4, k, by omega, by go_num, HG.out, by omega⟩
                                case measure => simp [intOf]; omega
                          · rw [decide_eq_false hq3, Bool.not_false] at a3
                            obtain rfl := HNO.out (hdec.1 (by rintro ⟨-, -, ⟨h', e⟩⟩; exact hq3 e))
                            go_wp2
                            refine wp_loop_rounds 3 ?_
                            rw [rounds_succ]
                            go_wp2
                            rw [rounds_succ]
                            go_wp2
                            rw [rounds_succ]
                            go_wp2
                            go_ret
                            exact ⟨rfl, rfl⟩
                        · have z3 : decide (((s.size : Nat) : Int) ≤ (p : Int) + 3) = true := by simp; omega
                          obtain rfl := HNO.out (hdec.1 (by rintro ⟨-, -, ⟨h', e⟩⟩; omega))
                          go_wp2
                          refine wp_loop_rounds 3 ?_
                          rw [rounds_succ]
                          go_wp2
                          rw [rounds_succ]
                          go_wp2
                          rw [rounds_succ]
                          go_wp2
                          go_ret
                          exact ⟨rfl, rfl⟩
                      · rw [decide_eq_false hq2, Bool.not_false] at a2
                        obtain rfl := HNO.out (hdec.1 (by rintro ⟨-, ⟨h', e⟩, -⟩; exact hq2 e))
                        go_wp2
                        refine wp_loop_rounds 2 ?_
                        rw [rounds_succ]
                        go_wp2
                        rw [rounds_succ]
                        go_wp2
                        go_ret
                        exact ⟨rfl, rfl⟩
                    · have z2 : decide (((s.size : Nat) : Int) ≤ (p : Int) + 2) = true := by simp; omega
                      obtain rfl := HNO.out (hdec.1 (by rintro ⟨-, ⟨h', e⟩, -⟩; omega))
                      go_wp2
                      refine wp_loop_rounds 2 ?_
                      rw [rounds_succ]
                      go_wp2
                      rw [rounds_succ]
                      go_wp2
                      go_ret
                      exact ⟨rfl, rfl⟩
                  · rw [decide_eq_false hq1, Bool.not_false] at a1
                    obtain rfl := HNO.out (hdec.1 (by rintro ⟨⟨h', e⟩, -, -⟩; exact hq1 e))
                    go_wp2
                    refine wp_loop_rounds 1 ?_
                    rw [rounds_succ]
                    go_wp2
                    go_ret
                    exact ⟨rfl, rfl⟩
                · have z1 : decide (((s.size : Nat) : Int) ≤ (p : Int) + 1) = true := by simp; omega
                  obtain rfl := HNO.out (hdec.1 (by rintro ⟨⟨h', e⟩, -, -⟩; omega))
                  go_wp2
                  refine wp_loop_rounds 1 ?_
                  rw [rounds_succ]
                  go_wp2
                  go_ret
                  exact ⟨rfl, rfl⟩
              · have l224 : decide ((s[p].toNat : Int) < 224) = false := by simp; omega
                have g224 : decide ((224 : Int) ≤ (s[p].toNat : Int)) = true := by simp; omega
                have l240 : decide ((s[p].toNat : Int) < 240) = false := by simp; omega
                have g240 : decide ((240 : Int) ≤ (s[p].toNat : Int)) = true := by simp; omega
                have l245 : decide ((s[p].toNat : Int) < 245) = false := by simp; omega
                obtain rfl := HNO.out (dec_bad0 hlt (.inr (by omega)))
                go_wp2
                go_ret
                exact ⟨rfl, rfl⟩
    · have htt : t = true := by rw [← HK.out]; exact spelledF_end _ _ _ hlt
      subst htt
      go_wp2
      go_ret
      exact ⟨rfl, rfl⟩
end Go.Proofs.YtejpdfenejbjdaaGreatDoor
