/- Walks: the parser's reader, its signs and blanks. -/
import Derived.Test.YtejpdfenejbjdaaGreatDoorBase
import Derived.Test.YtejpdfenejbjdaaGreatDoorShelf
import Derived.Test.YtejpdfenejbjdaaGreatDoorModel
namespace Go.Proofs.YtejpdfenejbjdaaGreatDoor
open Go.RowKit Txt
set_option linter.unusedVariables false
set_option linter.unusedSimpArgs false

theorem Rd.go {b : Nat} {s : ByteArray} {p : Nat} {w : World} (h : Rd b s p w) (n : Nat) (q : Nat) (v : Int) (hv : v = (q : Int)) : Rd b s q ((w.drewN n).setCell ⟨b, 1, none⟩ (.int .i64 v)) := by
  subst hv
  refine ⟨by simpa [World.setCell] using h.lt, ?_, ?_, ?_, ?_⟩
  · have := h.c0; go_simp
  · have := h.c1; go_simp
  · have := h.f0; go_simp
  · have := h.f1; go_simp
theorem Rd.drewN {b : Nat} {s : ByteArray} {p : Nat} {w : World} (h : Rd b s p w) (n : Nat) : Rd b s p (w.drewN n) := ⟨h.lt, h.c0, h.c1, h.f0, h.f1⟩
/-- What leaves the block alone leaves the reader alone. -/
theorem Rd.keep {b : Nat} {s : ByteArray} {p : Nat} {w w' : World} (h : Rd b s p w) (hs : w.heap.size ≤ w'.heap.size) (hb : w'.heap[b]? = w.heap[b]?) : Rd b s p w' :=
  ⟨Nat.lt_of_lt_of_le h.lt hs, (World.cell?_of_block (w := w) hb).trans h.c0, (World.cell?_of_block (w := w) hb).trans h.c1, (World.frozen?_of_block (w := w) hb).trans h.f0, (World.frozen?_of_block (w := w) hb).trans h.f1⟩
theorem Rd.below {b : Nat} {s : ByteArray} {p : Nat} {w w' : World} (h : Rd b s p w) (hb : Below w.heap.size w w') : Rd b s p w' := h.keep hb.size (hb.block b h.lt)

theorem u8_back (c : UInt8) : ((c.toNat : Int).toNat.toUInt8) = c := by simp
def ibB (c : UInt8) : Int := Lib.indexByte [32, 10, 9, 13] c
theorem ibB_yes (c : UInt8) (h : blankB c = true) : 0 ≤ ibB c := by
  simp only [blankB, Bool.or_eq_true, beq_iff_eq] at h
  rcases h with ((rfl | rfl) | rfl) | rfl <;> decide
theorem ibB_no (c : UInt8) (h : blankB c = false) : ibB c < 0 := by
  simp only [blankB, Bool.or_eq_false_iff, beq_eq_false_iff_ne, ne_eq] at h
  obtain ⟨⟨⟨h1, h2⟩, h3⟩, h4⟩ := h
  have e1 : ((32 : UInt8) == c) = false := beq_eq_false_iff_ne.2 (Ne.symm h1)
  have e2 : ((10 : UInt8) == c) = false := beq_eq_false_iff_ne.2 (Ne.symm h2)
  have e3 : ((9 : UInt8) == c) = false := beq_eq_false_iff_ne.2 (Ne.symm h3)
  have e4 : ((13 : UInt8) == c) = false := beq_eq_false_iff_ne.2 (Ne.symm h4)
  simp [ibB, Lib.indexByte, e1, e2, e3, e4]
theorem ib_calls (c : UInt8) (w : World) : Calls Tryz.prog 138 #[.string ⟨#[32, 10, 9, 13]⟩, .int .u8 (c.toNat : Int)] w fun e w' => e = .returned (.int .i64 (ibB c)) ∧ w' = w := by
  refine (Tryz.strings_IndexByte _ _ _).mono ?_
  rintro e w' ⟨rfl, rfl⟩
  exact ⟨by rw [u8_back]; rfl, rfl⟩

set_option maxHeartbeats 400000 in
theorem blanks_calls (b : Nat) (s : ByteArray) (p : Nat) (w : World) (hr : Rd b s p w) (hp : p ≤ s.size) (hs : s.size ≤ 140737488355328) :
    Calls Tryz.prog 93 #[.pointer (some ⟨b, 0, none⟩)] w fun e w' => e = .returned (.tuple #[]) ∧ Rd b s (skip s p) w' ∧ Mv b w w' := by
  go_enter Tryz.func93, Tryz.ntmps93
  go_wp2
  go_loopw [] (fun wr => ∃ q : Nat, q ≤ s.size ∧ skip s q = skip s p ∧ Rd b s q wr ∧ Mv b w wr) (fun wr => s.size - (intOf ((wr.cell? ⟨b, 1, none⟩).getD undef)).toNat)
  case atStart => exact ⟨p, hp, rfl, hr, Mv.refl _ _⟩
  case round =>
    obtain ⟨q, hq, hsk, hrd, hmv⟩ := hrel
    have HS := Lib.hid hsk; clear hsk
    have HM := Lib.hid hmv; clear hmv
    have HR := Lib.hid hrd
    obtain ⟨lt, c0, c1, f0, f1⟩ := hrd
    by_cases hlt : q < s.size
    · by_cases hb : blankB s[q] = true
      · have h1 := ibB_yes _ hb
        go_wp2_with fail
        go_quiet ((go_at_call 138; exact Calls.quiet_of_same (ib_calls _ _)))
        go_wp2
        go_roundw
        case rel => exact ⟨q + 1, by omega, (span_yes hlt hb).symm.trans HS.out, HR.out.go _ _ _ (by omega), (HM.out.drewN _).setAt _ _⟩
        case measure =>
          have e := (HR.out.go nq (q + 1) ((q : Int) + 1) (by omega)).c1
          rw [e, c1]; simp [intOf]; omega
      · have h1 := ibB_no _ (by simpa using hb)
        go_wp2_with fail
        go_quiet ((go_at_call 138; exact Calls.quiet_of_same (ib_calls _ _)))
        go_wp2
        have e : skip s p = q := HS.out.symm.trans (span_no hlt (by simpa using hb))
        go_end0
        exact ⟨rfl, by rw [e]; exact HR.out.drewN _, HM.out.drewN _⟩
    · go_wp2_with fail
      go_quiet (fail)
      go_wp2
      have e : skip s p = q := HS.out.symm.trans (span_end (by omega))
      go_end0
      exact ⟨rfl, by rw [e]; exact HR.out.drewN _, HM.out.drewN _⟩

def nextFn (w : World) : Value := .func (.func 187) #[] #[.pointer (some ⟨w.heap.size, 0, none⟩)]
theorem next_calls (b : Nat) (w : World) : Calls Tryz.prog 127 #[.pointer (some ⟨b, 0, none⟩)] w fun e w' =>
    e = .returned (.func (.func 187) #[] #[.pointer (some ⟨w.heap.size, 0, none⟩)]) ∧ w' = w.alloc (.cells #[.pointer (some ⟨b, 0, none⟩)] 128) := by
  go_enter Tryz.func127, Tryz.ntmps127
  go_wp2
  go_ret
  exact ⟨rfl, rfl⟩

theorem hp_calls (s : ByteArray) (p : Nat) (sign : ByteArray) (w : World) (t : Bool) (ht : starts s p sign.data.toList = t) :
    Calls Tryz.prog 188 #[.string (s.extract p s.size), .string sign] w fun e w' => e = .returned (.bool t) ∧ w' = w := by
  refine (Tryz.strings_HasPrefix _ _ _).mono ?_
  rintro e w' ⟨rfl, rfl⟩
  refine ⟨?_, rfl⟩
  rw [← ht, starts_prefix, ← extract_end]; rfl

set_option maxHeartbeats 400000 in
theorem next1_yes (b g : Nat) (s sign : ByteArray) (p : Nat) (w : World) (hr : Rd b s p w) (hp : p ≤ s.size) (hs : s.size ≤ 140737488355328) (hg : w.cell? ⟨g, 0, none⟩ = some (.pointer (some ⟨b, 0, none⟩)))
    (ht : starts s p sign.data.toList = true) :
    Calls Tryz.prog 187 #[.string sign, .pointer (some ⟨g, 0, none⟩)] w fun e w' => e = .returned (.bool true) ∧ Rd b s (p + sign.size) w' ∧ Mv b w w' := by
  have hle := starts_le hp ht
  have hlen : sign.data.toList.length = sign.size := by simp
  have HL := Lib.hid hlen; clear hlen
  have hle' : p + sign.size ≤ s.size := by rw [← HL.out]; exact hle
  clear hle
  have HR := Lib.hid hr
  obtain ⟨lt, c0, c1, f0, f1⟩ := hr
  have HT := Lib.hid ht; clear ht
  go_enter Tryz.func187, Tryz.ntmps187
  go_wp2_with fail
  go_quiet ((go_at_call 188; exact Calls.quiet_of_same (hp_calls _ _ _ _ _ HT.out)))
  go_wp2
  go_ret
  exact ⟨rfl, HR.out.go _ _ _ (by omega), ((Mv.refl _ _).drewN _).setAt _ _⟩
set_option maxHeartbeats 400000 in
theorem next1_no (b g : Nat) (s sign : ByteArray) (p : Nat) (w : World) (hr : Rd b s p w) (hp : p ≤ s.size) (hs : s.size ≤ 140737488355328) (hg : w.cell? ⟨g, 0, none⟩ = some (.pointer (some ⟨b, 0, none⟩)))
    (ht : starts s p sign.data.toList = false) :
    Calls Tryz.prog 187 #[.string sign, .pointer (some ⟨g, 0, none⟩)] w fun e w' => e = .returned (.bool false) ∧ Rd b s p w' ∧ Mv b w w' := by
  have HR := Lib.hid hr
  obtain ⟨lt, c0, c1, f0, f1⟩ := hr
  have HT := Lib.hid ht; clear ht
  go_enter Tryz.func187, Tryz.ntmps187
  go_wp2_with fail
  go_quiet ((go_at_call 188; exact Calls.quiet_of_same (hp_calls _ _ _ _ _ HT.out)))
  go_wp2
  go_ret
  exact ⟨rfl, HR.out.drewN _, (Mv.refl _ _).drewN _⟩

theorem digit_calls (c : UInt8) (w : World) :
    Calls Tryz.prog 130 #[.int .u8 (c.toNat : Int)] w fun e w' => e = .returned (.bool (digitB c)) ∧ w' = w := by
  by_cases h1 : 48 ≤ c.toNat
  · by_cases h2 : c.toNat ≤ 57
    · have e : digitB c = true := by simp [digitB, h1, h2]
      have E := Lib.hid e; clear e
      go_enter Tryz.func130, Tryz.ntmps130
      go_wp2
      go_ret
      exact ⟨by rw [E.out]; simp <;> omega, rfl⟩
    · have e : digitB c = false := by simp [digitB, h1, h2]
      have E := Lib.hid e; clear e
      go_enter Tryz.func130, Tryz.ntmps130
      go_wp2
      go_ret
      exact ⟨by rw [E.out]; simp <;> omega, rfl⟩
  · have e : digitB c = false := by simp [digitB, h1]
    have E := Lib.hid e; clear e
    go_enter Tryz.func130, Tryz.ntmps130
    go_wp2
    go_ret
    exact ⟨by rw [E.out]; simp <;> omega, rfl⟩

/-- A fault that is thrown. -/
abbrev thrown (e : Int) (p : Nat) : List PanicEntry := [{ v := .iface 125 (.agg #[.int .i64 e, .int .i64 (p : Int)]), recovered := false }]
theorem fail_calls (r : Value) (c p : Int) (w : World) :
    Calls Tryz.prog 94 #[r, .int .i64 c, .int .i64 p] w fun e w' => e = .panicked [{ v := .iface 125 (.agg #[.int .i64 c, .int .i64 p]), recovered := false }] ∧ w' = w := by
  go_enter Tryz.func94, Tryz.ntmps94
  go_wp2
  exact ⟨rfl, rfl, rfl⟩

set_option maxHeartbeats 400000 in
theorem here_calls (b : Nat) (s : ByteArray) (p : Nat) (c : UInt8) (w : World) (hr : Rd b s p w) (hp : p ≤ s.size) (hs : s.size ≤ 140737488355328) :
    Calls Tryz.prog 128 #[.pointer (some ⟨b, 0, none⟩), .int .u8 (c.toNat : Int)] w fun e w' => e = .returned (.bool (decide (at? s p = some c))) ∧ Rd b s p w' ∧ Mv b w w' := by
  have HR := Lib.hid hr
  obtain ⟨lt, c0, c1, f0, f1⟩ := hr
  by_cases hlt : p < s.size
  · by_cases hc : s[p] = c
    · have hd : decide (at? s p = some c) = true := by rw [at?_lt hlt, hc]; simp
      have HD := Lib.hid hd; clear hd
      have hc1 : ((s[p].toNat : Int) == (c.toNat : Int)) = true := by rw [hc]; simp
      clear hc
      go_enter Tryz.func128, Tryz.ntmps128
      go_wp2_with fail
      go_quiet (fail)
      go_wp2
      go_ret
      exact ⟨by rw [HD.out]; rfl, HR.out.drewN _, (Mv.refl _ _).drewN _⟩
    · have hd : decide (at? s p = some c) = false := by rw [at?_lt hlt]; simpa using hc
      have HD := Lib.hid hd; clear hd
      have hc1 : ((s[p].toNat : Int) == (c.toNat : Int)) = false := by
        rw [beq_eq_false_iff_ne]; intro h; exact hc (UInt8.toNat_inj.1 (by omega))
      clear hc
      go_enter Tryz.func128, Tryz.ntmps128
      go_wp2_with fail
      go_quiet (fail)
      go_wp2
      go_ret
      exact ⟨by rw [HD.out]; rfl, HR.out.drewN _, (Mv.refl _ _).drewN _⟩
  · have hd : decide (at? s p = some c) = false := by rw [at?_ge (by omega)]; simp
    have HD := Lib.hid hd; clear hd
    go_enter Tryz.func128, Tryz.ntmps128
    go_wp2_with fail
    go_quiet (fail)
    go_wp2
    go_ret
    exact ⟨by rw [HD.out]; rfl, HR.out.drewN _, (Mv.refl _ _).drewN _⟩

set_option maxHeartbeats 400000 in
theorem want_yes (b : Nat) (s sign : ByteArray) (p : Nat) (w : World) (hr : Rd b s p w) (hp : p ≤ s.size) (hs : s.size ≤ 140737488355328) (ht : starts s (skip s p) sign.data.toList = true) :
    Calls Tryz.prog 134 #[.pointer (some ⟨b, 0, none⟩), .string sign] w fun e w' => e = .returned (.tuple #[]) ∧ Rd b s (skip s p + sign.size) w' ∧ Mv b w w' := by
  have hq := skip_le hp
  have HT := Lib.hid ht; clear ht
  go_enter Tryz.func134, Tryz.ntmps134
  go_wp2_with fail
  refine (blanks_calls b s p w hr hp hs).mono ?_
  rintro e w1 ⟨rfl, hr1, hm1⟩
  have HM1 := Lib.hid hm1; clear hm1
  have HR1 := Lib.hid hr1; clear hr1
  go_wp2_with fail
  refine (next_calls b w1).mono ?_
  rintro e w2 ⟨rfl, rfl⟩
  go_wp2_with fail
  refine (next1_yes b w1.heap.size s sign (skip s p) _ (HR1.out.below ((Below.refl _ _).alloc (Nat.le_refl _) _)) hq hs (by simp) HT.out).mono ?_
  rintro e w3 ⟨rfl, hr3, hm3⟩
  have HM3 := Lib.hid (HM1.out.trans (((Mv.refl _ _).alloc _).trans hm3)); clear hm3
  go_wp2
  exact bodyPost_ret (results_none rfl _ _ _) rfl ⟨rfl, hr3, HM3.out⟩

set_option maxHeartbeats 400000 in
theorem want_no (b : Nat) (s sign : ByteArray) (p : Nat) (w : World) (hr : Rd b s p w) (hp : p ≤ s.size) (hs : s.size ≤ 140737488355328) (hs2 : sign.size ≤ 1000) (ht : starts s (skip s p) sign.data.toList = false) :
    Calls Tryz.prog 134 #[.pointer (some ⟨b, 0, none⟩), .string sign] w fun e w' => e = .panicked (thrown 70 (skip s p + common s (skip s p) sign.data.toList)) ∧ Mv b w w' := by
  have hq := skip_le hp
  have hlen : sign.data.toList.length = sign.size := by simp
  have hk : common s (skip s p) sign.data.toList < sign.size := by
    have h1 := (common_le (l := sign.data.toList) hq).2
    have h2 := (common_all (s := s) (p := skip s p) (l := sign.data.toList))
    rw [ht] at h2
    simp only [Bool.false_eq_true, iff_false] at h2
    omega
  have hsum := (common_le (l := sign.data.toList) hq).1
  have HL := Lib.hid hlen; clear hlen
  have HT := Lib.hid ht; clear ht
  generalize hcm : common s (skip s p) sign.data.toList = cm at *
  have HC := Lib.hid hcm; clear hcm
  go_enter Tryz.func134, Tryz.ntmps134
  go_wp2_with fail
  refine (blanks_calls b s p w hr hp hs).mono ?_
  rintro e w1 ⟨rfl, hr1, hm1⟩
  have HM1 := Lib.hid hm1; clear hm1
  have HR1 := Lib.hid hr1; clear hr1
  go_wp2_with fail
  refine (next_calls b w1).mono ?_
  rintro e w2 ⟨rfl, rfl⟩
  go_wp2_with fail
  refine (next1_no b w1.heap.size s sign (skip s p) _ (HR1.out.below ((Below.refl _ _).alloc (Nat.le_refl _) _)) hq hs (by simp) HT.out).mono ?_
  rintro e w3 ⟨rfl, hr3, hm3⟩
  have HM3 := Lib.hid (HM1.out.trans (((Mv.refl _ _).alloc _).trans hm3)); clear hm3
  have HR3 := Lib.hid hr3; clear hr3
  generalize hqe : skip s p = q at *
  have HQ := Lib.hid hqe; clear hqe
  go_wp2_with fail
  go_loopw [4] (fun v wr => ∃ k : Nat, k ≤ cm ∧ v = .int .i64 k ∧ Rd b s q wr ∧ Mv b w wr) (fun v wr => cm - (intOf v).toNat)
  case atStart => exact ⟨0, Nat.zero_le _, rfl, HR3.out, HM3.out⟩
  case round =>
    obtain ⟨k, hkc, rfl, hrd, hmv⟩ := hrel
    have HM := Lib.hid hmv; clear hmv
    have HR := Lib.hid hrd
    obtain ⟨lt, c0, c1, f0, f1⟩ := hrd
    have htk : starts s q ((sign.extract 0 (k + 1)).data.toList) = decide (k < cm) := by
      have h1 : (sign.extract 0 (k + 1)).data.toList = sign.data.toList.take (k + 1) := by simp [ByteArray.data_extract]
      rw [h1, Bool.eq_iff_iff, starts_take (by have := HL.out; omega), HC.out]; simp; omega
    by_cases hlt : k < cm
    · rw [decide_eq_true hlt] at htk
      have HTK := Lib.hid htk; clear htk
      go_wp2_with fail
      go_quiet ((go_at_call 188; exact Calls.quiet_of_same (hp_calls _ _ _ _ _ HTK.out)))
      go_wp2
      go_roundw
      case rel => exact ⟨k + 1, by omega, by go_num, HR.out.drewN _, HM.out.drewN _⟩
      case measure => simp [intOf]; omega
    · rw [decide_eq_false hlt] at htk
      have HTK := Lib.hid htk; clear htk
      obtain rfl : k = cm := by omega
      go_wp2_with fail
      go_quiet ((go_at_call 188; exact Calls.quiet_of_same (hp_calls _ _ _ _ _ HTK.out)))
      go_wp2_with fail
      refine (fail_calls _ _ _ _).mono ?_
      rintro e w4 ⟨rfl, rfl⟩
      go_wp2
      exact ⟨rfl, by simp [HQ.out], HM.out.drewN _⟩
end Go.Proofs.YtejpdfenejbjdaaGreatDoor

namespace Go.Proofs.YtejpdfenejbjdaaGreatDoor
open Go.RowKit Txt
set_option linter.unusedVariables false
set_option linter.unusedSimpArgs false

theorem digit_is (c : UInt8) (t : Bool) (w : World) (h : digitB c = t) :
    Calls Tryz.prog 130 #[.int .u8 (c.toNat : Int)] w fun e w' => e = .returned (.bool t) ∧ w' = w := by subst h; exact digit_calls c w

set_option maxHeartbeats 400000 in
theorem digits_yes (b : Nat) (s : ByteArray) (p : Nat) (w : World) (hr : Rd b s p w) (hp : p ≤ s.size) (hs : s.size ≤ 140737488355328) (hne : digitsEnd s p ≠ p) :
    Calls Tryz.prog 190 #[.pointer (some ⟨b, 0, none⟩)] w fun e w' => e = .returned (.string (s.extract p (digitsEnd s p))) ∧ Rd b s (digitsEnd s p) w' ∧ Mv b w w' := by
  have hge := le_digitsEnd s p
  have hle := digitsEnd_le hp
  have HR0 := Lib.hid hr
  obtain ⟨lt, c0, c1, f0, f1⟩ := hr
  generalize hd : digitsEnd s p = r at *
  have HD := Lib.hid hd; clear hd
  have hgt : p < r := by omega
  clear hne hge
  go_enter Tryz.func190, Tryz.ntmps190
  go_wp2_with fail
  clear lt c0 c1 f0 f1
  go_loopw [] (fun wr => ∃ q : Nat, p ≤ q ∧ q ≤ s.size ∧ digitsEnd s q = r ∧ Rd b s q wr ∧ Mv b w wr) (fun wr => s.size - (intOf ((wr.cell? ⟨b, 1, none⟩).getD undef)).toNat)
  case atStart => exact ⟨p, Nat.le_refl _, hp, HD.out, HR0.out, Mv.refl _ _⟩
  case round =>
    obtain ⟨q, hpq, hq, hsk, hrd, hmv⟩ := hrel
    have HS := Lib.hid hsk; clear hsk
    have HM := Lib.hid hmv; clear hmv
    have HR := Lib.hid hrd
    obtain ⟨lt, c0, c1, f0, f1⟩ := hrd
    by_cases hlt : q < s.size
    · cases hb : digitB s[q] with
      | true =>
        have HB := Lib.hid hb; clear hb
        go_wp2_with fail
        go_quiet ((go_at_call 130; exact Calls.quiet_of_same (digit_is _ _ _ HB.out)))
        go_wp2
        go_roundw
        case rel => exact ⟨q + 1, by omega, by omega, (span_yes hlt HB.out).symm.trans HS.out, HR.out.go _ _ _ (by omega), (HM.out.drewN _).setAt _ _⟩
        case measure =>
          have e := (HR.out.go nq (q + 1) ((q : Int) + 1) (by omega)).c1
          rw [e, c1]; simp [intOf]; omega
      | false =>
        have HB := Lib.hid hb; clear hb
        obtain rfl : q = r := (span_no (f := digitB) hlt HB.out).symm.trans HS.out
        have hne : ((q : Int) == (p : Int)) = false := beq_eq_false_iff_ne.2 (by omega)
        go_wp2_with fail
        go_quiet ((go_at_call 130; exact Calls.quiet_of_same (digit_is _ _ _ HB.out)))
        go_wp2
        go_quiet (fail)
        go_wp2
        go_ret
        exact ⟨rfl, (HR.out.drewN _).drewN _, (HM.out.drewN _).drewN _⟩
    · obtain rfl : q = r := (span_end (f := digitB) (by omega)).symm.trans HS.out
      have hne : ((q : Int) == (p : Int)) = false := beq_eq_false_iff_ne.2 (by omega)
      go_wp2_with fail
      go_quiet (fail)
      go_wp2
      go_quiet (fail)
      go_wp2
      go_ret
      exact ⟨rfl, (HR.out.drewN _).drewN _, (HM.out.drewN _).drewN _⟩

set_option maxHeartbeats 400000 in
theorem digits_no (b : Nat) (s : ByteArray) (p : Nat) (w : World) (hr : Rd b s p w) (hp : p ≤ s.size) (hs : s.size ≤ 140737488355328) (hne : digitsEnd s p = p) :
    Calls Tryz.prog 190 #[.pointer (some ⟨b, 0, none⟩)] w fun e w' => e = .panicked (thrown 70 p) ∧ Mv b w w' := by
  have HR := Lib.hid hr
  obtain ⟨lt, c0, c1, f0, f1⟩ := hr
  have HD := Lib.hid hne; clear hne
  by_cases hlt : p < s.size
  · have hb : digitB s[p] = false := by
      have h := span_stop (f := digitB) (s := s) (p := p) (by have := HD.out; unfold digitsEnd at this; omega)
      have e : span digitB s p = p := HD.out
      simpa only [e] using h
    have HB := Lib.hid hb; clear hb
    go_enter Tryz.func190, Tryz.ntmps190
    go_wp2_with fail
    refine wp_loop_once ?_
    go_wp2_with fail
    go_quiet ((go_at_call 130; exact Calls.quiet_of_same (digit_is _ _ _ HB.out)))
    go_wp2_with fail
    refine (fail_calls _ _ _ _).mono ?_
    rintro e w4 ⟨rfl, rfl⟩
    go_wp2
    exact ⟨rfl, rfl, (Mv.refl _ _).drewN _⟩
  · go_enter Tryz.func190, Tryz.ntmps190
    go_wp2_with fail
    refine wp_loop_once ?_
    go_wp2_with fail
    go_quiet (fail)
    go_wp2_with fail
    refine (fail_calls _ _ _ _).mono ?_
    rintro e w4 ⟨rfl, rfl⟩
    go_wp2
    exact ⟨rfl, rfl, (Mv.refl _ _).drewN _⟩

theorem numOf_snoc (l : List UInt8) (c : UInt8) : numOf (l ++ [c]) = numOf l * 10 + (c.toNat - 48) := by simp [numOf]
theorem numOf_le_append (l : List UInt8) : ∀ (n : Nat) (m : List UInt8), m.length = n → numOf l ≤ numOf (l ++ m) := by
  intro n
  induction n generalizing l with
  | zero => intro m hm; simp [List.length_eq_zero_iff.1 hm]
  | succ n ih =>
    intro m hm
    match m, hm with
    | c :: m, hm =>
      have h1 := ih (l ++ [c]) m (by simpa using hm)
      rw [numOf_snoc] at h1
      rw [show l ++ c :: m = l ++ [c] ++ m by simp]
      omega
theorem numOf_take (l : List UInt8) (k : Nat) : numOf (l.take k) ≤ numOf l := by
  have := numOf_le_append (l.take k) _ (l.drop k) rfl
  rwa [List.take_append_drop] at this
theorem take_snoc (s : ByteArray) (k : Nat) (h : k < s.size) : s.data.toList.take (k + 1) = s.data.toList.take k ++ [s[k]] := by
  rw [List.take_succ_eq_append_getElem (by simpa using h)]; rfl
theorem digitB_bd {c : UInt8} (h : digitB c = true) : 48 ≤ c.toNat ∧ c.toNat ≤ 57 := by simpa [digitB] using h
theorem getElem_mem' (d : ByteArray) (k : Nat) (h : k < d.size) : d[k] ∈ d.data.toList := by
  have : d[k] = d.data.toList[k]'(by simpa using h) := rfl
  rw [this]; exact List.getElem_mem _

set_option maxHeartbeats 400000 in
theorem number_yes (d : ByteArray) (most : Int) (w : World) (hm : 9 ≤ most) (hm2 : most ≤ 18446744073709551615) (hs : d.size ≤ 140737488355328) (hd : ∀ c ∈ d.data.toList, digitB c = true) (hv : (numOf d.data.toList : Int) ≤ most) :
    Calls Tryz.prog 189 #[.string d, .int .u64 most] w fun e w' => e = .returned (.tuple #[.int .u64 (numOf d.data.toList : Int), .bool true]) ∧ w' = w := by
  have HD := Lib.hid hd; clear hd
  have HV := Lib.hid hv; clear hv
  go_enter Tryz.func189, Tryz.ntmps189
  go_wp2
  go_loop [6, 11] (fun n i => ∃ k : Nat, k ≤ d.size ∧ i = .int .i64 k ∧ n = .int .u64 (numOf (d.data.toList.take k))) (fun _ i => d.size - (intOf i).toNat)
  case atStart => exact ⟨0, Nat.zero_le _, rfl, rfl⟩
  case round =>
    obtain ⟨k, hk, rfl, rfl⟩ := hrel
    by_cases hlt : k < d.size
    · have hb := digitB_bd (HD.out _ (getElem_mem' d k hlt))
      have h48 : 48 ≤ (d[k].toNat : Int) := by omega
      have h57 : (d[k].toNat : Int) ≤ 57 := by omega
      have hsn : numOf (d.data.toList.take (k + 1)) = numOf (d.data.toList.take k) * 10 + (d[k].toNat - 48) := by rw [take_snoc d k hlt, numOf_snoc]
      have hnx := numOf_take d.data.toList (k + 1)
      have hV := HV.out
      have HS : Hid (((numOf (d.data.toList.take (k + 1)) : Nat) : Int) = (numOf (d.data.toList.take k) : Int) * 10 + ((d[k].toNat : Int) - 48)) := by rw [hsn]; show _ = _; omega
      generalize numOf (d.data.toList.take k) = X at *
      have hle : (X : Int) * 10 + ((d[k].toNat : Int) - 48) ≤ most := by omega
      have hle2 : (X : Int) ≤ (most - ((d[k].toNat : Int) - 48)) / 10 := by omega
      clear hb hsn hnx hV
      go_wp2
      go_round
      case rel => exact ⟨k + 1, by omega, by go_num, by rw [HS.out]⟩
      case measure => simp [intOf]; omega
    · obtain rfl : k = d.size := by omega
      have ht : d.data.toList.take d.size = d.data.toList := List.take_of_length_le (by simp)
      have hV : (numOf (d.data.toList.take d.size) : Int) ≤ most := by rw [ht]; exact HV.out
      have HT : Hid (numOf (d.data.toList.take d.size) = numOf d.data.toList) := by rw [ht]; exact rfl
      clear ht
      go_wp2
      go_ret2
      exact ⟨by rw [HT.out]; simp [HV.out], rfl⟩

set_option maxHeartbeats 400000 in
theorem number_no (d : ByteArray) (most : Int) (w : World) (hm : 9 ≤ most) (hm2 : most ≤ 18446744073709551615) (hs : d.size ≤ 140737488355328) (hd : ∀ c ∈ d.data.toList, digitB c = true) (hv : most < (numOf d.data.toList : Int)) :
    Calls Tryz.prog 189 #[.string d, .int .u64 most] w fun e w' => e = .returned (.tuple #[.int .u64 0, .bool false]) ∧ w' = w := by
  have HD := Lib.hid hd; clear hd
  have HV := Lib.hid hv; clear hv
  go_enter Tryz.func189, Tryz.ntmps189
  go_wp2
  go_loop [6, 11] (fun n i => ∃ k : Nat, k ≤ d.size ∧ i = .int .i64 k ∧ n = .int .u64 (numOf (d.data.toList.take k)) ∧ (numOf (d.data.toList.take k) : Int) ≤ most) (fun _ i => d.size - (intOf i).toNat)
  case atStart => exact ⟨0, Nat.zero_le _, rfl, rfl, by simp [numOf]; omega⟩
  case round =>
    obtain ⟨k, hk, rfl, rfl, hX⟩ := hrel
    by_cases hlt : k < d.size
    · have hb := digitB_bd (HD.out _ (getElem_mem' d k hlt))
      have h48 : 48 ≤ (d[k].toNat : Int) := by omega
      have h57 : (d[k].toNat : Int) ≤ 57 := by omega
      have hsn : numOf (d.data.toList.take (k + 1)) = numOf (d.data.toList.take k) * 10 + (d[k].toNat - 48) := by rw [take_snoc d k hlt, numOf_snoc]
      have HS : Hid (((numOf (d.data.toList.take (k + 1)) : Nat) : Int) = (numOf (d.data.toList.take k) : Int) * 10 + ((d[k].toNat : Int) - 48)) := by rw [hsn]; show _ = _; omega
      generalize numOf (d.data.toList.take k) = X at *
      clear hb hsn
      by_cases hle : (X : Int) * 10 + ((d[k].toNat : Int) - 48) ≤ most
      · have hle2 : (X : Int) ≤ (most - ((d[k].toNat : Int) - 48)) / 10 := by omega
        go_wp2
        go_round
        case rel => exact ⟨k + 1, by omega, by go_num, by rw [HS.out], by rw [HS.out]; exact hle⟩
        case measure => simp [intOf]; omega
      · have hle2 : (most - ((d[k].toNat : Int) - 48)) / 10 < (X : Int) := by omega
        clear hle
        go_wp2
        go_ret2
        exact ⟨rfl, rfl⟩
    · exfalso
      obtain rfl : k = d.size := by omega
      have ht : d.data.toList.take d.size = d.data.toList := List.take_of_length_le (by simp)
      rw [ht] at hX
      have := HV.out
      omega
end Go.Proofs.YtejpdfenejbjdaaGreatDoor
