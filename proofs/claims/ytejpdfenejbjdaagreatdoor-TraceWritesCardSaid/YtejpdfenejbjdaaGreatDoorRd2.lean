/- Walks: whole numbers, references and pids. -/
import Derived.Test.YtejpdfenejbjdaaGreatDoorRd0
import Derived.Test.YtejpdfenejbjdaaGreatDoorRight
namespace Go.Proofs.YtejpdfenejbjdaaGreatDoor
open Go.RowKit Txt
set_option linter.unusedVariables false
set_option linter.unusedSimpArgs false

/-- What comes of a parser's method: cells in new memory and the place behind them, or a fault that is thrown. -/
def ParseR (b : Nat) (s : ByteArray) (w : World) (r : PR (List Cl)) (e : Ending) (w' : World) : Prop :=
  match r with
  | .ok t q => ∃ x, e = .returned x ∧ OwnT w.heap.size w' x t ∧ Rd b s q w' ∧ Mv b w w'
  | .bad c a => e = .panicked (thrown c a) ∧ Mv b w w'

theorem digits_all {s : ByteArray} {p : Nat} (hp : p ≤ s.size) : ∀ c ∈ (s.extract p (digitsEnd s p)).data.toList, digitB c = true := by
  intro c hc
  obtain ⟨i, hi, rfl⟩ := List.mem_iff_getElem.1 hc
  have hle := digitsEnd_le hp
  have hi' : i < digitsEnd s p - p := by
    have : (s.extract p (digitsEnd s p)).data.toList.length = min (digitsEnd s p) s.size - p := by simp [ByteArray.size_extract]; omega
    omega
  obtain ⟨h1, h2⟩ := span_in (f := digitB) (s := s) (p := p) (q := p + i) (by omega) (by unfold digitsEnd at hi'; omega)
  have : (s.extract p (digitsEnd s p)).data.toList[i] = s[p + i] := by
    simp [ByteArray.data_extract]; rfl
  rw [this]; exact h2
theorem extract_size {s : ByteArray} {p q : Nat} (hq : q ≤ s.size) : (s.extract p q).size = q - p := by simp [ByteArray.size_extract]; omega
theorem starts_one (s : ByteArray) (p : Nat) (c : UInt8) : starts s p [c] = decide (at? s p = some c) := by simp [starts]

theorem big_eq (V : Int) (h : V ≠ 9223372036854775808) : (V == 9223372036854775808) = false := beq_eq_false_iff_ne.2 h
theorem neg_back (V : Int) (h0 : 0 ≤ V) (h1 : V ≤ 9223372036854775808) : IntKind.i64.wrap (IntKind.u64.wrap (-V)) = -V := by
  rw [IntKind.wrap_i64]
  simp only [IntKind.wrap, IntKind.bits, IntKind.signed]
  simp
  omega
theorem pos_back (V : Int) (h0 : 0 ≤ V) (h1 : V < 9223372036854775808) : IntKind.i64.wrap V = V := IntWalk.i64_in _ (by omega)

set_option maxHeartbeats 1000000 in
theorem whole_none_pos (b : Nat) (s : ByteArray) (p : Nat) (w : World) (hr : Rd b s p w) (hp : p ≤ s.size) (hs : s.size ≤ 140737488355328)
    (hneg : at? s p ≠ some 45) (hne : digitsEnd s p = p) :
    Calls Tryz.prog 131 #[.pointer (some ⟨b, 0, none⟩)] w (ParseR b s w (.bad 70 p)) := by
  have HR := Lib.hid hr
  obtain ⟨lt, c0, c1, f0, f1⟩ := hr
  have hq := hp
  have HN := Lib.hid hneg; clear hneg
  have hd := digitsEnd_le hq
  have hall := digits_all hq
  have HA := Lib.hid hall; clear hall
  go_enter Tryz.func131, Tryz.ntmps131
  go_wp2_with fail
  refine (next_calls b _).mono ?_
  rintro e w2 ⟨rfl, rfl⟩
  go_wp2_with fail
  refine (next1_no b w.heap.size s ⟨#[45]⟩ p _ (HR.out.below ((Below.refl _ _).alloc (Nat.le_refl _) _)) hp hs (by simp) (by rw [starts_one]; exact decide_eq_false HN.out)).mono ?_
  rintro e w3 ⟨rfl, hr3, hm3⟩
  have HM3 := Lib.hid (((Mv.refl _ _).alloc _).trans hm3); clear hm3
  go_wp2_with fail
  refine (digits_no b s p w3 hr3 hq hs hne).mono ?_
  rintro e w4 ⟨rfl, hm4⟩
  have HM4 := Lib.hid (HM3.out.trans hm4); clear hm4
  go_wp2
  exact ⟨rfl, rfl, HM4.out⟩
set_option maxHeartbeats 1000000 in
theorem whole_large_pos (b : Nat) (s : ByteArray) (p : Nat) (w : World) (hr : Rd b s p w) (hp : p ≤ s.size) (hs : s.size ≤ 140737488355328)
    (hneg : at? s p ≠ some 45) (hne : digitsEnd s p ≠ p) (hv : 9223372036854775808 < numOf (cut s p (digitsEnd s p))) :
    Calls Tryz.prog 131 #[.pointer (some ⟨b, 0, none⟩)] w (ParseR b s w (.bad 7 p)) := by
  have HR := Lib.hid hr
  obtain ⟨lt, c0, c1, f0, f1⟩ := hr
  have hq := hp
  have HN := Lib.hid hneg; clear hneg
  have hd := digitsEnd_le hq
  have hall := digits_all hq
  have HA := Lib.hid hall; clear hall
  go_enter Tryz.func131, Tryz.ntmps131
  go_wp2_with fail
  refine (next_calls b _).mono ?_
  rintro e w2 ⟨rfl, rfl⟩
  go_wp2_with fail
  refine (next1_no b w.heap.size s ⟨#[45]⟩ p _ (HR.out.below ((Below.refl _ _).alloc (Nat.le_refl _) _)) hp hs (by simp) (by rw [starts_one]; exact decide_eq_false HN.out)).mono ?_
  rintro e w3 ⟨rfl, hr3, hm3⟩
  have HM3 := Lib.hid (((Mv.refl _ _).alloc _).trans hm3); clear hm3
  go_wp2_with fail
  refine (digits_yes b s p w3 hr3 hq hs hne).mono ?_
  rintro e w4 ⟨rfl, hr4, hm4⟩
  have HM4 := Lib.hid (HM3.out.trans hm4); clear hm4
  go_wp2_with fail
  refine (number_no _ 9223372036854775808 w4 (by omega) (by omega) (by rw [extract_size hd]; omega) HA.out (by unfold cut at hv; omega)).mono ?_
  rintro e w5 ⟨rfl, rfl⟩
  clear hv
  go_wp2_with fail
  refine (fail_calls _ _ _ _).mono ?_
  rintro e w6 ⟨rfl, rfl⟩
  go_wp2
  exact ⟨rfl, rfl, HM4.out⟩
set_option maxHeartbeats 1000000 in
theorem whole_edge_pos (b : Nat) (s : ByteArray) (p : Nat) (w : World) (hr : Rd b s p w) (hp : p ≤ s.size) (hs : s.size ≤ 140737488355328)
    (hneg : at? s p ≠ some 45) (hne : digitsEnd s p ≠ p) (hv : numOf (cut s p (digitsEnd s p)) = 9223372036854775808) :
    Calls Tryz.prog 131 #[.pointer (some ⟨b, 0, none⟩)] w (ParseR b s w (.bad 7 p)) := by
  have HR := Lib.hid hr
  obtain ⟨lt, c0, c1, f0, f1⟩ := hr
  have hq := hp
  have HN := Lib.hid hneg; clear hneg
  have hd := digitsEnd_le hq
  have hall := digits_all hq
  have HA := Lib.hid hall; clear hall
  go_enter Tryz.func131, Tryz.ntmps131
  go_wp2_with fail
  refine (next_calls b _).mono ?_
  rintro e w2 ⟨rfl, rfl⟩
  go_wp2_with fail
  refine (next1_no b w.heap.size s ⟨#[45]⟩ p _ (HR.out.below ((Below.refl _ _).alloc (Nat.le_refl _) _)) hp hs (by simp) (by rw [starts_one]; exact decide_eq_false HN.out)).mono ?_
  rintro e w3 ⟨rfl, hr3, hm3⟩
  have HM3 := Lib.hid (((Mv.refl _ _).alloc _).trans hm3); clear hm3
  go_wp2_with fail
  refine (digits_yes b s p w3 hr3 hq hs hne).mono ?_
  rintro e w4 ⟨rfl, hr4, hm4⟩
  have HM4 := Lib.hid (HM3.out.trans hm4); clear hm4
  go_wp2_with fail
  refine (number_yes _ 9223372036854775808 w4 (by omega) (by omega) (by rw [extract_size hd]; omega) HA.out (by unfold cut at hv; omega)).mono ?_
  rintro e w5 ⟨rfl, rfl⟩
  rw [show (s.extract p (digitsEnd s p)).data.toList = cut s p (digitsEnd s p) from rfl]
  have hvb : (((numOf (cut s p (digitsEnd s p))) : Int) == 9223372036854775808) = true := by rw [hv]; rfl
  clear hv
  generalize numOf (cut s p (digitsEnd s p)) = V at *
  go_wp2_with fail
  refine (fail_calls _ _ _ _).mono ?_
  rintro e w6 ⟨rfl, rfl⟩
  go_wp2
  exact ⟨rfl, rfl, HM4.out⟩
set_option maxHeartbeats 1000000 in
theorem whole_ok_pos (b : Nat) (s : ByteArray) (p : Nat) (w : World) (hr : Rd b s p w) (hp : p ≤ s.size) (hs : s.size ≤ 140737488355328)
    (hneg : at? s p ≠ some 45) (hne : digitsEnd s p ≠ p) (hv : numOf (cut s p (digitsEnd s p)) < 9223372036854775808) :
    Calls Tryz.prog 131 #[.pointer (some ⟨b, 0, none⟩)] w (ParseR b s w (.ok [⟨1, (numOf (cut s p (digitsEnd s p)) : Int), .empty⟩] (digitsEnd s p))) := by
  have HR := Lib.hid hr
  obtain ⟨lt, c0, c1, f0, f1⟩ := hr
  have hq := hp
  have HN := Lib.hid hneg; clear hneg
  have hd := digitsEnd_le hq
  have hall := digits_all hq
  have HA := Lib.hid hall; clear hall
  go_enter Tryz.func131, Tryz.ntmps131
  go_wp2_with fail
  refine (next_calls b _).mono ?_
  rintro e w2 ⟨rfl, rfl⟩
  go_wp2_with fail
  refine (next1_no b w.heap.size s ⟨#[45]⟩ p _ (HR.out.below ((Below.refl _ _).alloc (Nat.le_refl _) _)) hp hs (by simp) (by rw [starts_one]; exact decide_eq_false HN.out)).mono ?_
  rintro e w3 ⟨rfl, hr3, hm3⟩
  have HM3 := Lib.hid (((Mv.refl _ _).alloc _).trans hm3); clear hm3
  go_wp2_with fail
  refine (digits_yes b s p w3 hr3 hq hs hne).mono ?_
  rintro e w4 ⟨rfl, hr4, hm4⟩
  have HM4 := Lib.hid (HM3.out.trans hm4); clear hm4
  go_wp2_with fail
  refine (number_yes _ 9223372036854775808 w4 (by omega) (by omega) (by rw [extract_size hd]; omega) HA.out (by unfold cut at hv; omega)).mono ?_
  rintro e w5 ⟨rfl, rfl⟩
  rw [show (s.extract p (digitsEnd s p)).data.toList = cut s p (digitsEnd s p) from rfl]
  have hpb := pos_back (numOf (cut s p (digitsEnd s p)) : Int) (by omega) (by omega)
  have hvb := big_eq (numOf (cut s p (digitsEnd s p)) : Int) (by omega)
  generalize numOf (cut s p (digitsEnd s p)) = V at *
  go_wp2
  go_ret
  exact ⟨_, rfl, OwnT.one w5 ⟨1, (V : Int), .empty⟩ _ HM4.out.size, hr4.below ((Below.refl _ _).alloc (Nat.le_refl _) _), HM4.out.alloc _⟩
set_option maxHeartbeats 1000000 in
theorem whole_none_neg (b : Nat) (s : ByteArray) (p : Nat) (w : World) (hr : Rd b s p w) (hp : p ≤ s.size) (hs : s.size ≤ 140737488355328)
    (hneg : at? s p = some 45) (hne : digitsEnd s (p + 1) = p + 1) :
    Calls Tryz.prog 131 #[.pointer (some ⟨b, 0, none⟩)] w (ParseR b s w (.bad 70 (p + 1))) := by
  have HR := Lib.hid hr
  obtain ⟨lt, c0, c1, f0, f1⟩ := hr
  have hq : p + 1 ≤ s.size := by obtain ⟨h, -⟩ := at?_some hneg; omega
  have HN := Lib.hid hneg; clear hneg
  have hd := digitsEnd_le hq
  have hall := digits_all hq
  have HA := Lib.hid hall; clear hall
  go_enter Tryz.func131, Tryz.ntmps131
  go_wp2_with fail
  refine (next_calls b _).mono ?_
  rintro e w2 ⟨rfl, rfl⟩
  go_wp2_with fail
  refine (next1_yes b w.heap.size s ⟨#[45]⟩ p _ (HR.out.below ((Below.refl _ _).alloc (Nat.le_refl _) _)) hp hs (by simp) (by rw [starts_one]; exact decide_eq_true HN.out)).mono ?_
  rintro e w3 ⟨rfl, hr3, hm3⟩
  have HM3 := Lib.hid (((Mv.refl _ _).alloc _).trans hm3); clear hm3
  go_wp2_with fail
  refine (digits_no b s (p + 1) w3 hr3 hq hs hne).mono ?_
  rintro e w4 ⟨rfl, hm4⟩
  have HM4 := Lib.hid (HM3.out.trans hm4); clear hm4
  go_wp2
  exact ⟨rfl, rfl, HM4.out⟩
set_option maxHeartbeats 1000000 in
theorem whole_large_neg (b : Nat) (s : ByteArray) (p : Nat) (w : World) (hr : Rd b s p w) (hp : p ≤ s.size) (hs : s.size ≤ 140737488355328)
    (hneg : at? s p = some 45) (hne : digitsEnd s (p + 1) ≠ p + 1) (hv : 9223372036854775808 < numOf (cut s (p + 1) (digitsEnd s (p + 1)))) :
    Calls Tryz.prog 131 #[.pointer (some ⟨b, 0, none⟩)] w (ParseR b s w (.bad 7 p)) := by
  have HR := Lib.hid hr
  obtain ⟨lt, c0, c1, f0, f1⟩ := hr
  have hq : p + 1 ≤ s.size := by obtain ⟨h, -⟩ := at?_some hneg; omega
  have HN := Lib.hid hneg; clear hneg
  have hd := digitsEnd_le hq
  have hall := digits_all hq
  have HA := Lib.hid hall; clear hall
  go_enter Tryz.func131, Tryz.ntmps131
  go_wp2_with fail
  refine (next_calls b _).mono ?_
  rintro e w2 ⟨rfl, rfl⟩
  go_wp2_with fail
  refine (next1_yes b w.heap.size s ⟨#[45]⟩ p _ (HR.out.below ((Below.refl _ _).alloc (Nat.le_refl _) _)) hp hs (by simp) (by rw [starts_one]; exact decide_eq_true HN.out)).mono ?_
  rintro e w3 ⟨rfl, hr3, hm3⟩
  have HM3 := Lib.hid (((Mv.refl _ _).alloc _).trans hm3); clear hm3
  go_wp2_with fail
  refine (digits_yes b s (p + 1) w3 hr3 hq hs hne).mono ?_
  rintro e w4 ⟨rfl, hr4, hm4⟩
  have HM4 := Lib.hid (HM3.out.trans hm4); clear hm4
  go_wp2_with fail
  refine (number_no _ 9223372036854775808 w4 (by omega) (by omega) (by rw [extract_size hd]; omega) HA.out (by unfold cut at hv; omega)).mono ?_
  rintro e w5 ⟨rfl, rfl⟩
  clear hv
  go_wp2_with fail
  refine (fail_calls _ _ _ _).mono ?_
  rintro e w6 ⟨rfl, rfl⟩
  go_wp2
  exact ⟨rfl, rfl, HM4.out⟩
set_option maxHeartbeats 1000000 in
theorem whole_ok_neg (b : Nat) (s : ByteArray) (p : Nat) (w : World) (hr : Rd b s p w) (hp : p ≤ s.size) (hs : s.size ≤ 140737488355328)
    (hneg : at? s p = some 45) (hne : digitsEnd s (p + 1) ≠ p + 1) (hv : numOf (cut s (p + 1) (digitsEnd s (p + 1))) ≤ 9223372036854775808) :
    Calls Tryz.prog 131 #[.pointer (some ⟨b, 0, none⟩)] w (ParseR b s w (.ok [⟨1, -(numOf (cut s (p + 1) (digitsEnd s (p + 1))) : Int), .empty⟩] (digitsEnd s (p + 1)))) := by
  have HR := Lib.hid hr
  obtain ⟨lt, c0, c1, f0, f1⟩ := hr
  have hq : p + 1 ≤ s.size := by obtain ⟨h, -⟩ := at?_some hneg; omega
  have HN := Lib.hid hneg; clear hneg
  have hd := digitsEnd_le hq
  have hall := digits_all hq
  have HA := Lib.hid hall; clear hall
  go_enter Tryz.func131, Tryz.ntmps131
  go_wp2_with fail
  refine (next_calls b _).mono ?_
  rintro e w2 ⟨rfl, rfl⟩
  go_wp2_with fail
  refine (next1_yes b w.heap.size s ⟨#[45]⟩ p _ (HR.out.below ((Below.refl _ _).alloc (Nat.le_refl _) _)) hp hs (by simp) (by rw [starts_one]; exact decide_eq_true HN.out)).mono ?_
  rintro e w3 ⟨rfl, hr3, hm3⟩
  have HM3 := Lib.hid (((Mv.refl _ _).alloc _).trans hm3); clear hm3
  go_wp2_with fail
  refine (digits_yes b s (p + 1) w3 hr3 hq hs hne).mono ?_
  rintro e w4 ⟨rfl, hr4, hm4⟩
  have HM4 := Lib.hid (HM3.out.trans hm4); clear hm4
  go_wp2_with fail
  refine (number_yes _ 9223372036854775808 w4 (by omega) (by omega) (by rw [extract_size hd]; omega) HA.out (by unfold cut at hv; omega)).mono ?_
  rintro e w5 ⟨rfl, rfl⟩
  rw [show (s.extract (p + 1) (digitsEnd s (p + 1))).data.toList = cut s (p + 1) (digitsEnd s (p + 1)) from rfl]
  have hpb := neg_back (numOf (cut s (p + 1) (digitsEnd s (p + 1))) : Int) (by omega) (by omega)
  have HV := Lib.hid hv; clear hv
  generalize numOf (cut s (p + 1) (digitsEnd s (p + 1))) = V at *
  cases hvb : ((V : Int) == 9223372036854775808)
  all_goals
    go_wp2
    go_ret
    exact ⟨_, rfl, OwnT.one w5 ⟨1, -(V : Int), .empty⟩ _ HM4.out.size, hr4.below ((Below.refl _ _).alloc (Nat.le_refl _) _), HM4.out.alloc _⟩

theorem whole_calls (b : Nat) (s : ByteArray) (p : Nat) (w : World) (hr : Rd b s p w) (hp : p ≤ s.size) (hs : s.size ≤ 140737488355328) :
    Calls Tryz.prog 131 #[.pointer (some ⟨b, 0, none⟩)] w (ParseR b s w (whole s p)) := by
  unfold whole
  by_cases hneg : at? s p = some 45
  · simp only [hneg, decide_true, if_true]
    by_cases hne : digitsEnd s (p + 1) = p + 1
    · rw [if_pos hne]; exact whole_none_neg b s p w hr hp hs hneg hne
    · rw [if_neg hne]
      by_cases hv : 9223372036854775808 < numOf (cut s (p + 1) (digitsEnd s (p + 1)))
      · rw [if_pos (.inl hv)]; exact whole_large_neg b s p w hr hp hs hneg hne hv
      · rw [if_neg (by rintro (h | ⟨-, h⟩); exact hv h; cases h)]
        exact whole_ok_neg b s p w hr hp hs hneg hne (by omega)
  · simp only [hneg, decide_false, Bool.false_eq_true, if_false]
    by_cases hne : digitsEnd s p = p
    · rw [if_pos hne]; exact whole_none_pos b s p w hr hp hs hneg hne
    · rw [if_neg hne]
      by_cases hv : 9223372036854775808 < numOf (cut s p (digitsEnd s p))
      · rw [if_pos (.inl hv)]; exact whole_large_pos b s p w hr hp hs hneg hne hv
      · by_cases hv2 : numOf (cut s p (digitsEnd s p)) = 9223372036854775808
        · rw [if_pos (.inr ⟨hv2, trivial⟩)]; exact whole_edge_pos b s p w hr hp hs hneg hne hv2
        · rw [if_neg (by rintro (h | ⟨h, -⟩); exact hv h; exact hv2 h)]
          exact whole_ok_pos b s p w hr hp hs hneg hne (by omega)
end Go.Proofs.YtejpdfenejbjdaaGreatDoor
