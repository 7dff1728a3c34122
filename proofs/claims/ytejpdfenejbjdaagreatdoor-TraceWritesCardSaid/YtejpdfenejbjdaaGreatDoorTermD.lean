/- Walks: a term, case by case. -/
import Derived.Test.YtejpdfenejbjdaaGreatDoorTermC
namespace Go.Proofs.YtejpdfenejbjdaaGreatDoor
open Go.RowKit Txt
set_option linter.unusedVariables false
set_option linter.unusedSimpArgs false

/-- The reader stands at z; g holds the closure's pointer. -/
structure St (b g : Nat) (s : ByteArray) (z : Nat) (w0 w : World) : Prop where
  rd : Rd b s z w
  cell : w.cell? ⟨g, 0, none⟩ = some (.pointer (some ⟨b, 0, none⟩))
  ne : g ≠ b
  lt : g < w.heap.size
  mv : Mv b w0 w
theorem St.init {b : Nat} {s : ByteArray} {z : Nat} {w0 w : World} (hr : Rd b s z w) (hm : Mv b w0 w) : St b w.heap.size s z w0 (w.alloc (.cells #[.pointer (some ⟨b, 0, none⟩)] 128)) :=
  ⟨hr.alloc _, by simp, by have := hr.lt; omega, by simp, hm.alloc _⟩
theorem St.step {b g : Nat} {s : ByteArray} {z z' : Nat} {w0 w w' : World} (h : St b g s z w0 w) (hr : Rd b s z' w') (hm : Mv b w w') : St b g s z' w0 w' :=
  ⟨hr, (World.cell?_of_block (w := w) (hm.block g h.lt h.ne)).trans h.cell, h.ne, Nat.lt_of_lt_of_le h.lt hm.size, h.mv.trans hm⟩

set_option maxHeartbeats 1000000 in
theorem term_end (b : Nat) (s : ByteArray) (p z : Nat) (w : World) (hr : Rd b s p w) (hp : p ≤ s.size) (hs : s.size ≤ 68719476736) (HSK : Hid (skip s p = z)) (hz : z = s.size) :
    Calls Tryz.prog 92 #[.pointer (some ⟨b, 0, none⟩)] w (ParseR b s w (.bad 70 z)) := by
  have hbw := hr.lt
  go_enter Tryz.func92, Tryz.ntmps92
  go_wp2_with fail
  refine (blanks_calls b s p w hr hp (by omega)).mono ?_
  rw [HSK.out]
  rintro e w1 ⟨rfl, hr1, hm1⟩
  have HM1 := Lib.hid hm1; clear hm1
  go_wp2_with fail
  refine (next_calls b _).mono ?_
  rintro e w2 ⟨rfl, rfl⟩
  have HS0 := Lib.hid (St.init hr1 HM1.out)
  have c1 := HS0.out.rd.c1
  have c0 := HS0.out.rd.c0
  have hzz : s.size ≤ z := by omega
  clear hz
  go_wp2_with fail
  refine (fail_calls _ _ _ _).mono ?_
  rintro e w6 ⟨rfl, rfl⟩
  go_wp2
  exact ⟨rfl, rfl, HS0.out.mv⟩
set_option maxHeartbeats 2000000 in
set_option maxRecDepth 100000 in
theorem term_minus (b : Nat) (s : ByteArray) (p z : Nat) (w : World) (hr : Rd b s p w) (hp : p ≤ s.size) (hs : s.size ≤ 68719476736) (ht : Tabs w) (hb : ng ≤ b) (HSK : Hid (skip s p = z)) (hz : z < s.size) (hT1 : Hid (decide (at? s z = some 34) = false)) (hT2 : Hid (decide (at? s z = some 45) = true)) :
    Calls Tryz.prog 92 #[.pointer (some ⟨b, 0, none⟩)] w (ParseR b s w (whole s z)) := by
  have HT := Lib.hid ht; clear ht
  have hbw := hr.lt
  have hcall := fun w' (h1 : Rd b s (z) w') (h2 : Tabs w') => whole_calls b s z w' h1 (Nat.le_of_lt hz) (by omega)
  generalize whole s z = R at hcall ⊢
  go_enter Tryz.func92, Tryz.ntmps92
  go_wp2_with fail
  refine (blanks_calls b s p w hr hp (by omega)).mono ?_
  rw [HSK.out]
  rintro e w1 ⟨rfl, hr1, hm1⟩
  have HM1 := Lib.hid hm1; clear hm1
  go_wp2_with fail
  refine (next_calls b _).mono ?_
  rintro e w2 ⟨rfl, rfl⟩
  have HS0 := Lib.hid (St.init hr1 HM1.out)
  have c1 := HS0.out.rd.c1
  have c0 := HS0.out.rd.c0
  go_wp2_with fail
  refine (here_calls b s z 34 _ HS0.out.rd (Nat.le_of_lt hz) (by omega)).mono ?_
  rw [hT1.out]
  rintro e v1 ⟨rfl, hr, hm⟩
  have HS1 := Lib.hid (HS0.out.step hr hm); clear hr hm
  clear c0 c1
  go_wp2_with fail
  refine (here_calls b s z 45 _ HS1.out.rd (Nat.le_of_lt hz) (by omega)).mono ?_
  rw [hT2.out]
  rintro e v2 ⟨rfl, hr, hm⟩
  have HS2 := Lib.hid (HS1.out.step hr hm); clear hr hm
  go_wp2_with fail
  refine (hcall _ HS2.out.rd (HT.out.mv HS2.out.mv hb)).mono ?_
  clear hcall
  cases R with
  | bad e a =>
    rintro e' w9 ⟨rfl, hm9⟩
    have HE := Lib.hid (HS2.out.mv.trans hm9); clear hm9
    go_wp2
    exact ⟨rfl, rfl, HE.out⟩
  | ok t q =>
    rintro e' w9 ⟨x, rfl, ho9, hr9, hm9⟩
    have HE := Lib.hid (And.intro (OwnT.mono ho9 HS2.out.mv.size) (And.intro hr9 (HS2.out.mv.trans hm9))); clear ho9 hr9 hm9
    go_wp2
    go_ret
    exact ⟨_, rfl, HE.out⟩
set_option maxHeartbeats 2000000 in
set_option maxRecDepth 100000 in
theorem term_digit (b : Nat) (s : ByteArray) (p z : Nat) (w : World) (hr : Rd b s p w) (hp : p ≤ s.size) (hs : s.size ≤ 68719476736) (ht : Tabs w) (hb : ng ≤ b) (HSK : Hid (skip s p = z)) (hz : z < s.size) (hT1 : Hid (decide (at? s z = some 34) = false)) (hT2 : Hid (decide (at? s z = some 45) = false)) (hT3 : ∀ h : z < s.size, Hid (digitB s[z] = true)) :
    Calls Tryz.prog 92 #[.pointer (some ⟨b, 0, none⟩)] w (ParseR b s w (whole s z)) := by
  have HT := Lib.hid ht; clear ht
  have hbw := hr.lt
  have hcall := fun w' (h1 : Rd b s (z) w') (h2 : Tabs w') => whole_calls b s z w' h1 (Nat.le_of_lt hz) (by omega)
  generalize whole s z = R at hcall ⊢
  go_enter Tryz.func92, Tryz.ntmps92
  go_wp2_with fail
  refine (blanks_calls b s p w hr hp (by omega)).mono ?_
  rw [HSK.out]
  rintro e w1 ⟨rfl, hr1, hm1⟩
  have HM1 := Lib.hid hm1; clear hm1
  go_wp2_with fail
  refine (next_calls b _).mono ?_
  rintro e w2 ⟨rfl, rfl⟩
  have HS0 := Lib.hid (St.init hr1 HM1.out)
  have c1 := HS0.out.rd.c1
  have c0 := HS0.out.rd.c0
  go_wp2_with fail
  refine (here_calls b s z 34 _ HS0.out.rd (Nat.le_of_lt hz) (by omega)).mono ?_
  rw [hT1.out]
  rintro e v1 ⟨rfl, hr, hm⟩
  have HS1 := Lib.hid (HS0.out.step hr hm); clear hr hm
  clear c0 c1
  go_wp2_with fail
  refine (here_calls b s z 45 _ HS1.out.rd (Nat.le_of_lt hz) (by omega)).mono ?_
  rw [hT2.out]
  rintro e v2 ⟨rfl, hr, hm⟩
  have HS2 := Lib.hid (HS1.out.step hr hm); clear hr hm
  have c0 := HS2.out.rd.c0
  go_wp2_with fail
  have hDC := digit_calls s[z] v2
  rw [(hT3 hz).out] at hDC
  refine hDC.mono ?_
  rintro e v3 ⟨rfl, hvv⟩
  subst hvv
  have HS3 := HS2
  clear c0 hDC
  go_wp2_with fail
  refine (hcall _ HS3.out.rd (HT.out.mv HS3.out.mv hb)).mono ?_
  clear hcall
  cases R with
  | bad e a =>
    rintro e' w9 ⟨rfl, hm9⟩
    have HE := Lib.hid (HS3.out.mv.trans hm9); clear hm9
    go_wp2
    exact ⟨rfl, rfl, HE.out⟩
  | ok t q =>
    rintro e' w9 ⟨x, rfl, ho9, hr9, hm9⟩
    have HE := Lib.hid (And.intro (OwnT.mono ho9 HS3.out.mv.size) (And.intro hr9 (HS3.out.mv.trans hm9))); clear ho9 hr9 hm9
    go_wp2
    go_ret
    exact ⟨_, rfl, HE.out⟩
set_option maxHeartbeats 2000000 in
set_option maxRecDepth 100000 in
theorem term_bin (b : Nat) (s : ByteArray) (p z : Nat) (w : World) (hr : Rd b s p w) (hp : p ≤ s.size) (hs : s.size ≤ 68719476736) (ht : Tabs w) (hb : ng ≤ b) (HSK : Hid (skip s p = z)) (hz : z < s.size) (hT1 : Hid (decide (at? s z = some 34) = false)) (hT2 : Hid (decide (at? s z = some 45) = false)) (hT3 : ∀ h : z < s.size, Hid (digitB s[z] = false)) (hT4 : Hid (starts s z [60, 60] = true)) :
    Calls Tryz.prog 92 #[.pointer (some ⟨b, 0, none⟩)] w (ParseR b s w (binary s z (z + 2))) := by
  have HT := Lib.hid ht; clear ht
  have hbw := hr.lt
  have hz2 : z + 2 ≤ s.size := by have := starts_le (Nat.le_of_lt hz) hT4.out; simpa using this
  have hcall := fun w' (h1 : Rd b s (z + 2) w') (h2 : Tabs w') => binary_calls b s z (z + 2) w' h1 hz2 (by omega)
  generalize binary s z (z + 2) = R at hcall ⊢
  go_enter Tryz.func92, Tryz.ntmps92
  go_wp2_with fail
  refine (blanks_calls b s p w hr hp (by omega)).mono ?_
  rw [HSK.out]
  rintro e w1 ⟨rfl, hr1, hm1⟩
  have HM1 := Lib.hid hm1; clear hm1
  go_wp2_with fail
  refine (next_calls b _).mono ?_
  rintro e w2 ⟨rfl, rfl⟩
  have HS0 := Lib.hid (St.init hr1 HM1.out)
  have c1 := HS0.out.rd.c1
  have c0 := HS0.out.rd.c0
  go_wp2_with fail
  refine (here_calls b s z 34 _ HS0.out.rd (Nat.le_of_lt hz) (by omega)).mono ?_
  rw [hT1.out]
  rintro e v1 ⟨rfl, hr, hm⟩
  have HS1 := Lib.hid (HS0.out.step hr hm); clear hr hm
  clear c0 c1
  go_wp2_with fail
  refine (here_calls b s z 45 _ HS1.out.rd (Nat.le_of_lt hz) (by omega)).mono ?_
  rw [hT2.out]
  rintro e v2 ⟨rfl, hr, hm⟩
  have HS2 := Lib.hid (HS1.out.step hr hm); clear hr hm
  have c0 := HS2.out.rd.c0
  go_wp2_with fail
  have hDC := digit_calls s[z] v2
  rw [(hT3 hz).out] at hDC
  refine hDC.mono ?_
  rintro e v3 ⟨rfl, hvv⟩
  subst hvv
  have HS3 := HS2
  clear c0 hDC
  go_wp2_with fail
  refine (next1_yes b _ s ⟨#[60, 60]⟩ z _ HS3.out.rd (Nat.le_of_lt hz) (by omega) HS3.out.cell (hT4.out)).mono ?_
  rintro e v4 ⟨rfl, hr, hm⟩
  have HS4 := Lib.hid (HS3.out.step hr hm); clear hr hm
  go_wp2_with fail
  refine (hcall _ HS4.out.rd (HT.out.mv HS4.out.mv hb)).mono ?_
  clear hcall
  cases R with
  | bad e a =>
    rintro e' w9 ⟨rfl, hm9⟩
    have HE := Lib.hid (HS4.out.mv.trans hm9); clear hm9
    go_wp2
    exact ⟨rfl, rfl, HE.out⟩
  | ok t q =>
    rintro e' w9 ⟨x, rfl, ho9, hr9, hm9⟩
    have HE := Lib.hid (And.intro (OwnT.mono ho9 HS4.out.mv.size) (And.intro hr9 (HS4.out.mv.trans hm9))); clear ho9 hr9 hm9
    go_wp2
    go_ret
    exact ⟨_, rfl, HE.out⟩
set_option maxHeartbeats 2000000 in
set_option maxRecDepth 100000 in
theorem term_pid (b : Nat) (s : ByteArray) (p z : Nat) (w : World) (hr : Rd b s p w) (hp : p ≤ s.size) (hs : s.size ≤ 68719476736) (ht : Tabs w) (hb : ng ≤ b) (HSK : Hid (skip s p = z)) (hz : z < s.size) (hT1 : Hid (decide (at? s z = some 34) = false)) (hT2 : Hid (decide (at? s z = some 45) = false)) (hT3 : ∀ h : z < s.size, Hid (digitB s[z] = false)) (hT4 : Hid (starts s z [60, 60] = false)) (hT5 : Hid (starts s z [60] = true)) :
    Calls Tryz.prog 92 #[.pointer (some ⟨b, 0, none⟩)] w (ParseR b s w (ident s 4 z (z + 1))) := by
  have HT := Lib.hid ht; clear ht
  have hbw := hr.lt
  have hcall := fun w' (h1 : Rd b s (z + 1) w') (h2 : Tabs w') => ident_calls b s 4 (.inr rfl) z (z + 1) w' h1 hz (by omega) h2 hb
  generalize ident s 4 z (z + 1) = R at hcall ⊢
  go_enter Tryz.func92, Tryz.ntmps92
  go_wp2_with fail
  refine (blanks_calls b s p w hr hp (by omega)).mono ?_
  rw [HSK.out]
  rintro e w1 ⟨rfl, hr1, hm1⟩
  have HM1 := Lib.hid hm1; clear hm1
  go_wp2_with fail
  refine (next_calls b _).mono ?_
  rintro e w2 ⟨rfl, rfl⟩
  have HS0 := Lib.hid (St.init hr1 HM1.out)
  have c1 := HS0.out.rd.c1
  have c0 := HS0.out.rd.c0
  go_wp2_with fail
  refine (here_calls b s z 34 _ HS0.out.rd (Nat.le_of_lt hz) (by omega)).mono ?_
  rw [hT1.out]
  rintro e v1 ⟨rfl, hr, hm⟩
  have HS1 := Lib.hid (HS0.out.step hr hm); clear hr hm
  clear c0 c1
  go_wp2_with fail
  refine (here_calls b s z 45 _ HS1.out.rd (Nat.le_of_lt hz) (by omega)).mono ?_
  rw [hT2.out]
  rintro e v2 ⟨rfl, hr, hm⟩
  have HS2 := Lib.hid (HS1.out.step hr hm); clear hr hm
  have c0 := HS2.out.rd.c0
  go_wp2_with fail
  have hDC := digit_calls s[z] v2
  rw [(hT3 hz).out] at hDC
  refine hDC.mono ?_
  rintro e v3 ⟨rfl, hvv⟩
  subst hvv
  have HS3 := HS2
  clear c0 hDC
  go_wp2_with fail
  refine (next1_no b _ s ⟨#[60, 60]⟩ z _ HS3.out.rd (Nat.le_of_lt hz) (by omega) HS3.out.cell (hT4.out)).mono ?_
  rintro e v4 ⟨rfl, hr, hm⟩
  have HS4 := Lib.hid (HS3.out.step hr hm); clear hr hm
  go_wp2_with fail
  refine (next1_yes b _ s ⟨#[60]⟩ z _ HS4.out.rd (Nat.le_of_lt hz) (by omega) HS4.out.cell (hT5.out)).mono ?_
  rintro e v5 ⟨rfl, hr, hm⟩
  have HS5 := Lib.hid (HS4.out.step hr hm); clear hr hm
  go_wp2_with fail
  refine (hcall _ HS5.out.rd (HT.out.mv HS5.out.mv hb)).mono ?_
  clear hcall
  cases R with
  | bad e a =>
    rintro e' w9 ⟨rfl, hm9⟩
    have HE := Lib.hid (HS5.out.mv.trans hm9); clear hm9
    go_wp2
    exact ⟨rfl, rfl, HE.out⟩
  | ok t q =>
    rintro e' w9 ⟨x, rfl, ho9, hr9, hm9⟩
    have HE := Lib.hid (And.intro (OwnT.mono ho9 HS5.out.mv.size) (And.intro hr9 (HS5.out.mv.trans hm9))); clear ho9 hr9 hm9
    go_wp2
    go_ret
    exact ⟨_, rfl, HE.out⟩
set_option maxHeartbeats 2000000 in
set_option maxRecDepth 100000 in
theorem term_ref1 (b : Nat) (s : ByteArray) (p z : Nat) (w : World) (hr : Rd b s p w) (hp : p ≤ s.size) (hs : s.size ≤ 68719476736) (ht : Tabs w) (hb : ng ≤ b) (HSK : Hid (skip s p = z)) (hz : z < s.size) (hT1 : Hid (decide (at? s z = some 34) = false)) (hT2 : Hid (decide (at? s z = some 45) = false)) (hT3 : ∀ h : z < s.size, Hid (digitB s[z] = false)) (hT4 : Hid (starts s z [60, 60] = false)) (hT5 : Hid (starts s z [60] = false)) (hT6 : Hid (decide (at? s z = some 35) = true)) (HSS : Hid (skip s z = z)) (hR1 : Hid (starts s z [35, 82, 101, 102] = false)) :
    Calls Tryz.prog 92 #[.pointer (some ⟨b, 0, none⟩)] w (ParseR b s w (.bad 70 (z + common s z [35, 82, 101, 102]))) := by
  have HT := Lib.hid ht; clear ht
  have hbw := hr.lt
  go_enter Tryz.func92, Tryz.ntmps92
  go_wp2_with fail
  refine (blanks_calls b s p w hr hp (by omega)).mono ?_
  rw [HSK.out]
  rintro e w1 ⟨rfl, hr1, hm1⟩
  have HM1 := Lib.hid hm1; clear hm1
  go_wp2_with fail
  refine (next_calls b _).mono ?_
  rintro e w2 ⟨rfl, rfl⟩
  have HS0 := Lib.hid (St.init hr1 HM1.out)
  have c1 := HS0.out.rd.c1
  have c0 := HS0.out.rd.c0
  go_wp2_with fail
  refine (here_calls b s z 34 _ HS0.out.rd (Nat.le_of_lt hz) (by omega)).mono ?_
  rw [hT1.out]
  rintro e v1 ⟨rfl, hr, hm⟩
  have HS1 := Lib.hid (HS0.out.step hr hm); clear hr hm
  clear c0 c1
  go_wp2_with fail
  refine (here_calls b s z 45 _ HS1.out.rd (Nat.le_of_lt hz) (by omega)).mono ?_
  rw [hT2.out]
  rintro e v2 ⟨rfl, hr, hm⟩
  have HS2 := Lib.hid (HS1.out.step hr hm); clear hr hm
  have c0 := HS2.out.rd.c0
  go_wp2_with fail
  have hDC := digit_calls s[z] v2
  rw [(hT3 hz).out] at hDC
  refine hDC.mono ?_
  rintro e v3 ⟨rfl, hvv⟩
  subst hvv
  have HS3 := HS2
  clear c0 hDC
  go_wp2_with fail
  refine (next1_no b _ s ⟨#[60, 60]⟩ z _ HS3.out.rd (Nat.le_of_lt hz) (by omega) HS3.out.cell (hT4.out)).mono ?_
  rintro e v4 ⟨rfl, hr, hm⟩
  have HS4 := Lib.hid (HS3.out.step hr hm); clear hr hm
  go_wp2_with fail
  refine (next1_no b _ s ⟨#[60]⟩ z _ HS4.out.rd (Nat.le_of_lt hz) (by omega) HS4.out.cell (hT5.out)).mono ?_
  rintro e v5 ⟨rfl, hr, hm⟩
  have HS5 := Lib.hid (HS4.out.step hr hm); clear hr hm
  go_wp2_with fail
  refine (here_calls b s z 35 _ HS5.out.rd (Nat.le_of_lt hz) (by omega)).mono ?_
  rw [hT6.out]
  rintro e v6 ⟨rfl, hr, hm⟩
  have HS6 := Lib.hid (HS5.out.step hr hm); clear hr hm
  go_wp2_with fail
  refine (want_no b s ⟨#[35, 82, 101, 102]⟩ z _ HS6.out.rd (Nat.le_of_lt hz) (by omega) (by decide) (by rw [HSS.out]; exact hR1.out)).mono ?_
  rw [HSS.out]
  rintro e w9 ⟨rfl, hm9⟩
  have HE := Lib.hid (HS6.out.mv.trans hm9); clear hm9
  go_wp2
  exact ⟨rfl, rfl, HE.out⟩
set_option maxHeartbeats 2000000 in
set_option maxRecDepth 100000 in
theorem term_ref2 (b : Nat) (s : ByteArray) (p z : Nat) (w : World) (hr : Rd b s p w) (hp : p ≤ s.size) (hs : s.size ≤ 68719476736) (ht : Tabs w) (hb : ng ≤ b) (HSK : Hid (skip s p = z)) (hz : z < s.size) (hT1 : Hid (decide (at? s z = some 34) = false)) (hT2 : Hid (decide (at? s z = some 45) = false)) (hT3 : ∀ h : z < s.size, Hid (digitB s[z] = false)) (hT4 : Hid (starts s z [60, 60] = false)) (hT5 : Hid (starts s z [60] = false)) (hT6 : Hid (decide (at? s z = some 35) = true)) (HSS : Hid (skip s z = z)) (hR1 : Hid (starts s z [35, 82, 101, 102] = true)) (hR2 : Hid (starts s (skip s (z + 4)) [60] = false)) :
    Calls Tryz.prog 92 #[.pointer (some ⟨b, 0, none⟩)] w (ParseR b s w (.bad 70 (skip s (z + 4) + common s (skip s (z + 4)) [60]))) := by
  have HT := Lib.hid ht; clear ht
  have hbw := hr.lt
  have hz4 : z + 4 ≤ s.size := by have := starts_le (Nat.le_of_lt hz) hR1.out; simpa using this
  go_enter Tryz.func92, Tryz.ntmps92
  go_wp2_with fail
  refine (blanks_calls b s p w hr hp (by omega)).mono ?_
  rw [HSK.out]
  rintro e w1 ⟨rfl, hr1, hm1⟩
  have HM1 := Lib.hid hm1; clear hm1
  go_wp2_with fail
  refine (next_calls b _).mono ?_
  rintro e w2 ⟨rfl, rfl⟩
  have HS0 := Lib.hid (St.init hr1 HM1.out)
  have c1 := HS0.out.rd.c1
  have c0 := HS0.out.rd.c0
  go_wp2_with fail
  refine (here_calls b s z 34 _ HS0.out.rd (Nat.le_of_lt hz) (by omega)).mono ?_
  rw [hT1.out]
  rintro e v1 ⟨rfl, hr, hm⟩
  have HS1 := Lib.hid (HS0.out.step hr hm); clear hr hm
  clear c0 c1
  go_wp2_with fail
  refine (here_calls b s z 45 _ HS1.out.rd (Nat.le_of_lt hz) (by omega)).mono ?_
  rw [hT2.out]
  rintro e v2 ⟨rfl, hr, hm⟩
  have HS2 := Lib.hid (HS1.out.step hr hm); clear hr hm
  have c0 := HS2.out.rd.c0
  go_wp2_with fail
  have hDC := digit_calls s[z] v2
  rw [(hT3 hz).out] at hDC
  refine hDC.mono ?_
  rintro e v3 ⟨rfl, hvv⟩
  subst hvv
  have HS3 := HS2
  clear c0 hDC
  go_wp2_with fail
  refine (next1_no b _ s ⟨#[60, 60]⟩ z _ HS3.out.rd (Nat.le_of_lt hz) (by omega) HS3.out.cell (hT4.out)).mono ?_
  rintro e v4 ⟨rfl, hr, hm⟩
  have HS4 := Lib.hid (HS3.out.step hr hm); clear hr hm
  go_wp2_with fail
  refine (next1_no b _ s ⟨#[60]⟩ z _ HS4.out.rd (Nat.le_of_lt hz) (by omega) HS4.out.cell (hT5.out)).mono ?_
  rintro e v5 ⟨rfl, hr, hm⟩
  have HS5 := Lib.hid (HS4.out.step hr hm); clear hr hm
  go_wp2_with fail
  refine (here_calls b s z 35 _ HS5.out.rd (Nat.le_of_lt hz) (by omega)).mono ?_
  rw [hT6.out]
  rintro e v6 ⟨rfl, hr, hm⟩
  have HS6 := Lib.hid (HS5.out.step hr hm); clear hr hm
  go_wp2_with fail
  refine (want_yes b s ⟨#[35, 82, 101, 102]⟩ z _ HS6.out.rd (Nat.le_of_lt hz) (by omega) (by rw [HSS.out]; exact hR1.out)).mono ?_
  rw [HSS.out]
  rintro e w9 ⟨rfl, hr9, hm9⟩
  have HS9 := Lib.hid (HS6.out.step hr9 hm9); clear hr9 hm9
  go_wp2_with fail
  refine (want_no b s ⟨#[60]⟩ (z + 4) _ HS9.out.rd hz4 (by omega) (by decide) hR2.out).mono ?_
  rintro e w10 ⟨rfl, hm10⟩
  have HE := Lib.hid (HS9.out.mv.trans hm10); clear hm10
  go_wp2
  exact ⟨rfl, rfl, HE.out⟩
set_option maxHeartbeats 2000000 in
set_option maxRecDepth 100000 in
theorem term_ref (b : Nat) (s : ByteArray) (p z : Nat) (w : World) (hr : Rd b s p w) (hp : p ≤ s.size) (hs : s.size ≤ 68719476736) (ht : Tabs w) (hb : ng ≤ b) (HSK : Hid (skip s p = z)) (hz : z < s.size) (hT1 : Hid (decide (at? s z = some 34) = false)) (hT2 : Hid (decide (at? s z = some 45) = false)) (hT3 : ∀ h : z < s.size, Hid (digitB s[z] = false)) (hT4 : Hid (starts s z [60, 60] = false)) (hT5 : Hid (starts s z [60] = false)) (hT6 : Hid (decide (at? s z = some 35) = true)) (HSS : Hid (skip s z = z)) (hR1 : Hid (starts s z [35, 82, 101, 102] = true)) (hR2 : Hid (starts s (skip s (z + 4)) [60] = true)) :
    Calls Tryz.prog 92 #[.pointer (some ⟨b, 0, none⟩)] w (ParseR b s w (ident s 3 z (skip s (z + 4) + 1))) := by
  have HT := Lib.hid ht; clear ht
  have hbw := hr.lt
  have hz4 : z + 4 ≤ s.size := by have := starts_le (Nat.le_of_lt hz) hR1.out; simpa using this
  have hz5 : skip s (z + 4) + 1 ≤ s.size := by have := starts_le (skip_le hz4) hR2.out; simpa using this
  have hcall := fun w' (h1 : Rd b s (skip s (z + 4) + 1) w') (h2 : Tabs w') => ident_calls b s 3 (.inl rfl) z (skip s (z + 4) + 1) w' h1 hz5 (by omega) h2 hb
  generalize ident s 3 z (skip s (z + 4) + 1) = R at hcall ⊢
  go_enter Tryz.func92, Tryz.ntmps92
  go_wp2_with fail
  refine (blanks_calls b s p w hr hp (by omega)).mono ?_
  rw [HSK.out]
  rintro e w1 ⟨rfl, hr1, hm1⟩
  have HM1 := Lib.hid hm1; clear hm1
  go_wp2_with fail
  refine (next_calls b _).mono ?_
  rintro e w2 ⟨rfl, rfl⟩
  have HS0 := Lib.hid (St.init hr1 HM1.out)
  have c1 := HS0.out.rd.c1
  have c0 := HS0.out.rd.c0
  go_wp2_with fail
  refine (here_calls b s z 34 _ HS0.out.rd (Nat.le_of_lt hz) (by omega)).mono ?_
  rw [hT1.out]
  rintro e v1 ⟨rfl, hr, hm⟩
  have HS1 := Lib.hid (HS0.out.step hr hm); clear hr hm
  clear c0 c1
  go_wp2_with fail
  refine (here_calls b s z 45 _ HS1.out.rd (Nat.le_of_lt hz) (by omega)).mono ?_
  rw [hT2.out]
  rintro e v2 ⟨rfl, hr, hm⟩
  have HS2 := Lib.hid (HS1.out.step hr hm); clear hr hm
  have c0 := HS2.out.rd.c0
  go_wp2_with fail
  have hDC := digit_calls s[z] v2
  rw [(hT3 hz).out] at hDC
  refine hDC.mono ?_
  rintro e v3 ⟨rfl, hvv⟩
  subst hvv
  have HS3 := HS2
  clear c0 hDC
  go_wp2_with fail
  refine (next1_no b _ s ⟨#[60, 60]⟩ z _ HS3.out.rd (Nat.le_of_lt hz) (by omega) HS3.out.cell (hT4.out)).mono ?_
  rintro e v4 ⟨rfl, hr, hm⟩
  have HS4 := Lib.hid (HS3.out.step hr hm); clear hr hm
  go_wp2_with fail
  refine (next1_no b _ s ⟨#[60]⟩ z _ HS4.out.rd (Nat.le_of_lt hz) (by omega) HS4.out.cell (hT5.out)).mono ?_
  rintro e v5 ⟨rfl, hr, hm⟩
  have HS5 := Lib.hid (HS4.out.step hr hm); clear hr hm
  go_wp2_with fail
  refine (here_calls b s z 35 _ HS5.out.rd (Nat.le_of_lt hz) (by omega)).mono ?_
  rw [hT6.out]
  rintro e v6 ⟨rfl, hr, hm⟩
  have HS6 := Lib.hid (HS5.out.step hr hm); clear hr hm
  go_wp2_with fail
  refine (want_yes b s ⟨#[35, 82, 101, 102]⟩ z _ HS6.out.rd (Nat.le_of_lt hz) (by omega) (by rw [HSS.out]; exact hR1.out)).mono ?_
  rw [HSS.out]
  rintro e w9 ⟨rfl, hr9, hm9⟩
  have HS9 := Lib.hid (HS6.out.step hr9 hm9); clear hr9 hm9
  go_wp2_with fail
  refine (want_yes b s ⟨#[60]⟩ (z + 4) _ HS9.out.rd hz4 (by omega) hR2.out).mono ?_
  rintro e w10 ⟨rfl, hr10, hm10⟩
  have HS10 := Lib.hid (HS9.out.step hr10 hm10); clear hr10 hm10
  go_wp2_with fail
  refine (hcall _ HS10.out.rd (HT.out.mv HS10.out.mv hb)).mono ?_
  clear hcall
  cases R with
  | bad e a =>
    rintro e' w9 ⟨rfl, hm9⟩
    have HE := Lib.hid (HS10.out.mv.trans hm9); clear hm9
    go_wp2
    exact ⟨rfl, rfl, HE.out⟩
  | ok t q =>
    rintro e' w9 ⟨x, rfl, ho9, hr9, hm9⟩
    have HE := Lib.hid (And.intro (OwnT.mono ho9 HS10.out.mv.size) (And.intro hr9 (HS10.out.mv.trans hm9))); clear ho9 hr9 hm9
    go_wp2
    go_ret
    exact ⟨_, rfl, HE.out⟩
set_option maxHeartbeats 2000000 in
set_option maxRecDepth 100000 in
theorem term_tuple (b : Nat) (s : ByteArray) (p z : Nat) (w : World) (hr : Rd b s p w) (hp : p ≤ s.size) (hs : s.size ≤ 68719476736) (ht : Tabs w) (hb : ng ≤ b) (HSK : Hid (skip s p = z)) (hz : z < s.size) (hT1 : Hid (decide (at? s z = some 34) = false)) (hT2 : Hid (decide (at? s z = some 45) = false)) (hT3 : ∀ h : z < s.size, Hid (digitB s[z] = false)) (hT4 : Hid (starts s z [60, 60] = false)) (hT5 : Hid (starts s z [60] = false)) (hT6 : Hid (decide (at? s z = some 35) = false)) (hT7 : Hid (starts s z [123] = true)) (R : PR (List Cl)) (hcall : ∀ w', Rd b s (z + 1) w' → Tabs w' → Calls Tryz.prog 135 #[.pointer (some ⟨b, 0, none⟩)] w' (ParseR b s w' R)) :
    Calls Tryz.prog 92 #[.pointer (some ⟨b, 0, none⟩)] w (ParseR b s w R) := by
  have HT := Lib.hid ht; clear ht
  have hbw := hr.lt
  go_enter Tryz.func92, Tryz.ntmps92
  go_wp2_with fail
  refine (blanks_calls b s p w hr hp (by omega)).mono ?_
  rw [HSK.out]
  rintro e w1 ⟨rfl, hr1, hm1⟩
  have HM1 := Lib.hid hm1; clear hm1
  go_wp2_with fail
  refine (next_calls b _).mono ?_
  rintro e w2 ⟨rfl, rfl⟩
  have HS0 := Lib.hid (St.init hr1 HM1.out)
  have c1 := HS0.out.rd.c1
  have c0 := HS0.out.rd.c0
  go_wp2_with fail
  refine (here_calls b s z 34 _ HS0.out.rd (Nat.le_of_lt hz) (by omega)).mono ?_
  rw [hT1.out]
  rintro e v1 ⟨rfl, hr, hm⟩
  have HS1 := Lib.hid (HS0.out.step hr hm); clear hr hm
  clear c0 c1
  go_wp2_with fail
  refine (here_calls b s z 45 _ HS1.out.rd (Nat.le_of_lt hz) (by omega)).mono ?_
  rw [hT2.out]
  rintro e v2 ⟨rfl, hr, hm⟩
  have HS2 := Lib.hid (HS1.out.step hr hm); clear hr hm
  have c0 := HS2.out.rd.c0
  go_wp2_with fail
  have hDC := digit_calls s[z] v2
  rw [(hT3 hz).out] at hDC
  refine hDC.mono ?_
  rintro e v3 ⟨rfl, hvv⟩
  subst hvv
  have HS3 := HS2
  clear c0 hDC
  go_wp2_with fail
  refine (next1_no b _ s ⟨#[60, 60]⟩ z _ HS3.out.rd (Nat.le_of_lt hz) (by omega) HS3.out.cell (hT4.out)).mono ?_
  rintro e v4 ⟨rfl, hr, hm⟩
  have HS4 := Lib.hid (HS3.out.step hr hm); clear hr hm
  go_wp2_with fail
  refine (next1_no b _ s ⟨#[60]⟩ z _ HS4.out.rd (Nat.le_of_lt hz) (by omega) HS4.out.cell (hT5.out)).mono ?_
  rintro e v5 ⟨rfl, hr, hm⟩
  have HS5 := Lib.hid (HS4.out.step hr hm); clear hr hm
  go_wp2_with fail
  refine (here_calls b s z 35 _ HS5.out.rd (Nat.le_of_lt hz) (by omega)).mono ?_
  rw [hT6.out]
  rintro e v6 ⟨rfl, hr, hm⟩
  have HS6 := Lib.hid (HS5.out.step hr hm); clear hr hm
  go_wp2_with fail
  refine (next1_yes b _ s ⟨#[123]⟩ z _ HS6.out.rd (Nat.le_of_lt hz) (by omega) HS6.out.cell (hT7.out)).mono ?_
  rintro e v7 ⟨rfl, hr, hm⟩
  have HS7 := Lib.hid (HS6.out.step hr hm); clear hr hm
  go_wp2_with fail
  refine (hcall _ HS7.out.rd (HT.out.mv HS7.out.mv hb)).mono ?_
  clear hcall
  cases R with
  | bad e a =>
    rintro e' w9 ⟨rfl, hm9⟩
    have HE := Lib.hid (HS7.out.mv.trans hm9); clear hm9
    go_wp2
    exact ⟨rfl, rfl, HE.out⟩
  | ok t q =>
    rintro e' w9 ⟨x, rfl, ho9, hr9, hm9⟩
    have HE := Lib.hid (And.intro (OwnT.mono ho9 HS7.out.mv.size) (And.intro hr9 (HS7.out.mv.trans hm9))); clear ho9 hr9 hm9
    go_wp2
    go_ret
    exact ⟨_, rfl, HE.out⟩
set_option maxHeartbeats 2000000 in
set_option maxRecDepth 100000 in
theorem term_list (b : Nat) (s : ByteArray) (p z : Nat) (w : World) (hr : Rd b s p w) (hp : p ≤ s.size) (hs : s.size ≤ 68719476736) (ht : Tabs w) (hb : ng ≤ b) (HSK : Hid (skip s p = z)) (hz : z < s.size) (hT1 : Hid (decide (at? s z = some 34) = false)) (hT2 : Hid (decide (at? s z = some 45) = false)) (hT3 : ∀ h : z < s.size, Hid (digitB s[z] = false)) (hT4 : Hid (starts s z [60, 60] = false)) (hT5 : Hid (starts s z [60] = false)) (hT6 : Hid (decide (at? s z = some 35) = false)) (hT7 : Hid (starts s z [123] = false)) (hT8 : Hid (starts s z [91] = true)) (R : PR (List Cl)) (hcall : ∀ w', Rd b s (z + 1) w' → Tabs w' → Calls Tryz.prog 136 #[.pointer (some ⟨b, 0, none⟩)] w' (ParseR b s w' R)) :
    Calls Tryz.prog 92 #[.pointer (some ⟨b, 0, none⟩)] w (ParseR b s w R) := by
  have HT := Lib.hid ht; clear ht
  have hbw := hr.lt
  go_enter Tryz.func92, Tryz.ntmps92
  go_wp2_with fail
  refine (blanks_calls b s p w hr hp (by omega)).mono ?_
  rw [HSK.out]
  rintro e w1 ⟨rfl, hr1, hm1⟩
  have HM1 := Lib.hid hm1; clear hm1
  go_wp2_with fail
  refine (next_calls b _).mono ?_
  rintro e w2 ⟨rfl, rfl⟩
  have HS0 := Lib.hid (St.init hr1 HM1.out)
  have c1 := HS0.out.rd.c1
  have c0 := HS0.out.rd.c0
  go_wp2_with fail
  refine (here_calls b s z 34 _ HS0.out.rd (Nat.le_of_lt hz) (by omega)).mono ?_
  rw [hT1.out]
  rintro e v1 ⟨rfl, hr, hm⟩
  have HS1 := Lib.hid (HS0.out.step hr hm); clear hr hm
  clear c0 c1
  go_wp2_with fail
  refine (here_calls b s z 45 _ HS1.out.rd (Nat.le_of_lt hz) (by omega)).mono ?_
  rw [hT2.out]
  rintro e v2 ⟨rfl, hr, hm⟩
  have HS2 := Lib.hid (HS1.out.step hr hm); clear hr hm
  have c0 := HS2.out.rd.c0
  go_wp2_with fail
  have hDC := digit_calls s[z] v2
  rw [(hT3 hz).out] at hDC
  refine hDC.mono ?_
  rintro e v3 ⟨rfl, hvv⟩
  subst hvv
  have HS3 := HS2
  clear c0 hDC
  go_wp2_with fail
  refine (next1_no b _ s ⟨#[60, 60]⟩ z _ HS3.out.rd (Nat.le_of_lt hz) (by omega) HS3.out.cell (hT4.out)).mono ?_
  rintro e v4 ⟨rfl, hr, hm⟩
  have HS4 := Lib.hid (HS3.out.step hr hm); clear hr hm
  go_wp2_with fail
  refine (next1_no b _ s ⟨#[60]⟩ z _ HS4.out.rd (Nat.le_of_lt hz) (by omega) HS4.out.cell (hT5.out)).mono ?_
  rintro e v5 ⟨rfl, hr, hm⟩
  have HS5 := Lib.hid (HS4.out.step hr hm); clear hr hm
  go_wp2_with fail
  refine (here_calls b s z 35 _ HS5.out.rd (Nat.le_of_lt hz) (by omega)).mono ?_
  rw [hT6.out]
  rintro e v6 ⟨rfl, hr, hm⟩
  have HS6 := Lib.hid (HS5.out.step hr hm); clear hr hm
  go_wp2_with fail
  refine (next1_no b _ s ⟨#[123]⟩ z _ HS6.out.rd (Nat.le_of_lt hz) (by omega) HS6.out.cell (hT7.out)).mono ?_
  rintro e v7 ⟨rfl, hr, hm⟩
  have HS7 := Lib.hid (HS6.out.step hr hm); clear hr hm
  go_wp2_with fail
  refine (next1_yes b _ s ⟨#[91]⟩ z _ HS7.out.rd (Nat.le_of_lt hz) (by omega) HS7.out.cell (hT8.out)).mono ?_
  rintro e v8 ⟨rfl, hr, hm⟩
  have HS8 := Lib.hid (HS7.out.step hr hm); clear hr hm
  go_wp2_with fail
  refine (hcall _ HS8.out.rd (HT.out.mv HS8.out.mv hb)).mono ?_
  clear hcall
  cases R with
  | bad e a =>
    rintro e' w9 ⟨rfl, hm9⟩
    have HE := Lib.hid (HS8.out.mv.trans hm9); clear hm9
    go_wp2
    exact ⟨rfl, rfl, HE.out⟩
  | ok t q =>
    rintro e' w9 ⟨x, rfl, ho9, hr9, hm9⟩
    have HE := Lib.hid (And.intro (OwnT.mono ho9 HS8.out.mv.size) (And.intro hr9 (HS8.out.mv.trans hm9))); clear ho9 hr9 hm9
    go_wp2
    go_ret
    exact ⟨_, rfl, HE.out⟩
set_option maxHeartbeats 2000000 in
set_option maxRecDepth 100000 in
theorem term_atom (b : Nat) (s : ByteArray) (p z : Nat) (w : World) (hr : Rd b s p w) (hp : p ≤ s.size) (hs : s.size ≤ 68719476736) (ht : Tabs w) (hb : ng ≤ b) (HSK : Hid (skip s p = z)) (hz : z < s.size) (hT1 : Hid (decide (at? s z = some 34) = false)) (hT2 : Hid (decide (at? s z = some 45) = false)) (hT3 : ∀ h : z < s.size, Hid (digitB s[z] = false)) (hT4 : Hid (starts s z [60, 60] = false)) (hT5 : Hid (starts s z [60] = false)) (hT6 : Hid (decide (at? s z = some 35) = false)) (hT7 : Hid (starts s z [123] = false)) (hT8 : Hid (starts s z [91] = false)) (R : PR ByteArray) (hcall : ∀ w', Tabs w' → Calls Tryz.prog 137 #[.string s, .int .i64 (z : Int)] w' (ScanR w' R)) (he : Hid (∀ e a, R = .bad e a → e ≠ 0)) :
    Calls Tryz.prog 92 #[.pointer (some ⟨b, 0, none⟩)] w (ParseR b s w (match (generalizing := false) R with | .bad e _ => .bad e z | .ok b r => .ok [⟨2, 0, b⟩] r)) := by
  have HT := Lib.hid ht; clear ht
  have hbw := hr.lt
  go_enter Tryz.func92, Tryz.ntmps92
  go_wp2_with fail
  refine (blanks_calls b s p w hr hp (by omega)).mono ?_
  rw [HSK.out]
  rintro e w1 ⟨rfl, hr1, hm1⟩
  have HM1 := Lib.hid hm1; clear hm1
  go_wp2_with fail
  refine (next_calls b _).mono ?_
  rintro e w2 ⟨rfl, rfl⟩
  have HS0 := Lib.hid (St.init hr1 HM1.out)
  have c1 := HS0.out.rd.c1
  have c0 := HS0.out.rd.c0
  go_wp2_with fail
  refine (here_calls b s z 34 _ HS0.out.rd (Nat.le_of_lt hz) (by omega)).mono ?_
  rw [hT1.out]
  rintro e v1 ⟨rfl, hr, hm⟩
  have HS1 := Lib.hid (HS0.out.step hr hm); clear hr hm
  clear c0 c1
  go_wp2_with fail
  refine (here_calls b s z 45 _ HS1.out.rd (Nat.le_of_lt hz) (by omega)).mono ?_
  rw [hT2.out]
  rintro e v2 ⟨rfl, hr, hm⟩
  have HS2 := Lib.hid (HS1.out.step hr hm); clear hr hm
  have c0 := HS2.out.rd.c0
  go_wp2_with fail
  have hDC := digit_calls s[z] v2
  rw [(hT3 hz).out] at hDC
  refine hDC.mono ?_
  rintro e v3 ⟨rfl, hvv⟩
  subst hvv
  have HS3 := HS2
  clear c0 hDC
  go_wp2_with fail
  refine (next1_no b _ s ⟨#[60, 60]⟩ z _ HS3.out.rd (Nat.le_of_lt hz) (by omega) HS3.out.cell (hT4.out)).mono ?_
  rintro e v4 ⟨rfl, hr, hm⟩
  have HS4 := Lib.hid (HS3.out.step hr hm); clear hr hm
  go_wp2_with fail
  refine (next1_no b _ s ⟨#[60]⟩ z _ HS4.out.rd (Nat.le_of_lt hz) (by omega) HS4.out.cell (hT5.out)).mono ?_
  rintro e v5 ⟨rfl, hr, hm⟩
  have HS5 := Lib.hid (HS4.out.step hr hm); clear hr hm
  go_wp2_with fail
  refine (here_calls b s z 35 _ HS5.out.rd (Nat.le_of_lt hz) (by omega)).mono ?_
  rw [hT6.out]
  rintro e v6 ⟨rfl, hr, hm⟩
  have HS6 := Lib.hid (HS5.out.step hr hm); clear hr hm
  go_wp2_with fail
  refine (next1_no b _ s ⟨#[123]⟩ z _ HS6.out.rd (Nat.le_of_lt hz) (by omega) HS6.out.cell (hT7.out)).mono ?_
  rintro e v7 ⟨rfl, hr, hm⟩
  have HS7 := Lib.hid (HS6.out.step hr hm); clear hr hm
  go_wp2_with fail
  refine (next1_no b _ s ⟨#[91]⟩ z _ HS7.out.rd (Nat.le_of_lt hz) (by omega) HS7.out.cell (hT8.out)).mono ?_
  rintro e v8 ⟨rfl, hr, hm⟩
  have HS8 := Lib.hid (HS7.out.step hr hm); clear hr hm
  have c0 := HS8.out.rd.c0
  go_wp2_with fail
  refine (hcall _ (HT.out.mv HS8.out.mv hb)).mono ?_
  cases R with
  | bad e a =>
    have hne := he.out e a rfl
    have hne2 : (e != 0) = true := by simpa using hne
    clear hne
    rintro e' w9 ⟨rfl, hb9⟩
    have HE := Lib.hid (HS8.out.mv.trans (Mv.of_below hb9)); clear hb9
    go_wp2_with fail
    refine (fail_calls _ _ _ _).mono ?_
    rintro e w6 ⟨rfl, rfl⟩
    go_wp2
    exact ⟨rfl, rfl, HE.out⟩
  | ok t q =>
    rintro e' w9 ⟨rfl, hb9⟩
    have HR9 := Lib.hid (HS8.out.rd.below hb9)
    have HE := Lib.hid (HS8.out.mv.trans (Mv.of_below hb9)); clear hb9
    have d1 := HR9.out.c1
    have g1 := HR9.out.f1
    go_wp2
    go_ret
    have hsz : (w9.setCell ⟨b, 1, none⟩ (.int .i64 (q : Int))).heap.size = w9.heap.size := by simp [World.setCell]
    have hone := OwnT.one (w9.setCell ⟨b, 1, none⟩ (.int .i64 (q : Int))) ⟨2, 0, t⟩ w.heap.size (by rw [hsz]; exact HE.out.size)
    rw [hsz] at hone
    exact ⟨_, rfl, hone, (HR9.out.go 0 q _ rfl).alloc _, (HE.out.setAt 1 _).alloc _⟩
end Go.Proofs.YtejpdfenejbjdaaGreatDoor
