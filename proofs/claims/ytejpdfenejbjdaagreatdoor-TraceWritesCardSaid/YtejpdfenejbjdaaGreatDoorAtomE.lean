/- Walks: the reader of atoms in quotes: what stands behind a backslash, the whole. -/
import Derived.Test.YtejpdfenejbjdaaGreatDoorAtomD
import Derived.Test.YtejpdfenejbjdaaGreatDoorWord
import Derived.Lib.TrimUEq
import Derived.Lib.ValidU
namespace Go.Proofs.YtejpdfenejbjdaaGreatDoor
open Go.RowKit Txt
set_option linter.unusedVariables false
set_option linter.unusedSimpArgs false

theorem decode_one (s : ByteArray) (p : Nat) (h : (Utf8.decode s p).2 = 1) : (Utf8.decode s p).1 < 128 ∨ (Utf8.decode s p).1 = 65533 := by
  unfold Utf8.decode at h ⊢
  simp only at h ⊢
  split
  · left; assumption
  · rename_i h0
    rw [if_neg h0] at h
    split
    · rename_i h1; rw [if_pos h1] at h
      split
      · rename_i h2; rw [if_pos h2] at h; cases h
      · right; rfl
    · rename_i h1; rw [if_neg h1] at h
      split
      · rename_i h2; rw [if_pos h2] at h
        split
        · rename_i h3; rw [if_pos h3] at h; cases h
        · right; rfl
      · rename_i h2; rw [if_neg h2] at h
        split
        · rename_i h3; rw [if_pos h3] at h
          split
          · rename_i h4; rw [if_pos h4] at h; cases h
          · right; rfl
        · right; rfl

theorem dec_calls (s : ByteArray) (p r n : Nat) (w : World) (ht : Tabs w) (hp : p < s.size) (hd : Utf8.decode s p = (r, n)) :
    Calls Tryz.prog 174 #[.string (s.extract p s.size)] w fun e w' => e = .returned (.tuple #[.int .i32 (r : Int), .int .i64 (n : Int)]) ∧ Below w.heap.size w w' := by
  have := Tryz.utf8_DecodeRuneInString (s.extract p s.size) w ht.u8
  rw [decodeGo_at s p hp, hd] at this
  exact this
theorem dec_end (w : World) (ht : Tabs w) :
    Calls Tryz.prog 174 #[.string .empty] w fun e w' => e = .returned (.tuple #[.int .i32 65533, .int .i64 0]) ∧ Below w.heap.size w w' :=
  Tryz.utf8_DecodeRuneInString .empty w ht.u8
theorem AR.bw {b : Nat} {s : ByteArray} {x : AS} {w : World} (h : AR b s x w) : b < w.heap.size := h.bu.lt
theorem decode_in (s : ByteArray) (p : Nat) (h : p < s.size) : p + (Utf8.decode s p).2 ≤ s.size := by
  unfold Utf8.decode
  simp only
  split
  · simp; omega
  · split
    · rename_i h1
      simp only [Bool.and_eq_true, decide_eq_true_eq] at h1
      split <;> simp <;> omega
    · split
      · rename_i h1
        simp only [Bool.and_eq_true, decide_eq_true_eq] at h1
        split <;> simp <;> omega
      · split
        · rename_i h1
          simp only [Bool.and_eq_true, decide_eq_true_eq] at h1
          split <;> simp <;> omega
        · simp; omega

set_option maxHeartbeats 2000000 in
set_option maxRecDepth 100000 in
theorem special_end (b : Nat) (s : ByteArray) (x : AS) (w : World) (h : AR b s x w) (hl : x.out.length ≤ 1099511627776) (hs : s.size ≤ 1099511627776) (ht : Tabs w) (hb : ng ≤ b) (hp : x.p = s.size) :
    Calls Tryz.prog 213 #[.pointer (some ⟨b, 0, none⟩)] w (AStep b s w none) := by
  have HA := Lib.hid h; clear h
  have HT := Lib.hid ht; clear ht
  go_enter Tryz.func213, Tryz.ntmps213
  go_wp2_with fail
  refine Seg.wp_region_seg [9] (by kernel_rfl) (by kernel_rfl) (by kernel_rfl) ?_
  simp only [Seg.wpSeg, Nat.sub_zero, Nat.reduceAdd, Nat.reduceSub, List.take_succ_cons, List.take_zero, List.drop_succ_cons, List.drop_zero]
  have HA1 := Lib.hid HA.out.drew
  have HT1 := Lib.hid (HT.out.drewN 1)
  have HB1 := Lib.hid ((Below.refl b w).drew)
  have hw1 : w.drewN 1 = w.drew := rfl
  rw [hw1] at HT1
  clear hw1
  generalize w.drew = w1 at *
  have c0 := HA1.out.c0
  have c1 := HA1.out.c1
  rw [hp] at c1
  repeat (go_big_quiet_step (fail))
  refine wpQuiet_nil ?_
  rintro _ ⟨nq, rfl⟩ K hK
  have HK := Lib.hid hK; clear hK
  go_wp2_with fail
  refine (dec_end _ (HT1.out.drewN _)).mono ?_
  rintro e w2 ⟨rfl, hb2⟩
  have HA2 := Lib.hid (AR.below (HA1.out.drewN nq) hb2)
  have HT2 := Lib.hid (Tabs.below (HT1.out.drewN nq) hb2)
  have HB2 := Lib.hid ((below_drewN HB1.out nq).trans (hb2.mono (Nat.le_of_lt (HA1.out.drewN nq).bw))); clear hb2
  clear c0 c1
  go_wp2_with fail
  refine HK.out _ _ ?_
  repeat (go_big_quiet_step (fail))
  refine wpQuiet_nil ?_
  rintro _ ⟨nq2, rfl⟩
  clear HK
  go_wp2
  go_ret
  exact ⟨rfl, ⟨_, HA2.out.drewN _⟩, below_drewN HB2.out _⟩
set_option maxHeartbeats 2000000 in
set_option maxRecDepth 100000 in
theorem special_bad (b : Nat) (s : ByteArray) (x : AS) (w : World) (h : AR b s x w) (hl : x.out.length ≤ 1099511627776) (hs : s.size ≤ 1099511627776) (ht : Tabs w) (hb : ng ≤ b) (r n : Nat) (hp : x.p < s.size) (hd : Utf8.decode s x.p = (r, n)) (hr : r = 65533) (hn : n < 2) :
    Calls Tryz.prog 213 #[.pointer (some ⟨b, 0, none⟩)] w (AStep b s w none) := by
  have HA := Lib.hid h; clear h
  have HT := Lib.hid ht; clear ht
  have hr1 : ((r : Int) == 65533) = true := by rw [hr]; rfl
  have HD := Lib.hid hd; clear hd
  clear hr
  go_enter Tryz.func213, Tryz.ntmps213
  go_wp2_with fail
  refine Seg.wp_region_seg [9] (by kernel_rfl) (by kernel_rfl) (by kernel_rfl) ?_
  simp only [Seg.wpSeg, Nat.sub_zero, Nat.reduceAdd, Nat.reduceSub, List.take_succ_cons, List.take_zero, List.drop_succ_cons, List.drop_zero]
  have HA1 := Lib.hid HA.out.drew
  have HT1 := Lib.hid (HT.out.drewN 1)
  have HB1 := Lib.hid ((Below.refl b w).drew)
  have hw1 : w.drewN 1 = w.drew := rfl
  rw [hw1] at HT1
  clear hw1
  generalize w.drew = w1 at *
  have c0 := HA1.out.c0
  have c1 := HA1.out.c1
  repeat (go_big_quiet_step (fail))
  refine wpQuiet_nil ?_
  rintro _ ⟨nq, rfl⟩ K hK
  have HK := Lib.hid hK; clear hK
  go_wp2_with fail
  refine (dec_calls s x.p r n _ (HT1.out.drewN _) hp HD.out).mono ?_
  rintro e w2 ⟨rfl, hb2⟩
  have HA2 := Lib.hid (AR.below (HA1.out.drewN nq) hb2)
  have HT2 := Lib.hid (Tabs.below (HT1.out.drewN nq) hb2)
  have HB2 := Lib.hid ((below_drewN HB1.out nq).trans (hb2.mono (Nat.le_of_lt (HA1.out.drewN nq).bw))); clear hb2
  clear c0 c1
  go_wp2_with fail
  refine HK.out _ _ ?_
  repeat (go_big_quiet_step (fail))
  refine wpQuiet_nil ?_
  rintro _ ⟨nq2, rfl⟩
  clear HK
  go_wp2
  go_ret
  exact ⟨rfl, ⟨_, HA2.out.drewN _⟩, below_drewN HB2.out _⟩
set_option maxHeartbeats 2000000 in
set_option maxRecDepth 100000 in
theorem special_x (b : Nat) (s : ByteArray) (x : AS) (w : World) (h : AR b s x w) (hl : x.out.length ≤ 1099511627776) (hs : s.size ≤ 1099511627776) (ht : Tabs w) (hb : ng ≤ b) (r n : Nat) (hp : x.p < s.size) (hd : Utf8.decode s x.p = (r, n)) (hr : r = 120) :
    Calls Tryz.prog 213 #[.pointer (some ⟨b, 0, none⟩)] w (AStep b s w (hexA s { x with p := x.p + 1 })) := by
  have HA := Lib.hid h; clear h
  have HT := Lib.hid ht; clear ht
  have e65533 : ((r : Int) == 65533) = false := by rw [hr]; rfl
  have e120 : ((r : Int) == 120) = true := by rw [hr]; rfl
  have e94 : ((r : Int) == 94) = false := by rw [hr]; rfl
  have HD := Lib.hid hd; clear hd hr
  go_enter Tryz.func213, Tryz.ntmps213
  go_wp2_with fail
  refine Seg.wp_region_seg [9] (by kernel_rfl) (by kernel_rfl) (by kernel_rfl) ?_
  simp only [Seg.wpSeg, Nat.sub_zero, Nat.reduceAdd, Nat.reduceSub, List.take_succ_cons, List.take_zero, List.drop_succ_cons, List.drop_zero]
  have HA1 := Lib.hid HA.out.drew
  have HT1 := Lib.hid (HT.out.drewN 1)
  have HB1 := Lib.hid ((Below.refl b w).drew)
  have hw1 : w.drewN 1 = w.drew := rfl
  rw [hw1] at HT1
  clear hw1
  generalize w.drew = w1 at *
  have c0 := HA1.out.c0
  have c1 := HA1.out.c1
  repeat (go_big_quiet_step (fail))
  refine wpQuiet_nil ?_
  rintro _ ⟨nq, rfl⟩ K hK
  have HK := Lib.hid hK; clear hK
  go_wp2_with fail
  refine (dec_calls s x.p r n _ (HT1.out.drewN _) hp HD.out).mono ?_
  rintro e w2 ⟨rfl, hb2⟩
  have HA2 := Lib.hid (AR.below (HA1.out.drewN nq) hb2)
  have HT2 := Lib.hid (Tabs.below (HT1.out.drewN nq) hb2)
  have HB2 := Lib.hid ((below_drewN HB1.out nq).trans (hb2.mono (Nat.le_of_lt (HA1.out.drewN nq).bw))); clear hb2
  clear c0 c1
  go_wp2_with fail
  refine HK.out _ _ ?_
  repeat (go_big_quiet_step (fail))
  refine wpQuiet_nil ?_
  rintro _ ⟨nq2, rfl⟩
  clear HK
  have hA := HA2.out.c1
  have hF := HA2.out.f1
  go_wp2_with fail
  refine (hex_calls b s { x with p := x.p + 1 } _ ((HA2.out.drewN _).setp (x.p + 1) _ (by omega)) hl (by simp; omega) hs).mono ?_
  generalize hexA s { x with p := x.p + 1 } = R at *
  cases R
  all_goals
    rintro e w3 ⟨rfl, h3⟩
    have HE := Lib.hid (And.intro h3.1 (((below_drewN HB2.out _).setCell (p := ⟨b, 1, none⟩) (Nat.le_refl b) (.int .i64 ((x.p : Int) + 1))).trans h3.2)); clear h3
    go_wp2
    go_ret
    exact ⟨rfl, HE.out⟩
set_option maxHeartbeats 2000000 in
set_option maxRecDepth 100000 in
theorem special_ctl (b : Nat) (s : ByteArray) (x : AS) (w : World) (h : AR b s x w) (hl : x.out.length ≤ 1099511627776) (hs : s.size ≤ 1099511627776) (ht : Tabs w) (hb : ng ≤ b) (r n : Nat) (hp : x.p < s.size) (hd : Utf8.decode s x.p = (r, n)) (hr : r = 94) :
    Calls Tryz.prog 213 #[.pointer (some ⟨b, 0, none⟩)] w (AStep b s w (controlA s { x with p := x.p + 1 })) := by
  have HA := Lib.hid h; clear h
  have HT := Lib.hid ht; clear ht
  have e65533 : ((r : Int) == 65533) = false := by rw [hr]; rfl
  have e120 : ((r : Int) == 120) = false := by rw [hr]; rfl
  have e94 : ((r : Int) == 94) = true := by rw [hr]; rfl
  have HD := Lib.hid hd; clear hd hr
  go_enter Tryz.func213, Tryz.ntmps213
  go_wp2_with fail
  refine Seg.wp_region_seg [9] (by kernel_rfl) (by kernel_rfl) (by kernel_rfl) ?_
  simp only [Seg.wpSeg, Nat.sub_zero, Nat.reduceAdd, Nat.reduceSub, List.take_succ_cons, List.take_zero, List.drop_succ_cons, List.drop_zero]
  have HA1 := Lib.hid HA.out.drew
  have HT1 := Lib.hid (HT.out.drewN 1)
  have HB1 := Lib.hid ((Below.refl b w).drew)
  have hw1 : w.drewN 1 = w.drew := rfl
  rw [hw1] at HT1
  clear hw1
  generalize w.drew = w1 at *
  have c0 := HA1.out.c0
  have c1 := HA1.out.c1
  repeat (go_big_quiet_step (fail))
  refine wpQuiet_nil ?_
  rintro _ ⟨nq, rfl⟩ K hK
  have HK := Lib.hid hK; clear hK
  go_wp2_with fail
  refine (dec_calls s x.p r n _ (HT1.out.drewN _) hp HD.out).mono ?_
  rintro e w2 ⟨rfl, hb2⟩
  have HA2 := Lib.hid (AR.below (HA1.out.drewN nq) hb2)
  have HT2 := Lib.hid (Tabs.below (HT1.out.drewN nq) hb2)
  have HB2 := Lib.hid ((below_drewN HB1.out nq).trans (hb2.mono (Nat.le_of_lt (HA1.out.drewN nq).bw))); clear hb2
  clear c0 c1
  go_wp2_with fail
  refine HK.out _ _ ?_
  repeat (go_big_quiet_step (fail))
  refine wpQuiet_nil ?_
  rintro _ ⟨nq2, rfl⟩
  clear HK
  have hA := HA2.out.c1
  have hF := HA2.out.f1
  go_wp2_with fail
  refine (control_calls b s { x with p := x.p + 1 } _ ((HA2.out.drewN _).setp (x.p + 1) _ (by omega)) hl (by simp; omega) hs).mono ?_
  generalize controlA s { x with p := x.p + 1 } = R at *
  cases R
  all_goals
    rintro e w3 ⟨rfl, h3⟩
    have HE := Lib.hid (And.intro h3.1 (((below_drewN HB2.out _).setCell (p := ⟨b, 1, none⟩) (Nat.le_refl b) (.int .i64 ((x.p : Int) + 1))).trans h3.2)); clear h3
    go_wp2
    go_ret
    exact ⟨rfl, HE.out⟩
set_option maxHeartbeats 2000000 in
set_option maxRecDepth 100000 in
theorem special_oct (b : Nat) (s : ByteArray) (x : AS) (w : World) (h : AR b s x w) (hl : x.out.length ≤ 1099511627776) (hs : s.size ≤ 1099511627776) (ht : Tabs w) (hb : ng ≤ b) (r n : Nat) (hp : x.p < s.size) (hd : Utf8.decode s x.p = (r, n)) (hr : 48 ≤ r) (hr2 : r ≤ 55) :
    Calls Tryz.prog 213 #[.pointer (some ⟨b, 0, none⟩)] w (AStep b s w (digitsA s x 8 1 3)) := by
  have HA := Lib.hid h; clear h
  have HT := Lib.hid ht; clear ht
  have e65533 : ((r : Int) == 65533) = false := by rw [beq_eq_false_iff_ne]; omega
  have e120 : ((r : Int) == 120) = false := by rw [beq_eq_false_iff_ne]; omega
  have e94 : ((r : Int) == 94) = false := by rw [beq_eq_false_iff_ne]; omega
  have HD := Lib.hid hd; clear hd
  go_enter Tryz.func213, Tryz.ntmps213
  go_wp2_with fail
  refine Seg.wp_region_seg [9] (by kernel_rfl) (by kernel_rfl) (by kernel_rfl) ?_
  simp only [Seg.wpSeg, Nat.sub_zero, Nat.reduceAdd, Nat.reduceSub, List.take_succ_cons, List.take_zero, List.drop_succ_cons, List.drop_zero]
  have HA1 := Lib.hid HA.out.drew
  have HT1 := Lib.hid (HT.out.drewN 1)
  have HB1 := Lib.hid ((Below.refl b w).drew)
  have hw1 : w.drewN 1 = w.drew := rfl
  rw [hw1] at HT1
  clear hw1
  generalize w.drew = w1 at *
  have c0 := HA1.out.c0
  have c1 := HA1.out.c1
  repeat (go_big_quiet_step (fail))
  refine wpQuiet_nil ?_
  rintro _ ⟨nq, rfl⟩ K hK
  have HK := Lib.hid hK; clear hK
  go_wp2_with fail
  refine (dec_calls s x.p r n _ (HT1.out.drewN _) hp HD.out).mono ?_
  rintro e w2 ⟨rfl, hb2⟩
  have HA2 := Lib.hid (AR.below (HA1.out.drewN nq) hb2)
  have HT2 := Lib.hid (Tabs.below (HT1.out.drewN nq) hb2)
  have HB2 := Lib.hid ((below_drewN HB1.out nq).trans (hb2.mono (Nat.le_of_lt (HA1.out.drewN nq).bw))); clear hb2
  clear c0 c1
  go_wp2_with fail
  refine HK.out _ _ ?_
  repeat (go_big_quiet_step (fail))
  refine wpQuiet_nil ?_
  rintro _ ⟨nq2, rfl⟩
  clear HK
  go_wp2_with fail
  refine (digitsA_calls b s x 8 1 3 _ (HA2.out.drewN _) hl (by omega) hs (by omega) (by omega) (by omega)).mono ?_
  generalize digitsA s x 8 1 3 = R at *
  cases R
  all_goals
    rintro e w3 ⟨rfl, h3⟩
    have HE := Lib.hid (And.intro h3.1 ((below_drewN HB2.out _).trans h3.2)); clear h3
    go_wp2
    go_ret
    exact ⟨rfl, HE.out⟩
set_option maxHeartbeats 2000000 in
set_option maxRecDepth 100000 in
theorem special_wide_err (b : Nat) (s : ByteArray) (x : AS) (w : World) (h : AR b s x w) (hl : x.out.length ≤ 1099511627776) (hs : s.size ≤ 1099511627776) (ht : Tabs w) (hb : ng ≤ b) (r n : Nat) (hp : x.p < s.size) (hd : Utf8.decode s x.p = (r, n)) (hr : r = 65533) (hn : 2 ≤ n) :
    Calls Tryz.prog 213 #[.pointer (some ⟨b, 0, none⟩)] w (AStep b s w (some { x with p := x.p + n, out := x.out ++ (Utf8.encode (r : Int)).data.toList })) := by
  have HA := Lib.hid h; clear h
  have HT := Lib.hid ht; clear ht
  have e65533 : ((r : Int) == 65533) = true := by rw [hr]; rfl
  have hlo : 48 ≤ r := by omega
  have hhi : 55 < r := by omega
  have e120 : ((r : Int) == 120) = false := by rw [beq_eq_false_iff_ne]; omega
  have e94 : ((r : Int) == 94) = false := by rw [beq_eq_false_iff_ne]; omega
  have en1 : ((n : Int) == 1) = false := by rw [beq_eq_false_iff_ne]; omega
  have hrl : r ≤ 2147483647 := by have := decode_le s x.p; rw [hd] at this; exact this
  have hn4 : n ≤ 4 := by have := decode_size s x.p; rw [hd] at this; exact this
  have HD := Lib.hid hd; clear hd
  try clear hr
  try clear hr2
  try clear hr3
  go_enter Tryz.func213, Tryz.ntmps213
  go_wp2_with fail
  refine Seg.wp_region_seg [9] (by kernel_rfl) (by kernel_rfl) (by kernel_rfl) ?_
  simp only [Seg.wpSeg, Nat.sub_zero, Nat.reduceAdd, Nat.reduceSub, List.take_succ_cons, List.take_zero, List.drop_succ_cons, List.drop_zero]
  have HA1 := Lib.hid HA.out.drew
  have HT1 := Lib.hid (HT.out.drewN 1)
  have HB1 := Lib.hid ((Below.refl b w).drew)
  have hw1 : w.drewN 1 = w.drew := rfl
  rw [hw1] at HT1
  clear hw1
  generalize w.drew = w1 at *
  have c0 := HA1.out.c0
  have c1 := HA1.out.c1
  repeat (go_big_quiet_step (fail))
  refine wpQuiet_nil ?_
  rintro _ ⟨nq, rfl⟩ K hK
  have HK := Lib.hid hK; clear hK
  go_wp2_with fail
  refine (dec_calls s x.p r n _ (HT1.out.drewN _) hp HD.out).mono ?_
  rintro e w2 ⟨rfl, hb2⟩
  have HA2 := Lib.hid (AR.below (HA1.out.drewN nq) hb2)
  have HT2 := Lib.hid (Tabs.below (HT1.out.drewN nq) hb2)
  have HB2 := Lib.hid ((below_drewN HB1.out nq).trans (hb2.mono (Nat.le_of_lt (HA1.out.drewN nq).bw))); clear hb2
  clear c0 c1
  go_wp2_with fail
  refine HK.out _ _ ?_
  repeat (go_big_quiet_step (fail))
  refine wpQuiet_nil ?_
  rintro _ ⟨nq2, rfl⟩
  clear HK
  have hA := HA2.out.c1
  have hF := HA2.out.f1
  go_wp2_with fail
  refine (writeRune_calls _ _ b 2 bt_reader x.out r (by omega) _ (((HA2.out.drewN _).setp (x.p + n) _ (by omega)).bu) hl).mono ?_
  rintro e w3 ⟨⟨k, rfl⟩, hb3, hw3⟩
  have HE := Lib.hid (And.intro (AR.wrote ((HA2.out.drewN _).setp (x.p + n) ((x.p : Int) + (n : Int)) (by omega)) hb3 hw3) (((below_drewN HB2.out _).setCell (p := ⟨b, 1, none⟩) (Nat.le_refl b) (.int .i64 ((x.p : Int) + (n : Int)))).trans hw3.below)); clear hb3 hw3
  go_wp2
  go_ret
  exact ⟨rfl, HE.out⟩
set_option maxHeartbeats 2000000 in
set_option maxRecDepth 100000 in
theorem special_wide_hi (b : Nat) (s : ByteArray) (x : AS) (w : World) (h : AR b s x w) (hl : x.out.length ≤ 1099511627776) (hs : s.size ≤ 1099511627776) (ht : Tabs w) (hb : ng ≤ b) (r n : Nat) (hp : x.p < s.size) (hd : Utf8.decode s x.p = (r, n)) (hr : r ≠ 65533) (hn : 2 ≤ n) (hr2 : r ≠ 120) (hr3 : r ≠ 94) (hlo : 48 ≤ r) (hhi : 55 < r) :
    Calls Tryz.prog 213 #[.pointer (some ⟨b, 0, none⟩)] w (AStep b s w (some { x with p := x.p + n, out := x.out ++ (Utf8.encode (r : Int)).data.toList })) := by
  have HA := Lib.hid h; clear h
  have HT := Lib.hid ht; clear ht
  have e65533 : ((r : Int) == 65533) = false := by rw [beq_eq_false_iff_ne]; omega
  have e120 : ((r : Int) == 120) = false := by rw [beq_eq_false_iff_ne]; omega
  have e94 : ((r : Int) == 94) = false := by rw [beq_eq_false_iff_ne]; omega
  have en1 : ((n : Int) == 1) = false := by rw [beq_eq_false_iff_ne]; omega
  have hrl : r ≤ 2147483647 := by have := decode_le s x.p; rw [hd] at this; exact this
  have hn4 : n ≤ 4 := by have := decode_size s x.p; rw [hd] at this; exact this
  have HD := Lib.hid hd; clear hd
  try clear hr
  try clear hr2
  try clear hr3
  go_enter Tryz.func213, Tryz.ntmps213
  go_wp2_with fail
  refine Seg.wp_region_seg [9] (by kernel_rfl) (by kernel_rfl) (by kernel_rfl) ?_
  simp only [Seg.wpSeg, Nat.sub_zero, Nat.reduceAdd, Nat.reduceSub, List.take_succ_cons, List.take_zero, List.drop_succ_cons, List.drop_zero]
  have HA1 := Lib.hid HA.out.drew
  have HT1 := Lib.hid (HT.out.drewN 1)
  have HB1 := Lib.hid ((Below.refl b w).drew)
  have hw1 : w.drewN 1 = w.drew := rfl
  rw [hw1] at HT1
  clear hw1
  generalize w.drew = w1 at *
  have c0 := HA1.out.c0
  have c1 := HA1.out.c1
  repeat (go_big_quiet_step (fail))
  refine wpQuiet_nil ?_
  rintro _ ⟨nq, rfl⟩ K hK
  have HK := Lib.hid hK; clear hK
  go_wp2_with fail
  refine (dec_calls s x.p r n _ (HT1.out.drewN _) hp HD.out).mono ?_
  rintro e w2 ⟨rfl, hb2⟩
  have HA2 := Lib.hid (AR.below (HA1.out.drewN nq) hb2)
  have HT2 := Lib.hid (Tabs.below (HT1.out.drewN nq) hb2)
  have HB2 := Lib.hid ((below_drewN HB1.out nq).trans (hb2.mono (Nat.le_of_lt (HA1.out.drewN nq).bw))); clear hb2
  clear c0 c1
  go_wp2_with fail
  refine HK.out _ _ ?_
  repeat (go_big_quiet_step (fail))
  refine wpQuiet_nil ?_
  rintro _ ⟨nq2, rfl⟩
  clear HK
  have hA := HA2.out.c1
  have hF := HA2.out.f1
  go_wp2_with fail
  refine (writeRune_calls _ _ b 2 bt_reader x.out r (by omega) _ (((HA2.out.drewN _).setp (x.p + n) _ (by omega)).bu) hl).mono ?_
  rintro e w3 ⟨⟨k, rfl⟩, hb3, hw3⟩
  have HE := Lib.hid (And.intro (AR.wrote ((HA2.out.drewN _).setp (x.p + n) ((x.p : Int) + (n : Int)) (by omega)) hb3 hw3) (((below_drewN HB2.out _).setCell (p := ⟨b, 1, none⟩) (Nat.le_refl b) (.int .i64 ((x.p : Int) + (n : Int)))).trans hw3.below)); clear hb3 hw3
  go_wp2
  go_ret
  exact ⟨rfl, HE.out⟩
set_option maxHeartbeats 2000000 in
set_option maxRecDepth 100000 in
theorem special_wide_lo (b : Nat) (s : ByteArray) (x : AS) (w : World) (h : AR b s x w) (hl : x.out.length ≤ 1099511627776) (hs : s.size ≤ 1099511627776) (ht : Tabs w) (hb : ng ≤ b) (r n : Nat) (hp : x.p < s.size) (hd : Utf8.decode s x.p = (r, n)) (hr : r ≠ 65533) (hn : 2 ≤ n) (hr2 : r ≠ 120) (hr3 : r ≠ 94) (hlo : r < 48) :
    Calls Tryz.prog 213 #[.pointer (some ⟨b, 0, none⟩)] w (AStep b s w (some { x with p := x.p + n, out := x.out ++ (Utf8.encode (r : Int)).data.toList })) := by
  have HA := Lib.hid h; clear h
  have HT := Lib.hid ht; clear ht
  have e65533 : ((r : Int) == 65533) = false := by rw [beq_eq_false_iff_ne]; omega
  have e120 : ((r : Int) == 120) = false := by rw [beq_eq_false_iff_ne]; omega
  have e94 : ((r : Int) == 94) = false := by rw [beq_eq_false_iff_ne]; omega
  have en1 : ((n : Int) == 1) = false := by rw [beq_eq_false_iff_ne]; omega
  have hrl : r ≤ 2147483647 := by have := decode_le s x.p; rw [hd] at this; exact this
  have hn4 : n ≤ 4 := by have := decode_size s x.p; rw [hd] at this; exact this
  have HD := Lib.hid hd; clear hd
  try clear hr
  try clear hr2
  try clear hr3
  go_enter Tryz.func213, Tryz.ntmps213
  go_wp2_with fail
  refine Seg.wp_region_seg [9] (by kernel_rfl) (by kernel_rfl) (by kernel_rfl) ?_
  simp only [Seg.wpSeg, Nat.sub_zero, Nat.reduceAdd, Nat.reduceSub, List.take_succ_cons, List.take_zero, List.drop_succ_cons, List.drop_zero]
  have HA1 := Lib.hid HA.out.drew
  have HT1 := Lib.hid (HT.out.drewN 1)
  have HB1 := Lib.hid ((Below.refl b w).drew)
  have hw1 : w.drewN 1 = w.drew := rfl
  rw [hw1] at HT1
  clear hw1
  generalize w.drew = w1 at *
  have c0 := HA1.out.c0
  have c1 := HA1.out.c1
  repeat (go_big_quiet_step (fail))
  refine wpQuiet_nil ?_
  rintro _ ⟨nq, rfl⟩ K hK
  have HK := Lib.hid hK; clear hK
  go_wp2_with fail
  refine (dec_calls s x.p r n _ (HT1.out.drewN _) hp HD.out).mono ?_
  rintro e w2 ⟨rfl, hb2⟩
  have HA2 := Lib.hid (AR.below (HA1.out.drewN nq) hb2)
  have HT2 := Lib.hid (Tabs.below (HT1.out.drewN nq) hb2)
  have HB2 := Lib.hid ((below_drewN HB1.out nq).trans (hb2.mono (Nat.le_of_lt (HA1.out.drewN nq).bw))); clear hb2
  clear c0 c1
  go_wp2_with fail
  refine HK.out _ _ ?_
  repeat (go_big_quiet_step (fail))
  refine wpQuiet_nil ?_
  rintro _ ⟨nq2, rfl⟩
  clear HK
  have hA := HA2.out.c1
  have hF := HA2.out.f1
  go_wp2_with fail
  refine (writeRune_calls _ _ b 2 bt_reader x.out r (by omega) _ (((HA2.out.drewN _).setp (x.p + n) _ (by omega)).bu) hl).mono ?_
  rintro e w3 ⟨⟨k, rfl⟩, hb3, hw3⟩
  have HE := Lib.hid (And.intro (AR.wrote ((HA2.out.drewN _).setp (x.p + n) ((x.p : Int) + (n : Int)) (by omega)) hb3 hw3) (((below_drewN HB2.out _).setCell (p := ⟨b, 1, none⟩) (Nat.le_refl b) (.int .i64 ((x.p : Int) + (n : Int)))).trans hw3.below)); clear hb3 hw3
  go_wp2
  go_ret
  exact ⟨rfl, HE.out⟩
set_option maxHeartbeats 2000000 in
set_option maxRecDepth 100000 in
theorem special_one_hi_some (b : Nat) (s : ByteArray) (x : AS) (w : World) (h : AR b s x w) (hl : x.out.length ≤ 1099511627776) (hs : s.size ≤ 1099511627776) (ht : Tabs w) (hb : ng ≤ b) (r n : Nat) (hp : x.p < s.size) (hd : Utf8.decode s x.p = (r, n)) (hn : n = 1) (hr : r < 128) (hr2 : r ≠ 120) (hr3 : r ≠ 94) (hlo : 48 ≤ r) (hhi : 55 < r) (u : Nat) (hu : unescape r = some u) (hub : u < 128) :
    Calls Tryz.prog 213 #[.pointer (some ⟨b, 0, none⟩)] w (AStep b s w (some { x with p := x.p + n, out := x.out ++ (Utf8.encode (u : Int)).data.toList })) := by
  have HA := Lib.hid h; clear h
  have HT := Lib.hid ht; clear ht
  have e65533 : ((r : Int) == 65533) = false := by rw [beq_eq_false_iff_ne]; omega
  have e120 : ((r : Int) == 120) = false := by rw [beq_eq_false_iff_ne]; omega
  have e94 : ((r : Int) == 94) = false := by rw [beq_eq_false_iff_ne]; omega
  have en1 : ((n : Int) == 1) = true := by rw [hn]; rfl
  have hn1 : n ≤ 4 := by omega
  have hw8 : IntKind.u8.wrap (r : Int) = (r : Int) := IntWalk.u8_in _ (by omega)
  have huc := fun W => unescape_calls r (by omega) W
  unfold unRes at huc
  rw [hu] at huc
  have HU := Lib.hid huc; clear huc hu
  have HD := Lib.hid hd; clear hd
  clear hr2 hr3 hn
  go_enter Tryz.func213, Tryz.ntmps213
  go_wp2_with fail
  refine Seg.wp_region_seg [9] (by kernel_rfl) (by kernel_rfl) (by kernel_rfl) ?_
  simp only [Seg.wpSeg, Nat.sub_zero, Nat.reduceAdd, Nat.reduceSub, List.take_succ_cons, List.take_zero, List.drop_succ_cons, List.drop_zero]
  have HA1 := Lib.hid HA.out.drew
  have HT1 := Lib.hid (HT.out.drewN 1)
  have HB1 := Lib.hid ((Below.refl b w).drew)
  have hw1 : w.drewN 1 = w.drew := rfl
  rw [hw1] at HT1
  clear hw1
  generalize w.drew = w1 at *
  have c0 := HA1.out.c0
  have c1 := HA1.out.c1
  repeat (go_big_quiet_step (fail))
  refine wpQuiet_nil ?_
  rintro _ ⟨nq, rfl⟩ K hK
  have HK := Lib.hid hK; clear hK
  go_wp2_with fail
  refine (dec_calls s x.p r n _ (HT1.out.drewN _) hp HD.out).mono ?_
  rintro e w2 ⟨rfl, hb2⟩
  have HA2 := Lib.hid (AR.below (HA1.out.drewN nq) hb2)
  have HT2 := Lib.hid (Tabs.below (HT1.out.drewN nq) hb2)
  have HB2 := Lib.hid ((below_drewN HB1.out nq).trans (hb2.mono (Nat.le_of_lt (HA1.out.drewN nq).bw))); clear hb2
  clear c0 c1
  go_wp2_with fail
  refine HK.out _ _ ?_
  repeat (go_big_quiet_step (fail))
  refine wpQuiet_nil ?_
  rintro _ ⟨nq2, rfl⟩
  clear HK
  have hA := HA2.out.c1
  have hF := HA2.out.f1
  go_wp2_with fail
  refine (HU.out _).mono ?_
  rintro e w3 ⟨rfl, rfl⟩
  go_wp2_with fail
  refine (writeRune_calls _ _ b 2 bt_reader x.out u (by omega) _ (((HA2.out.drewN _).setp (x.p + n) _ (by omega)).bu) hl).mono ?_
  rintro e w3 ⟨⟨k, rfl⟩, hb3, hw3⟩
  have HE := Lib.hid (And.intro (AR.wrote ((HA2.out.drewN _).setp (x.p + n) ((x.p : Int) + (n : Int)) (by omega)) hb3 hw3) (((below_drewN HB2.out _).setCell (p := ⟨b, 1, none⟩) (Nat.le_refl b) (.int .i64 ((x.p : Int) + (n : Int)))).trans hw3.below)); clear hb3 hw3
  go_wp2
  go_ret
  exact ⟨rfl, HE.out⟩
set_option maxHeartbeats 2000000 in
set_option maxRecDepth 100000 in
theorem special_one_hi_none (b : Nat) (s : ByteArray) (x : AS) (w : World) (h : AR b s x w) (hl : x.out.length ≤ 1099511627776) (hs : s.size ≤ 1099511627776) (ht : Tabs w) (hb : ng ≤ b) (r n : Nat) (hp : x.p < s.size) (hd : Utf8.decode s x.p = (r, n)) (hn : n = 1) (hr : r < 128) (hr2 : r ≠ 120) (hr3 : r ≠ 94) (hlo : 48 ≤ r) (hhi : 55 < r) (hu : unescape r = none) :
    Calls Tryz.prog 213 #[.pointer (some ⟨b, 0, none⟩)] w (AStep b s w (some { x with p := x.p + n, out := x.out ++ (Utf8.encode (r : Int)).data.toList })) := by
  have HA := Lib.hid h; clear h
  have HT := Lib.hid ht; clear ht
  have e65533 : ((r : Int) == 65533) = false := by rw [beq_eq_false_iff_ne]; omega
  have e120 : ((r : Int) == 120) = false := by rw [beq_eq_false_iff_ne]; omega
  have e94 : ((r : Int) == 94) = false := by rw [beq_eq_false_iff_ne]; omega
  have en1 : ((n : Int) == 1) = true := by rw [hn]; rfl
  have hn1 : n ≤ 4 := by omega
  have hw8 : IntKind.u8.wrap (r : Int) = (r : Int) := IntWalk.u8_in _ (by omega)
  have huc := fun W => unescape_calls r (by omega) W
  unfold unRes at huc
  rw [hu] at huc
  have HU := Lib.hid huc; clear huc hu
  have HD := Lib.hid hd; clear hd
  clear hr2 hr3 hn
  go_enter Tryz.func213, Tryz.ntmps213
  go_wp2_with fail
  refine Seg.wp_region_seg [9] (by kernel_rfl) (by kernel_rfl) (by kernel_rfl) ?_
  simp only [Seg.wpSeg, Nat.sub_zero, Nat.reduceAdd, Nat.reduceSub, List.take_succ_cons, List.take_zero, List.drop_succ_cons, List.drop_zero]
  have HA1 := Lib.hid HA.out.drew
  have HT1 := Lib.hid (HT.out.drewN 1)
  have HB1 := Lib.hid ((Below.refl b w).drew)
  have hw1 : w.drewN 1 = w.drew := rfl
  rw [hw1] at HT1
  clear hw1
  generalize w.drew = w1 at *
  have c0 := HA1.out.c0
  have c1 := HA1.out.c1
  repeat (go_big_quiet_step (fail))
  refine wpQuiet_nil ?_
  rintro _ ⟨nq, rfl⟩ K hK
  have HK := Lib.hid hK; clear hK
  go_wp2_with fail
  refine (dec_calls s x.p r n _ (HT1.out.drewN _) hp HD.out).mono ?_
  rintro e w2 ⟨rfl, hb2⟩
  have HA2 := Lib.hid (AR.below (HA1.out.drewN nq) hb2)
  have HT2 := Lib.hid (Tabs.below (HT1.out.drewN nq) hb2)
  have HB2 := Lib.hid ((below_drewN HB1.out nq).trans (hb2.mono (Nat.le_of_lt (HA1.out.drewN nq).bw))); clear hb2
  clear c0 c1
  go_wp2_with fail
  refine HK.out _ _ ?_
  repeat (go_big_quiet_step (fail))
  refine wpQuiet_nil ?_
  rintro _ ⟨nq2, rfl⟩
  clear HK
  have hA := HA2.out.c1
  have hF := HA2.out.f1
  go_wp2_with fail
  refine (HU.out _).mono ?_
  rintro e w3 ⟨rfl, rfl⟩
  go_wp2_with fail
  refine (writeRune_calls _ _ b 2 bt_reader x.out r (by omega) _ (((HA2.out.drewN _).setp (x.p + n) _ (by omega)).bu) hl).mono ?_
  rintro e w3 ⟨⟨k, rfl⟩, hb3, hw3⟩
  have HE := Lib.hid (And.intro (AR.wrote ((HA2.out.drewN _).setp (x.p + n) ((x.p : Int) + (n : Int)) (by omega)) hb3 hw3) (((below_drewN HB2.out _).setCell (p := ⟨b, 1, none⟩) (Nat.le_refl b) (.int .i64 ((x.p : Int) + (n : Int)))).trans hw3.below)); clear hb3 hw3
  go_wp2
  go_ret
  exact ⟨rfl, HE.out⟩
set_option maxHeartbeats 2000000 in
set_option maxRecDepth 100000 in
theorem special_one_lo_some (b : Nat) (s : ByteArray) (x : AS) (w : World) (h : AR b s x w) (hl : x.out.length ≤ 1099511627776) (hs : s.size ≤ 1099511627776) (ht : Tabs w) (hb : ng ≤ b) (r n : Nat) (hp : x.p < s.size) (hd : Utf8.decode s x.p = (r, n)) (hn : n = 1) (hr : r < 128) (hr2 : r ≠ 120) (hr3 : r ≠ 94) (hlo : r < 48) (u : Nat) (hu : unescape r = some u) (hub : u < 128) :
    Calls Tryz.prog 213 #[.pointer (some ⟨b, 0, none⟩)] w (AStep b s w (some { x with p := x.p + n, out := x.out ++ (Utf8.encode (u : Int)).data.toList })) := by
  have HA := Lib.hid h; clear h
  have HT := Lib.hid ht; clear ht
  have e65533 : ((r : Int) == 65533) = false := by rw [beq_eq_false_iff_ne]; omega
  have e120 : ((r : Int) == 120) = false := by rw [beq_eq_false_iff_ne]; omega
  have e94 : ((r : Int) == 94) = false := by rw [beq_eq_false_iff_ne]; omega
  have en1 : ((n : Int) == 1) = true := by rw [hn]; rfl
  have hn1 : n ≤ 4 := by omega
  have hw8 : IntKind.u8.wrap (r : Int) = (r : Int) := IntWalk.u8_in _ (by omega)
  have huc := fun W => unescape_calls r (by omega) W
  unfold unRes at huc
  rw [hu] at huc
  have HU := Lib.hid huc; clear huc hu
  have HD := Lib.hid hd; clear hd
  clear hr2 hr3 hn
  go_enter Tryz.func213, Tryz.ntmps213
  go_wp2_with fail
  refine Seg.wp_region_seg [9] (by kernel_rfl) (by kernel_rfl) (by kernel_rfl) ?_
  simp only [Seg.wpSeg, Nat.sub_zero, Nat.reduceAdd, Nat.reduceSub, List.take_succ_cons, List.take_zero, List.drop_succ_cons, List.drop_zero]
  have HA1 := Lib.hid HA.out.drew
  have HT1 := Lib.hid (HT.out.drewN 1)
  have HB1 := Lib.hid ((Below.refl b w).drew)
  have hw1 : w.drewN 1 = w.drew := rfl
  rw [hw1] at HT1
  clear hw1
  generalize w.drew = w1 at *
  have c0 := HA1.out.c0
  have c1 := HA1.out.c1
  repeat (go_big_quiet_step (fail))
  refine wpQuiet_nil ?_
  rintro _ ⟨nq, rfl⟩ K hK
  have HK := Lib.hid hK; clear hK
  go_wp2_with fail
  refine (dec_calls s x.p r n _ (HT1.out.drewN _) hp HD.out).mono ?_
  rintro e w2 ⟨rfl, hb2⟩
  have HA2 := Lib.hid (AR.below (HA1.out.drewN nq) hb2)
  have HT2 := Lib.hid (Tabs.below (HT1.out.drewN nq) hb2)
  have HB2 := Lib.hid ((below_drewN HB1.out nq).trans (hb2.mono (Nat.le_of_lt (HA1.out.drewN nq).bw))); clear hb2
  clear c0 c1
  go_wp2_with fail
  refine HK.out _ _ ?_
  repeat (go_big_quiet_step (fail))
  refine wpQuiet_nil ?_
  rintro _ ⟨nq2, rfl⟩
  clear HK
  have hA := HA2.out.c1
  have hF := HA2.out.f1
  go_wp2_with fail
  refine (HU.out _).mono ?_
  rintro e w3 ⟨rfl, rfl⟩
  go_wp2_with fail
  refine (writeRune_calls _ _ b 2 bt_reader x.out u (by omega) _ (((HA2.out.drewN _).setp (x.p + n) _ (by omega)).bu) hl).mono ?_
  rintro e w3 ⟨⟨k, rfl⟩, hb3, hw3⟩
  have HE := Lib.hid (And.intro (AR.wrote ((HA2.out.drewN _).setp (x.p + n) ((x.p : Int) + (n : Int)) (by omega)) hb3 hw3) (((below_drewN HB2.out _).setCell (p := ⟨b, 1, none⟩) (Nat.le_refl b) (.int .i64 ((x.p : Int) + (n : Int)))).trans hw3.below)); clear hb3 hw3
  go_wp2
  go_ret
  exact ⟨rfl, HE.out⟩
set_option maxHeartbeats 2000000 in
set_option maxRecDepth 100000 in
theorem special_one_lo_none (b : Nat) (s : ByteArray) (x : AS) (w : World) (h : AR b s x w) (hl : x.out.length ≤ 1099511627776) (hs : s.size ≤ 1099511627776) (ht : Tabs w) (hb : ng ≤ b) (r n : Nat) (hp : x.p < s.size) (hd : Utf8.decode s x.p = (r, n)) (hn : n = 1) (hr : r < 128) (hr2 : r ≠ 120) (hr3 : r ≠ 94) (hlo : r < 48) (hu : unescape r = none) :
    Calls Tryz.prog 213 #[.pointer (some ⟨b, 0, none⟩)] w (AStep b s w (some { x with p := x.p + n, out := x.out ++ (Utf8.encode (r : Int)).data.toList })) := by
  have HA := Lib.hid h; clear h
  have HT := Lib.hid ht; clear ht
  have e65533 : ((r : Int) == 65533) = false := by rw [beq_eq_false_iff_ne]; omega
  have e120 : ((r : Int) == 120) = false := by rw [beq_eq_false_iff_ne]; omega
  have e94 : ((r : Int) == 94) = false := by rw [beq_eq_false_iff_ne]; omega
  have en1 : ((n : Int) == 1) = true := by rw [hn]; rfl
  have hn1 : n ≤ 4 := by omega
  have hw8 : IntKind.u8.wrap (r : Int) = (r : Int) := IntWalk.u8_in _ (by omega)
  have huc := fun W => unescape_calls r (by omega) W
  unfold unRes at huc
  rw [hu] at huc
  have HU := Lib.hid huc; clear huc hu
  have HD := Lib.hid hd; clear hd
  clear hr2 hr3 hn
  go_enter Tryz.func213, Tryz.ntmps213
  go_wp2_with fail
  refine Seg.wp_region_seg [9] (by kernel_rfl) (by kernel_rfl) (by kernel_rfl) ?_
  simp only [Seg.wpSeg, Nat.sub_zero, Nat.reduceAdd, Nat.reduceSub, List.take_succ_cons, List.take_zero, List.drop_succ_cons, List.drop_zero]
  have HA1 := Lib.hid HA.out.drew
  have HT1 := Lib.hid (HT.out.drewN 1)
  have HB1 := Lib.hid ((Below.refl b w).drew)
  have hw1 : w.drewN 1 = w.drew := rfl
  rw [hw1] at HT1
  clear hw1
  generalize w.drew = w1 at *
  have c0 := HA1.out.c0
  have c1 := HA1.out.c1
  repeat (go_big_quiet_step (fail))
  refine wpQuiet_nil ?_
  rintro _ ⟨nq, rfl⟩ K hK
  have HK := Lib.hid hK; clear hK
  go_wp2_with fail
  refine (dec_calls s x.p r n _ (HT1.out.drewN _) hp HD.out).mono ?_
  rintro e w2 ⟨rfl, hb2⟩
  have HA2 := Lib.hid (AR.below (HA1.out.drewN nq) hb2)
  have HT2 := Lib.hid (Tabs.below (HT1.out.drewN nq) hb2)
  have HB2 := Lib.hid ((below_drewN HB1.out nq).trans (hb2.mono (Nat.le_of_lt (HA1.out.drewN nq).bw))); clear hb2
  clear c0 c1
  go_wp2_with fail
  refine HK.out _ _ ?_
  repeat (go_big_quiet_step (fail))
  refine wpQuiet_nil ?_
  rintro _ ⟨nq2, rfl⟩
  clear HK
  have hA := HA2.out.c1
  have hF := HA2.out.f1
  go_wp2_with fail
  refine (HU.out _).mono ?_
  rintro e w3 ⟨rfl, rfl⟩
  go_wp2_with fail
  refine (writeRune_calls _ _ b 2 bt_reader x.out r (by omega) _ (((HA2.out.drewN _).setp (x.p + n) _ (by omega)).bu) hl).mono ?_
  rintro e w3 ⟨⟨k, rfl⟩, hb3, hw3⟩
  have HE := Lib.hid (And.intro (AR.wrote ((HA2.out.drewN _).setp (x.p + n) ((x.p : Int) + (n : Int)) (by omega)) hb3 hw3) (((below_drewN HB2.out _).setCell (p := ⟨b, 1, none⟩) (Nat.le_refl b) (.int .i64 ((x.p : Int) + (n : Int)))).trans hw3.below)); clear hb3 hw3
  go_wp2
  go_ret
  exact ⟨rfl, HE.out⟩

theorem unescape_lt {r u : Nat} (h : unescape r = some u) : u < 128 := by
  unfold unescape at h
  repeat' (split at h)
  all_goals first | (cases h; omega) | cases h
theorem special_calls (b : Nat) (s : ByteArray) (x : AS) (w : World) (h : AR b s x w) (hl : x.out.length ≤ 1099511627776) (hp : x.p ≤ s.size) (hs : s.size ≤ 1099511627776) (ht : Tabs w) (hb : ng ≤ b) :
    Calls Tryz.prog 213 #[.pointer (some ⟨b, 0, none⟩)] w (AStep b s w (specialA s x)) := by
  unfold specialA
  by_cases hlt : x.p < s.size
  · rw [if_pos hlt]
    have h1 := decode_one s x.p
    have hpos := width_pos s x.p hlt
    rcases hd : Utf8.decode s x.p with ⟨r, n⟩
    rw [hd] at h1 hpos
    simp only at h1 hpos ⊢
    by_cases hbad : r = 65533 ∧ n < 2
    · rw [if_pos hbad]; exact special_bad b s x w h hl hs ht hb r n hlt hd hbad.1 hbad.2
    rw [if_neg hbad]
    by_cases hx : r = 120
    · rw [if_pos hx]; exact special_x b s x w h hl hs ht hb r n hlt hd hx
    rw [if_neg hx]
    by_cases hc : r = 94
    · rw [if_pos hc]; exact special_ctl b s x w h hl hs ht hb r n hlt hd hc
    rw [if_neg hc]
    by_cases ho : 48 ≤ r ∧ r ≤ 55
    · rw [if_pos ho]; exact special_oct b s x w h hl hs ht hb r n hlt hd ho.1 ho.2
    rw [if_neg ho]
    by_cases hn : n = 1
    · rw [if_pos hn]
      have hr : r < 128 := by
        rcases h1 hn with h2 | h2
        · exact h2
        · exact absurd ⟨h2, by omega⟩ hbad
      cases hu : unescape r with
      | some u =>
        rw [Option.getD_some]
        rcases Nat.lt_or_ge r 48 with hlo | hlo
        · exact special_one_lo_some b s x w h hl hs ht hb r n hlt hd hn hr hx hc hlo u hu (unescape_lt hu)
        · exact special_one_hi_some b s x w h hl hs ht hb r n hlt hd hn hr hx hc hlo (by omega) u hu (unescape_lt hu)
      | none =>
        rw [Option.getD_none]
        rcases Nat.lt_or_ge r 48 with hlo | hlo
        · exact special_one_lo_none b s x w h hl hs ht hb r n hlt hd hn hr hx hc hlo hu
        · exact special_one_hi_none b s x w h hl hs ht hb r n hlt hd hn hr hx hc hlo (by omega) hu
    · rw [if_neg hn]
      by_cases he : r = 65533
      · exact special_wide_err b s x w h hl hs ht hb r n hlt hd he (by omega)
      · rcases Nat.lt_or_ge r 48 with hlo | hlo
        · exact special_wide_lo b s x w h hl hs ht hb r n hlt hd he (by omega) hx hc hlo
        · exact special_wide_hi b s x w h hl hs ht hb r n hlt hd he (by omega) hx hc hlo (by omega)
  · rw [if_neg hlt]; exact special_end b s x w h hl hs ht hb (by omega)
end Go.Proofs.YtejpdfenejbjdaaGreatDoor

namespace Go.Proofs.YtejpdfenejbjdaaGreatDoor
open Go.RowKit Txt
set_option linter.unusedVariables false
set_option linter.unusedSimpArgs false

theorem hexA_p {s : ByteArray} {x y : AS} (hx : x.p ≤ s.size) (h : hexA s x = some y) : x.p < y.p ∧ y.p ≤ s.size ∧ y.out.length ≤ x.out.length + 4 := by
  unfold hexA at h
  split at h
  · rename_i h1
    obtain ⟨hlt, -⟩ := at?_some h1
    cases hd : digitsA s { x with p := x.p + 1 } 16 1 s.size with
    | none => rw [hd] at h; cases h
    | some z =>
      rw [hd] at h
      have := digitsA_p (by simp; omega) (by omega) hd
      simp only at h this
      split at h
      · rename_i h2
        obtain ⟨hlt2, -⟩ := at?_some h2
        cases h; simp only; omega
      · cases h
  · have := digitsA_p hx (by omega) h; omega
theorem controlA_p {s : ByteArray} {x y : AS} (h : controlA s x = some y) : x.p < y.p ∧ y.p ≤ s.size ∧ y.out.length ≤ x.out.length + 4 := by
  unfold controlA at h
  cases ha : at? s x.p with
  | none => rw [ha] at h; cases h
  | some c =>
    obtain ⟨hlt, -⟩ := at?_some ha
    rw [ha] at h
    simp only at h
    generalize (if smallB c = true then c.toNat - 32 else c.toNat) = d at h
    split at h
    · cases h
    · cases h
      have := putA_out { x with p := x.p + 1 } (d - 64)
      rw [putA_p]; simp only at this ⊢; omega
theorem specialA_p {s : ByteArray} {x y : AS} (h : specialA s x = some y) : x.p < y.p ∧ y.p ≤ s.size ∧ y.out.length ≤ x.out.length + 4 := by
  unfold specialA at h
  split at h
  · rename_i hlt
    have hin := decode_in s x.p hlt
    have hpos := width_pos s x.p hlt
    simp only at h
    split at h
    · cases h
    · split at h
      · have := hexA_p (x := { x with p := x.p + 1 }) (by simp; omega) h; simp only at this; omega
      · split at h
        · have := controlA_p (x := { x with p := x.p + 1 }) h; simp only at this; omega
        · split at h
          · have := digitsA_p (by omega) (by omega) h; omega
          · cases h
            simp only [List.length_append]
            have := encode_le (if (Utf8.decode s x.p).2 = 1 then (unescape (Utf8.decode s x.p).1).getD (Utf8.decode s x.p).1 else (Utf8.decode s x.p).1)
            omega
  · cases h

/-- the invariant of the loop -/
def QInv (b : Nat) (s : ByteArray) (w : World) (R : Option AS) (wr : World) : Prop :=
  ∃ (y : AS) (k : Nat), y.p ≤ s.size ∧ y.out.length ≤ 4 * y.p ∧ s.size ≤ y.p + k ∧ quotedAF s k y = R ∧ AR b s y wr ∧ Below b w wr

set_option maxHeartbeats 4000000 in
set_option maxRecDepth 100000 in
theorem quotedA_calls (b : Nat) (s : ByteArray) (x : AS) (k : Nat) (w : World) (h : AR b s x w) (hl : x.out.length ≤ 4 * x.p) (hp : x.p ≤ s.size) (hs : s.size ≤ 68719476736) (ht : Tabs w) (hb : ng ≤ b) (hk : s.size ≤ x.p + k) :
    Calls Tryz.prog 191 #[.pointer (some ⟨b, 0, none⟩)] w (AStep b s w (quotedAF s k x)) := by
  generalize hR : quotedAF s k x = R
  have HR := Lib.hid hR; clear hR
  have HA0 := Lib.hid h; clear h
  have HT0 := Lib.hid ht; clear ht
  go_enter Tryz.func191, Tryz.ntmps191
  go_wp2_with fail
  go_loopw [3, 4] (fun _ _ wr => QInv b s w R wr) (fun _ _ wr => s.size - (intOf ((wr.cell? ⟨b, 1, none⟩).getD undef)).toNat)
  case atStart => exact ⟨x, k, hp, hl, hk, HR.out, HA0.out, Below.refl _ _⟩
  case round =>
    obtain ⟨y, k, hyp, hyl, hyk, hf, har, hbe⟩ := hrel
    have HF := Lib.hid hf; clear hf
    have HB := Lib.hid hbe; clear hbe
    have hTr : Tabs wr := HT0.out.keep HB.out.size (fun j hj => HB.out.block j (by omega))
    have HT := Lib.hid hTr; clear hTr
    have HA := Lib.hid har; clear har
    have c0 := HA.out.c0
    have c1 := HA.out.c1
    have f1 := HA.out.f1
    have HC1 := Lib.hid c1
    by_cases hlt : y.p < s.size
    · cases k with
      | zero => omega
      | succ k =>
      have hF := HF.out
      rw [quotedAF, if_pos hlt] at hF
      have hin := decode_in s y.p hlt
      have hpos := width_pos s y.p hlt
      have hrl := decode_le s y.p
      have hel := encode_le (Utf8.decode s y.p).1
      rcases hd : Utf8.decode s y.p with ⟨r, n⟩
      rw [hd] at hF hin hpos hrl hel
      simp only at hF hin hpos hrl hel
      have HD := Lib.hid hd; clear hd
      have HFF := Lib.hid hF; clear hF
      go_wp2_with fail
      go_quiet (fail)
      go_wp2_with fail
      clear c0 c1
      refine Seg.wp_region_seg [9] (by kernel_rfl) (by kernel_rfl) (by kernel_rfl) ?_
      simp only [Seg.wpSeg, Nat.sub_zero, Nat.reduceAdd, Nat.reduceSub, List.take_succ_cons, List.take_zero, List.drop_succ_cons, List.drop_zero]
      have HA1 := Lib.hid (HA.out.drewN nq).drew
      have HT1 := Lib.hid ((HT.out.drewN nq).drewN 1)
      have HB1 := Lib.hid (below_drewN HB.out nq).drew
      have hw1 : (wr.drewN nq).drewN 1 = (wr.drewN nq).drew := rfl
      rw [hw1] at HT1
      clear hw1
      generalize (wr.drewN nq).drew = w1 at *
      have c0 := HA1.out.c0
      have c1 := HA1.out.c1
      repeat (go_big_quiet_step (fail))
      refine wpQuiet_nil ?_
      rintro _ ⟨nq, rfl⟩ K hK
      have HK := Lib.hid hK; clear hK
      go_wp2_with fail
      refine (dec_calls s y.p r n _ (HT1.out.drewN _) hlt HD.out).mono ?_
      rintro e w2 ⟨rfl, hb2⟩
      have HA2 := Lib.hid (AR.below (HA1.out.drewN nq) hb2)
      have HT2 := Lib.hid (Tabs.below (HT1.out.drewN nq) hb2)
      have HB2 := Lib.hid ((below_drewN HB1.out nq).trans (hb2.mono (Nat.le_of_lt (HA1.out.drewN nq).bw))); clear hb2
      clear c0 c1
      go_wp2_with fail
      refine HK.out _ _ ?_
      repeat (go_big_quiet_step (fail))
      refine wpQuiet_nil ?_
      rintro _ ⟨nq2, rfl⟩
      clear HK
      have d0 := HA2.out.c0
      have d1 := HA2.out.c1
      have g1 := HA2.out.f1
      by_cases hbad : r = 65533 ∧ n < 2
      · obtain ⟨hr, hn⟩ := hbad
        have hRn : R = none := by rw [← HFF.out, if_pos ⟨hr, hn⟩]
        have e65533 : ((r : Int) == 65533) = true := by rw [hr]; rfl
        clear hr hrl hel hpos hin HFF HF HR
        subst hRn
        go_wp2
        go_ret
        exact ⟨rfl, ⟨_, HA2.out.drewN _⟩, below_drewN HB2.out _⟩
      have hF2 := HFF.out
      rw [if_neg hbad] at hF2
      have hAs := (HA2.out.drewN nq2).setp (y.p + n) ((y.p : Int) + (n : Int)) (by omega)
      have hBs := (below_drewN HB2.out nq2).setCell (p := ⟨b, 1, none⟩) (Nat.le_refl b) (.int .i64 ((y.p : Int) + (n : Int)))
      have HAs := Lib.hid hAs; clear hAs
      have HBs := Lib.hid hBs; clear hBs
      have hTs : Tabs ((w2.drewN nq2).setCell ⟨b, 1, none⟩ (.int .i64 ((y.p : Int) + (n : Int)))) := (HT2.out.drewN _).setCell _ _ hb
      have HTs := Lib.hid hTs; clear hTs
      clear HFF
      by_cases h39 : r = 39
      · have hRn : R = some { y with p := y.p + n } := by rw [← hF2, if_pos h39]
        have e65533 : ((r : Int) == 65533) = false := by rw [h39]; rfl
        have e39 : ((r : Int) == 39) = true := by rw [h39]; rfl
        clear h39 hF2 hbad
        subst hRn
        go_wp2
        go_ret
        exact ⟨rfl, HAs.out, HBs.out⟩
      rw [if_neg h39] at hF2
      by_cases h92 : r = 92
      · rw [if_pos h92] at hF2
        have e65533 : ((r : Int) == 65533) = false := by rw [h92]; rfl
        have e39 : ((r : Int) == 39) = false := by rw [h92]; rfl
        have e92 : ((r : Int) == 92) = true := by rw [h92]; rfl
        clear h92 h39 hbad
        have hcall := special_calls b s { y with p := y.p + n } _ HAs.out (by simp only; omega) (by simp only; omega) (by omega) HTs.out hb
        have hsp := fun z => specialA_p (s := s) (x := { y with p := y.p + n }) (y := z)
        generalize specialA s { y with p := y.p + n } = S at *
        cases S with
        | none =>
          simp only at hF2
          subst hF2
          have HCL := Lib.hid hcall; clear hcall hsp
          go_wp2_with fail
          refine (HCL.out).mono ?_
          rintro e w3 ⟨rfl, h3⟩
          have HE := Lib.hid (And.intro h3.1 (HBs.out.trans h3.2)); clear h3
          go_wp2
          go_ret
          exact ⟨rfl, HE.out⟩
        | some z =>
          simp only at hF2
          have HF3 := Lib.hid hF2; clear hF2
          have hz := hsp _ rfl
          have HCL := Lib.hid hcall; clear hcall hsp
          simp only at hz
          go_wp2_with fail
          refine (HCL.out).mono ?_
          rintro e w3 ⟨rfl, h3⟩
          have HE := Lib.hid (And.intro h3.1 (HBs.out.trans h3.2)); clear h3
          go_wp2
          go_roundw
          case rel => exact ⟨z, k, by omega, by omega, by omega, HF3.out, HE.out⟩
          case measure => rw [HE.out.1.c1, HC1.out]; simp [intOf]; omega
      · rw [if_neg h92] at hF2
        have HF3 := Lib.hid hF2; clear hF2
        have e39 : ((r : Int) == 39) = false := by rw [beq_eq_false_iff_ne]; omega
        have e92 : ((r : Int) == 92) = false := by rw [beq_eq_false_iff_ne]; omega
        clear h92 h39
        by_cases hr : r = 65533
        · have hn2 : 2 ≤ n := by omega
          have e65533 : ((r : Int) == 65533) = true := by rw [hr]; rfl
          have en2 : decide ((n : Int) < 2) = false := by simp; omega
          clear hbad hr
          have HRL := Lib.hid hrl; have HEL := Lib.hid hel; have HPS := Lib.hid hpos; have HYP := Lib.hid hyp; have HYL := Lib.hid hyl; have HYK := Lib.hid hyk; clear hrl hel hpos hyp hyl hyk
          go_wp2_with fail
          have hrl := HRL.out; have hel := HEL.out; have hpos := HPS.out; have hyp := HYP.out; have hyl := HYL.out; have hyk := HYK.out
          refine (writeRune_calls _ _ b 2 bt_reader y.out r (by omega) _ HAs.out.bu (by omega)).mono ?_
          rintro e w3 ⟨⟨kk, rfl⟩, hb3, hw3⟩
          have HE := Lib.hid (And.intro (AR.wrote HAs.out hb3 hw3) (HBs.out.trans hw3.below)); clear hb3 hw3
          go_wp2
          go_roundw
          case rel => exact ⟨_, k, by simp only; omega, by simp only [List.length_append]; omega, by simp only; omega, HF3.out, HE.out⟩
          case measure => rw [HE.out.1.c1, HC1.out]; simp [intOf]; omega
        · have e65533 : ((r : Int) == 65533) = false := by rw [beq_eq_false_iff_ne]; omega
          clear hbad hr
          go_wp2_with fail
          refine (writeRune_calls _ _ b 2 bt_reader y.out r (by omega) _ HAs.out.bu (by omega)).mono ?_
          rintro e w3 ⟨⟨kk, rfl⟩, hb3, hw3⟩
          have HE := Lib.hid (And.intro (AR.wrote HAs.out hb3 hw3) (HBs.out.trans hw3.below)); clear hb3 hw3
          go_wp2
          go_roundw
          case rel => exact ⟨_, k, by simp only; omega, by simp only [List.length_append]; omega, by simp only; omega, HF3.out, HE.out⟩
          case measure => rw [HE.out.1.c1, HC1.out]; simp [intOf]; omega
    · have hRn : R = none := by
        rw [← HF.out]
        cases k with
        | zero => rfl
        | succ k => rw [quotedAF, if_neg hlt]
      subst hRn
      go_wp2_with fail
      go_quiet (fail)
      go_wp2
      go_ret
      exact ⟨rfl, ⟨_, HA.out.drewN _⟩, below_drewN HB.out _⟩

theorem valid_spelled (s : ByteArray) : Lib.validD s.data.toList = spelled s := by
  have key : ∀ (k p : Nat), Lib.validGoD k (s.data.toList.drop p) = spelledF s k p := by
    intro k
    induction k with
    | zero => intro p; rfl
    | succ k ih =>
      intro p
      rw [Lib.validGoD, spelledF]
      by_cases hp : p < s.size
      · rw [if_pos hp, if_neg (by intro e; have := congrArg List.length e; simp at this; omega), Lib.decodeL_drop, List.drop_drop, ih]
      · rw [if_neg hp, if_pos (by rw [List.drop_eq_nil_iff]; simp; omega)]
  have := key s.data.toList.length 0
  rw [List.drop_zero] at this
  unfold Lib.validD spelled
  rw [this]; simp

set_option maxHeartbeats 1000000 in
theorem atomRight_calls (s : ByteArray) (t : Bool) (w : World) (hs : s.size ≤ 140737488355328) (ht : Tabs w) (h : atomOk s = t) :
    Calls Tryz.prog 157 #[.string s] w fun e w' => e = .returned (.int .i64 (if t then 0 else 20)) ∧ Below w.heap.size w w' := by
  have HT := Lib.hid ht; clear ht
  by_cases hbig : 255 < s.size
  · have e : t = false := by rw [← h]; simp [atomOk]; omega
    subst e
    clear h
    go_enter Tryz.func157, Tryz.ntmps157
    go_wp2
    go_ret
    exact ⟨rfl, Below.refl _ _⟩
  · have e : spelled s = t := by rw [← h]; simp [atomOk]; intro; omega
    have hv := Tryz.utf8_ValidString s w (by omega) HT.out.u8
    rw [valid_spelled, e] at hv
    have HV := Lib.hid hv; clear hv h e
    cases t
    all_goals
      go_enter Tryz.func157, Tryz.ntmps157
      go_wp2_with fail
      refine (HV.out).mono ?_
      rintro e w1 ⟨rfl, hb1⟩
      have HB1 := Lib.hid hb1; clear hb1
      go_wp2
      go_ret
      exact ⟨rfl, HB1.out⟩
end Go.Proofs.YtejpdfenejbjdaaGreatDoor
