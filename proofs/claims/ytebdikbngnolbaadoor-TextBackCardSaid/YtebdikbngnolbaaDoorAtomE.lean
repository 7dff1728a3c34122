/- Walks: the reader of atoms in quotes: what stands behind a backslash, the whole. -/
import Derived.Test.YtebdikbngnolbaaDoorAtomD
import Derived.Test.YtebdikbngnolbaaDoorWord
namespace Go.Proofs.YtebdikbngnolbaaDoor
open Go.RowKit Txt
set_option linter.unusedVariables false
set_option linter.unusedSimpArgs false

theorem decode_one (s : ByteArray) (p : Nat) (h : (Utf8.decode s p).2 = 1) : (Utf8.decode s p).1 < 128 ∨ (Utf8.decode s p).1 = 65533 := by
  unfold Utf8.decode at h ⊢
  simp only at h ⊢
  split
  · left; assumption
  · rename_i h0
    rw [if_neg h0] at h
    split
    · rename_i h1; rw [if_pos h1] at h
      split
      · rename_i h2; rw [if_pos h2] at h; cases h
      · right; rfl
    · rename_i h1; rw [if_neg h1] at h
      split
      · rename_i h2; rw [if_pos h2] at h
        split
        · rename_i h3; rw [if_pos h3] at h; cases h
        · right; rfl
      · rename_i h2; rw [if_neg h2] at h
        split
        · rename_i h3; rw [if_pos h3] at h
          split
          · rename_i h4; rw [if_pos h4] at h; cases h
          · right; rfl
        · right; rfl

theorem dec_calls (s : ByteArray) (p r n : Nat) (w : World) (ht : Tabs w) (hp : p < s.size) (hd : Utf8.decode s p = (r, n)) :
    Calls Tryd.prog 63 #[.string (s.extract p s.size)] w fun e w' => e = .returned (.tuple #[.int .i32 (r : Int), .int .i64 (n : Int)]) ∧ Below w.heap.size w w' := by
  have := Tryd.utf8_DecodeRuneInString (s.extract p s.size) w ht.u8
  rw [decodeGo_at s p hp, hd] at this
  exact this
theorem dec_end (w : World) (ht : Tabs w) :
    Calls Tryd.prog 63 #[.string .empty] w fun e w' => e = .returned (.tuple #[.int .i32 65533, .int .i64 0]) ∧ Below w.heap.size w w' :=
  Tryd.utf8_DecodeRuneInString .empty w ht.u8
theorem AR.bw {b : Nat} {s : ByteArray} {x : AS} {w : World} (h : AR b s x w) : b < w.heap.size := h.bu.lt
theorem decode_in (s : ByteArray) (p : Nat) (h : p < s.size) : p + (Utf8.decode s p).2 ≤ s.size := by
  unfold Utf8.decode
  simp only
  split
  · simp; omega
  · split
    · rename_i h1
      simp only [Bool.and_eq_true, decide_eq_true_eq] at h1
      split <;> simp <;> omega
    · split
      · rename_i h1
        simp only [Bool.and_eq_true, decide_eq_true_eq] at h1
        split <;> simp <;> omega
      · split
        · rename_i h1
          simp only [Bool.and_eq_true, decide_eq_true_eq] at h1
          split <;> simp <;> omega
        · simp; omega

set_option maxHeartbeats 2000000 in
set_option maxRecDepth 100000 in
theorem special_end (b : Nat) (s : ByteArray) (x : AS) (w : World) (h : AR b s x w) (hl : x.out.length ≤ 1099511627776) (hs : s.size ≤ 1099511627776) (ht : Tabs w) (hb : ng ≤ b) (hp : x.p = s.size) :
    Calls Tryd.prog 64 #[.pointer (some ⟨b, 0, none⟩)] w (AStep b s w none) := by
  have HA := Lib.hid h; clear h
  have HT := Lib.hid ht; clear ht
  go_enter Tryd.func64, Tryd.ntmps64
  go_wp2_with fail
  refine Seg.wp_region_seg [9] (by kernel_rfl) (by kernel_rfl) (by kernel_rfl) ?_
  simp only [Seg.wpSeg, Nat.sub_zero, Nat.reduceAdd, Nat.reduceSub, List.take_succ_cons, List.take_zero, List.drop_succ_cons, List.drop_zero]
  have HA1 := Lib.hid HA.out.drew
  have HT1 := Lib.hid (HT.out.drewN 1)
  have HB1 := Lib.hid ((Below.refl b w).drew)
  have hw1 : w.drewN 1 = w.drew := rfl
  rw [hw1] at HT1
  clear hw1
  generalize w.drew = w1 at *
  have c0 := HA1.out.c0
  have c1 := HA1.out.c1
  rw [hp] at c1
  repeat (go_big_quiet_step (fail))
  refine wpQuiet_nil ?_
  rintro _ ⟨nq, rfl⟩ K hK
  have HK := Lib.hid hK; clear hK
  go_wp2_with fail
  refine (dec_end _ (HT1.out.drewN _)).mono ?_
  rintro e w2 ⟨rfl, hb2⟩
  have HA2 := Lib.hid (AR.below (HA1.out.drewN nq) hb2)
  have HT2 := Lib.hid (Tabs.below (HT1.out.drewN nq) hb2)
  have HB2 := Lib.hid ((below_drewN HB1.out nq).trans (hb2.mono (Nat.le_of_lt (HA1.out.drewN nq).bw))); clear hb2
  clear c0 c1
  go_wp2_with fail
  refine HK.out _ _ ?_
  repeat (go_big_quiet_step (fail))
  refine wpQuiet_nil ?_
  rintro _ ⟨nq2, rfl⟩
  clear HK
  go_wp2
  go_ret
  exact ⟨rfl, ⟨_, HA2.out.drewN _⟩, below_drewN HB2.out _⟩
set_option maxHeartbeats 2000000 in
set_option maxRecDepth 100000 in
theorem special_bad (b : Nat) (s : ByteArray) (x : AS) (w : World) (h : AR b s x w) (hl : x.out.length ≤ 1099511627776) (hs : s.size ≤ 1099511627776) (ht : Tabs w) (hb : ng ≤ b) (r n : Nat) (hp : x.p < s.size) (hd : Utf8.decode s x.p = (r, n)) (hr : r = 65533) (hn : n < 2) :
    Calls Tryd.prog 64 #[.pointer (some ⟨b, 0, none⟩)] w (AStep b s w none) := by
  have HA := Lib.hid h; clear h
  have HT := Lib.hid ht; clear ht
  have hr1 : ((r : Int) == 65533) = true := by rw [hr]; rfl
  have HD := Lib.hid hd; clear hd
  clear hr
  go_enter Tryd.func64, Tryd.ntmps64
  go_wp2_with fail
  refine Seg.wp_region_seg [9] (by kernel_rfl) (by kernel_rfl) (by kernel_rfl) ?_
  simp only [Seg.wpSeg, Nat.sub_zero, Nat.reduceAdd, Nat.reduceSub, List.take_succ_cons, List.take_zero, List.drop_succ_cons, List.drop_zero]
  have HA1 := Lib.hid HA.out.drew
  have HT1 := Lib.hid (HT.out.drewN 1)
  have HB1 := Lib.hid ((Below.refl b w).drew)
  have hw1 : w.drewN 1 = w.drew := rfl
  rw [hw1] at HT1
  clear hw1
  generalize w.drew = w1 at *
  have c0 := HA1.out.c0
  have c1 := HA1.out.c1
  repeat (go_big_quiet_step (fail))
  refine wpQuiet_nil ?_
  rintro _ ⟨nq, rfl⟩ K hK
  have HK := Lib.hid hK; clear hK
  go_wp2_with fail
  refine (dec_calls s x.p r n _ (HT1.out.drewN _) hp HD.out).mono ?_
  rintro e w2 ⟨rfl, hb2⟩
  have HA2 := Lib.hid (AR.below (HA1.out.drewN nq) hb2)
  have HT2 := Lib.hid (Tabs.below (HT1.out.drewN nq) hb2)
  have HB2 := Lib.hid ((below_drewN HB1.out nq).trans (hb2.mono (Nat.le_of_lt (HA1.out.drewN nq).bw))); clear hb2
  clear c0 c1
  go_wp2_with fail
  refine HK.out _ _ ?_
  repeat (go_big_quiet_step (fail))
  refine wpQuiet_nil ?_
  rintro _ ⟨nq2, rfl⟩
  clear HK
  go_wp2
  go_ret
  exact ⟨rfl, ⟨_, HA2.out.drewN _⟩, below_drewN HB2.out _⟩
set_option maxHeartbeats 2000000 in
set_option maxRecDepth 100000 in
theorem special_x (b : Nat) (s : ByteArray) (x : AS) (w : World) (h : AR b s x w) (hl : x.out.length ≤ 1099511627776) (hs : s.size ≤ 1099511627776) (ht : Tabs w) (hb : ng ≤ b) (r n : Nat) (hp : x.p < s.size) (hd : Utf8.decode s x.p = (r, n)) (hr : r = 120) :
    Calls Tryd.prog 64 #[.pointer (some ⟨b, 0, none⟩)] w (AStep b s w (hexA s { x with p := x.p + 1 })) := by
  have HA := Lib.hid h; clear h
  have HT := Lib.hid ht; clear ht
  have e65533 : ((r : Int) == 65533) = false := by rw [hr]; rfl
  have e120 : ((r : Int) == 120) = true := by rw [hr]; rfl
  have e94 : ((r : Int) == 94) = false := by rw [hr]; rfl
  have HD := Lib.hid hd; clear hd hr
  go_enter Tryd.func64, Tryd.ntmps64
  go_wp2_with fail
  refine Seg.wp_region_seg [9] (by kernel_rfl) (by kernel_rfl) (by kernel_rfl) ?_
  simp only [Seg.wpSeg, Nat.sub_zero, Nat.reduceAdd, Nat.reduceSub, List.take_succ_cons, List.take_zero, List.drop_succ_cons, List.drop_zero]
  have HA1 := Lib.hid HA.out.drew
  have HT1 := Lib.hid (HT.out.drewN 1)
  have HB1 := Lib.hid ((Below.refl b w).drew)
  have hw1 : w.drewN 1 = w.drew := rfl
  rw [hw1] at HT1
  clear hw1
  generalize w.drew = w1 at *
  have c0 := HA1.out.c0
  have c1 := HA1.out.c1
  repeat (go_big_quiet_step (fail))
  refine wpQuiet_nil ?_
  rintro _ ⟨nq, rfl⟩ K hK
  have HK := Lib.hid hK; clear hK
  go_wp2_with fail
  refine (dec_calls s x.p r n _ (HT1.out.drewN _) hp HD.out).mono ?_
  rintro e w2 ⟨rfl, hb2⟩
  have HA2 := Lib.hid (AR.below (HA1.out.drewN nq) hb2)
  have HT2 := Lib.hid (Tabs.below (HT1.out.drewN nq) hb2)
  have HB2 := Lib.hid ((below_drewN HB1.out nq).trans (hb2.mono (Nat.le_of_lt (HA1.out.drewN nq).bw))); clear hb2
  clear c0 c1
  go_wp2_with fail
  refine HK.out _ _ ?_
  repeat (go_big_quiet_step (fail))
  refine wpQuiet_nil ?_
  rintro _ ⟨nq2, rfl⟩
  clear HK
  have hA := HA2.out.c1
  have hF := HA2.out.f1
  go_wp2_with fail
  refine (hex_calls b s { x with p := x.p + 1 } _ ((HA2.out.drewN _).setp (x.p + 1) _ (by omega)) hl (by simp; omega) hs).mono ?_
  generalize hexA s { x with p := x.p + 1 } = R at *
  cases R
  all_goals
    rintro e w3 ⟨rfl, h3⟩
    have HE := Lib.hid (And.intro h3.1 (((below_drewN HB2.out _).setCell (p := ⟨b, 1, none⟩) (Nat.le_refl b) (.int .i64 ((x.p : Int) + 1))).trans h3.2)); clear h3
    go_wp2
    go_ret
    exact ⟨rfl, HE.out⟩
set_option maxHeartbeats 2000000 in
set_option maxRecDepth 100000 in
theorem special_ctl (b : Nat) (s : ByteArray) (x : AS) (w : World) (h : AR b s x w) (hl : x.out.length ≤ 1099511627776) (hs : s.size ≤ 1099511627776) (ht : Tabs w) (hb : ng ≤ b) (r n : Nat) (hp : x.p < s.size) (hd : Utf8.decode s x.p = (r, n)) (hr : r = 94) :
    Calls Tryd.prog 64 #[.pointer (some ⟨b, 0, none⟩)] w (AStep b s w (controlA s { x with p := x.p + 1 })) := by
  have HA := Lib.hid h; clear h
  have HT := Lib.hid ht; clear ht
  have e65533 : ((r : Int) == 65533) = false := by rw [hr]; rfl
  have e120 : ((r : Int) == 120) = false := by rw [hr]; rfl
  have e94 : ((r : Int) == 94) = true := by rw [hr]; rfl
  have HD := Lib.hid hd; clear hd hr
  go_enter Tryd.func64, Tryd.ntmps64
  go_wp2_with fail
  refine Seg.wp_region_seg [9] (by kernel_rfl) (by kernel_rfl) (by kernel_rfl) ?_
  simp only [Seg.wpSeg, Nat.sub_zero, Nat.reduceAdd, Nat.reduceSub, List.take_succ_cons, List.take_zero, List.drop_succ_cons, List.drop_zero]
  have HA1 := Lib.hid HA.out.drew
  have HT1 := Lib.hid (HT.out.drewN 1)
  have HB1 := Lib.hid ((Below.refl b w).drew)
  have hw1 : w.drewN 1 = w.drew := rfl
  rw [hw1] at HT1
  clear hw1
  generalize w.drew = w1 at *
  have c0 := HA1.out.c0
  have c1 := HA1.out.c1
  repeat (go_big_quiet_step (fail))
  refine wpQuiet_nil ?_
  rintro _ ⟨nq, rfl⟩ K hK
  have HK := Lib.hid hK; clear hK
  go_wp2_with fail
  refine (dec_calls s x.p r n _ (HT1.out.drewN _) hp HD.out).mono ?_
  rintro e w2 ⟨rfl, hb2⟩
  have HA2 := Lib.hid (AR.below (HA1.out.drewN nq) hb2)
  have HT2 := Lib.hid (Tabs.below (HT1.out.drewN nq) hb2)
  have HB2 := Lib.hid ((below_drewN HB1.out nq).trans (hb2.mono (Nat.le_of_lt (HA1.out.drewN nq).bw))); clear hb2
  clear c0 c1
  go_wp2_with fail
  refine HK.out _ _ ?_
  repeat (go_big_quiet_step (fail))
  refine wpQuiet_nil ?_
  rintro _ ⟨nq2, rfl⟩
  clear HK
  have hA := HA2.out.c1
  have hF := HA2.out.f1
  go_wp2_with fail
  refine (control_calls b s { x with p := x.p + 1 } _ ((HA2.out.drewN _).setp (x.p + 1) _ (by omega)) hl (by simp; omega) hs).mono ?_
  generalize controlA s { x with p := x.p + 1 } = R at *
  cases R
  all_goals
    rintro e w3 ⟨rfl, h3⟩
    have HE := Lib.hid (And.intro h3.1 (((below_drewN HB2.out _).setCell (p := ⟨b, 1, none⟩) (Nat.le_refl b) (.int .i64 ((x.p : Int) + 1))).trans h3.2)); clear h3
    go_wp2
    go_ret
    exact ⟨rfl, HE.out⟩
set_option maxHeartbeats 2000000 in
set_option maxRecDepth 100000 in
theorem special_oct (b : Nat) (s : ByteArray) (x : AS) (w : World) (h : AR b s x w) (hl : x.out.length ≤ 1099511627776) (hs : s.size ≤ 1099511627776) (ht : Tabs w) (hb : ng ≤ b) (r n : Nat) (hp : x.p < s.size) (hd : Utf8.decode s x.p = (r, n)) (hr : 48 ≤ r) (hr2 : r ≤ 55) :
    Calls Tryd.prog 64 #[.pointer (some ⟨b, 0, none⟩)] w (AStep b s w (digitsA s x 8 1 3)) := by
  have HA := Lib.hid h; clear h
  have HT := Lib.hid ht; clear ht
  have e65533 : ((r : Int) == 65533) = false := by rw [beq_eq_false_iff_ne]; omega
  have e120 : ((r : Int) == 120) = false := by rw [beq_eq_false_iff_ne]; omega
  have e94 : ((r : Int) == 94) = false := by rw [beq_eq_false_iff_ne]; omega
  have HD := Lib.hid hd; clear hd
  go_enter Tryd.func64, Tryd.ntmps64
  go_wp2_with fail
  refine Seg.wp_region_seg [9] (by kernel_rfl) (by kernel_rfl) (by kernel_rfl) ?_
  simp only [Seg.wpSeg, Nat.sub_zero, Nat.reduceAdd, Nat.reduceSub, List.take_succ_cons, List.take_zero, List.drop_succ_cons, List.drop_zero]
  have HA1 := Lib.hid HA.out.drew
  have HT1 := Lib.hid (HT.out.drewN 1)
  have HB1 := Lib.hid ((Below.refl b w).drew)
  have hw1 : w.drewN 1 = w.drew := rfl
  rw [hw1] at HT1
  clear hw1
  generalize w.drew = w1 at *
  have c0 := HA1.out.c0
  have c1 := HA1.out.c1
  repeat (go_big_quiet_step (fail))
  refine wpQuiet_nil ?_
  rintro _ ⟨nq, rfl⟩ K hK
  have HK := Lib.hid hK; clear hK
  go_wp2_with fail
  refine (dec_calls s x.p r n _ (HT1.out.drewN _) hp HD.out).mono ?_
  rintro e w2 ⟨rfl, hb2⟩
  have HA2 := Lib.hid (AR.below (HA1.out.drewN nq) hb2)
  have HT2 := Lib.hid (Tabs.below (HT1.out.drewN nq) hb2)
  have HB2 := Lib.hid ((below_drewN HB1.out nq).trans (hb2.mono (Nat.le_of_lt (HA1.out.drewN nq).bw))); clear hb2
  clear c0 c1
  go_wp2_with fail
  refine HK.out _ _ ?_
  repeat (go_big_quiet_step (fail))
  refine wpQuiet_nil ?_
  rintro _ ⟨nq2, rfl⟩
  clear HK
  go_wp2_with fail
  refine (digitsA_calls b s x 8 1 3 _ (HA2.out.drewN _) hl (by omega) hs (by omega) (by omega) (by omega)).mono ?_
  generalize digitsA s x 8 1 3 = R at *
  cases R
  all_goals
    rintro e w3 ⟨rfl, h3⟩
    have HE := Lib.hid (And.intro h3.1 ((below_drewN HB2.out _).trans h3.2)); clear h3
    go_wp2
    go_ret
    exact ⟨rfl, HE.out⟩
set_option maxHeartbeats 2000000 in
set_option maxRecDepth 100000 in
theorem special_wide_err (b : Nat) (s : ByteArray) (x : AS) (w : World) (h : AR b s x w) (hl : x.out.length ≤ 1099511627776) (hs : s.size ≤ 1099511627776) (ht : Tabs w) (hb : ng ≤ b) (r n : Nat) (hp : x.p < s.size) (hd : Utf8.decode s x.p = (r, n)) (hr : r = 65533) (hn : 2 ≤ n) :
    Calls Tryd.prog 64 #[.pointer (some ⟨b, 0, none⟩)] w (AStep b s w (some { x with p := x.p + n, out := x.out ++ (Utf8.encode (r : Int)).data.toList })) := by
  have HA := Lib.hid h; clear h
  have HT := Lib.hid ht; clear ht
  have e65533 : ((r : Int) == 65533) = true := by rw [hr]; rfl
  have hlo : 48 ≤ r := by omega
  have hhi : 55 < r := by omega
  have e120 : ((r : Int) == 120) = false := by rw [beq_eq_false_iff_ne]; omega
  have e94 : ((r : Int) == 94) = false := by rw [beq_eq_false_iff_ne]; omega
  have en1 : ((n : Int) == 1) = false := by rw [beq_eq_false_iff_ne]; omega
  have hrl : r ≤ 2147483647 := by have := decode_le s x.p; rw [hd] at this; exact this
  have hn4 : n ≤ 4 := by have := decode_size s x.p; rw [hd] at this; exact this
  have HD := Lib.hid hd; clear hd
  try clear hr
  try clear hr2
  try clear hr3
  go_enter Tryd.func64, Tryd.ntmps64
  go_wp2_with fail
  refine Seg.wp_region_seg [9] (by kernel_rfl) (by kernel_rfl) (by kernel_rfl) ?_
  simp only [Seg.wpSeg, Nat.sub_zero, Nat.reduceAdd, Nat.reduceSub, List.take_succ_cons, List.take_zero, List.drop_succ_cons, List.drop_zero]
  have HA1 := Lib.hid HA.out.drew
  have HT1 := Lib.hid (HT.out.drewN 1)
  have HB1 := Lib.hid ((Below.refl b w).drew)
  have hw1 : w.drewN 1 = w.drew := rfl
  rw [hw1] at HT1
  clear hw1
  generalize w.drew = w1 at *
  have c0 := HA1.out.c0
  have c1 := HA1.out.c1
  repeat (go_big_quiet_step (fail))
  refine wpQuiet_nil ?_
  rintro _ ⟨nq, rfl⟩ K hK
  have HK := Lib.hid hK; clear hK
  go_wp2_with fail
  refine (dec_calls s x.p r n _ (HT1.out.drewN _) hp HD.out).mono ?_
  rintro e w2 ⟨rfl, hb2⟩
  have HA2 := Lib.hid (AR.below (HA1.out.drewN nq) hb2)
  have HT2 := Lib.hid (Tabs.below (HT1.out.drewN nq) hb2)
  have HB2 := Lib.hid ((below_drewN HB1.out nq).trans (hb2.mono (Nat.le_of_lt (HA1.out.drewN nq).bw))); clear hb2
  clear c0 c1
  go_wp2_with fail
  refine HK.out _ _ ?_
  repeat (go_big_quiet_step (fail))
  refine wpQuiet_nil ?_
  rintro _ ⟨nq2, rfl⟩
  clear HK
  have hA := HA2.out.c1
  have hF := HA2.out.f1
  go_wp2_with fail
  refine (writeRune_calls _ _ b 2 bt_reader x.out r (by omega) _ (((HA2.out.drewN _).setp (x.p + n) _ (by omega)).bu) hl).mono ?_
  rintro e w3 ⟨⟨k, rfl⟩, hb3, hw3⟩
  have HE := Lib.hid (And.intro (AR.wrote ((HA2.out.drewN _).setp (x.p + n) ((x.p : Int) + (n : Int)) (by omega)) hb3 hw3) (((below_drewN HB2.out _).setCell (p := ⟨b, 1, none⟩) (Nat.le_refl b) (.int .i64 ((x.p : Int) + (n : Int)))).trans hw3.below)); clear hb3 hw3
  go_wp2
  go_ret
  exact ⟨rfl, HE.out⟩
set_option maxHeartbeats 2000000 in
set_option maxRecDepth 100000 in
theorem special_wide_hi (b : Nat) (s : ByteArray) (x : AS) (w : World) (h : AR b s x w) (hl : x.out.length ≤ 1099511627776) (hs : s.size ≤ 1099511627776) (ht : Tabs w) (hb : ng ≤ b) (r n : Nat) (hp : x.p < s.size) (hd : Utf8.decode s x.p = (r, n)) (hr : r ≠ 65533) (hn : 2 ≤ n) (hr2 : r ≠ 120) (hr3 : r ≠ 94) (hlo : 48 ≤ r) (hhi : 55 < r) :
    Calls Tryd.prog 64 #[.pointer (some ⟨b, 0, none⟩)] w (AStep b s w (some { x with p := x.p + n, out := x.out ++ (Utf8.encode (r : Int)).data.toList })) := by
  have HA := Lib.hid h; clear h
  have HT := Lib.hid ht; clear ht
  have e65533 : ((r : Int) == 65533) = false := by rw [beq_eq_false_iff_ne]; omega
  have e120 : ((r : Int) == 120) = false := by rw [beq_eq_false_iff_ne]; omega
  have e94 : ((r : Int) == 94) = false := by rw [beq_eq_false_iff_ne]; omega
  have en1 : ((n : Int) == 1) = false := by rw [beq_eq_false_iff_ne]; omega
  have hrl : r ≤ 2147483647 := by have := decode_le s x.p; rw [hd] at this; exact this
  have hn4 : n ≤ 4 := by have := decode_size s x.p; rw [hd] at this; exact this
  have HD := Lib.hid hd; clear hd
  try clear hr
  try clear hr2
  try clear hr3
  go_enter Tryd.func64, Tryd.ntmps64
  go_wp2_with fail
  refine Seg.wp_region_seg [9] (by kernel_rfl) (by kernel_rfl) (by kernel_rfl) ?_
  simp only [Seg.wpSeg, Nat.sub_zero, Nat.reduceAdd, Nat.reduceSub, List.take_succ_cons, List.take_zero, List.drop_succ_cons, List.drop_zero]
  have HA1 := Lib.hid HA.out.drew
  have HT1 := Lib.hid (HT.out.drewN 1)
  have HB1 := Lib.hid ((Below.refl b w).drew)
  have hw1 : w.drewN 1 = w.drew := rfl
  rw [hw1] at HT1
  clear hw1
  generalize w.drew = w1 at *
  have c0 := HA1.out.c0
  have c1 := HA1.out.c1
  repeat (go_big_quiet_step (fail))
  refine wpQuiet_nil ?_
  rintro _ ⟨nq, rfl⟩ K hK
  have HK := Lib.hid hK; clear hK
  go_wp2_with fail
  refine (dec_calls s x.p r n _ (HT1.out.drewN _) hp HD.out).mono ?_
  rintro e w2 ⟨rfl, hb2⟩
  have HA2 := Lib.hid (AR.below (HA1.out.drewN nq) hb2)
  have HT2 := Lib.hid (Tabs.below (HT1.out.drewN nq) hb2)
  have HB2 := Lib.hid ((below_drewN HB1.out nq).trans (hb2.mono (Nat.le_of_lt (HA1.out.drewN nq).bw))); clear hb2
  clear c0 c1
  go_wp2_with fail
  refine HK.out _ _ ?_
  repeat (go_big_quiet_step (fail))
  refine wpQuiet_nil ?_
  rintro _ ⟨nq2, rfl⟩
  clear HK
  have hA := HA2.out.c1
  have hF := HA2.out.f1
  go_wp2_with fail
  refine (writeRune_calls _ _ b 2 bt_reader x.out r (by omega) _ (((HA2.out.drewN _).setp (x.p + n) _ (by omega)).bu) hl).mono ?_
  rintro e w3 ⟨⟨k, rfl⟩, hb3, hw3⟩
  have HE := Lib.hid (And.intro (AR.wrote ((HA2.out.drewN _).setp (x.p + n) ((x.p : Int) + (n : Int)) (by omega)) hb3 hw3) (((below_drewN HB2.out _).setCell (p := ⟨b, 1, none⟩) (Nat.le_refl b) (.int .i64 ((x.p : Int) + (n : Int)))).trans hw3.below)); clear hb3 hw3
  go_wp2
  go_ret
  exact ⟨rfl, HE.out⟩
set_option maxHeartbeats 2000000 in
set_option maxRecDepth 100000 in
theorem special_wide_lo (b : Nat) (s : ByteArray) (x : AS) (w : World) (h : AR b s x w) (hl : x.out.length ≤ 1099511627776) (hs : s.size ≤ 1099511627776) (ht : Tabs w) (hb : ng ≤ b) (r n : Nat) (hp : x.p < s.size) (hd : Utf8.decode s x.p = (r, n)) (hr : r ≠ 65533) (hn : 2 ≤ n) (hr2 : r ≠ 120) (hr3 : r ≠ 94) (hlo : r < 48) :
    Calls Tryd.prog 64 #[.pointer (some ⟨b, 0, none⟩)] w (AStep b s w (some { x with p := x.p + n, out := x.out ++ (Utf8.encode (r : Int)).data.toList })) := by
  have HA := Lib.hid h; clear h
  have HT := Lib.hid ht; clear ht
  have e65533 : ((r : Int) == 65533) = false := by rw [beq_eq_false_iff_ne]; omega
  have e120 : ((r : Int) == 120) = false := by rw [beq_eq_false_iff_ne]; omega
  have e94 : ((r : Int) == 94) = false := by rw [beq_eq_false_iff_ne]; omega
  have en1 : ((n : Int) == 1) = false := by rw [beq_eq_false_iff_ne]; omega
  have hrl : r ≤ 2147483647 := by have := decode_le s x.p; rw [hd] at this; exact this
  have hn4 : n ≤ 4 := by have := decode_size s x.p; rw [hd] at this; exact this
  have HD := Lib.hid hd; clear hd
  try clear hr
  try clear hr2
  try clear hr3
  go_enter Tryd.func64, Tryd.ntmps64
  go_wp2_with fail
  refine Seg.wp_region_seg [9] (by kernel_rfl) (by kernel_rfl) (by kernel_rfl) ?_
  simp only [Seg.wpSeg, Nat.sub_zero, Nat.reduceAdd, Nat.reduceSub, List.take_succ_cons, List.take_zero, List.drop_succ_cons, List.drop_zero]
  have HA1 := Lib.hid HA.out.drew
  have HT1 := Lib.hid (HT.out.drewN 1)
  have HB1 := Lib.hid ((Below.refl b w).drew)
  have hw1 : w.drewN 1 = w.drew := rfl
  rw [hw1] at HT1
  clear hw1
  generalize w.drew = w1 at *
  have c0 := HA1.out.c0
  have c1 := HA1.out.c1
  repeat (go_big_quiet_step (fail))
  refine wpQuiet_nil ?_
  rintro _ ⟨nq, rfl⟩ K hK
  have HK := Lib.hid hK; clear hK
  go_wp2_with fail
  refine (dec_calls s x.p r n _ (HT1.out.drewN _) hp HD.out).mono ?_
  rintro e w2 ⟨rfl, hb2⟩
  have HA2 := Lib.hid (AR.below (HA1.out.drewN nq) hb2)
  have HT2 := Lib.hid (Tabs.below (HT1.out.drewN nq) hb2)
  have HB2 := Lib.hid ((below_drewN HB1.out nq).trans (hb2.mono (Nat.le_of_lt (HA1.out.drewN nq).bw))); clear hb2
  clear c0 c1
  go_wp2_with fail
  refine HK.out _ _ ?_
  repeat (go_big_quiet_step (fail))
  refine wpQuiet_nil ?_
  rintro _ ⟨nq2, rfl⟩
  clear HK
  have hA := HA2.out.c1
  have hF := HA2.out.f1
  go_wp2_with fail
  refine (writeRune_calls _ _ b 2 bt_reader x.out r (by omega) _ (((HA2.out.drewN _).setp (x.p + n) _ (by omega)).bu) hl).mono ?_
  rintro e w3 ⟨⟨k, rfl⟩, hb3, hw3⟩
  have HE := Lib.hid (And.intro (AR.wrote ((HA2.out.drewN _).setp (x.p + n) ((x.p : Int) + (n : Int)) (by omega)) hb3 hw3) (((below_drewN HB2.out _).setCell (p := ⟨b, 1, none⟩) (Nat.le_refl b) (.int .i64 ((x.p : Int) + (n : Int)))).trans hw3.below)); clear hb3 hw3
  go_wp2
  go_ret
  exact ⟨rfl, HE.out⟩
set_option maxHeartbeats 2000000 in
set_option maxRecDepth 100000 in
theorem special_one_hi_some (b : Nat) (s : ByteArray) (x : AS) (w : World) (h : AR b s x w) (hl : x.out.length ≤ 1099511627776) (hs : s.size ≤ 1099511627776) (ht : Tabs w) (hb : ng ≤ b) (r n : Nat) (hp : x.p < s.size) (hd : Utf8.decode s x.p = (r, n)) (hn : n = 1) (hr : r < 128) (hr2 : r ≠ 120) (hr3 : r ≠ 94) (hlo : 48 ≤ r) (hhi : 55 < r) (u : Nat) (hu : unescape r = some u) (hub : u < 128) :
    Calls Tryd.prog 64 #[.pointer (some ⟨b, 0, none⟩)] w (AStep b s w (some { x with p := x.p + n, out := x.out ++ (Utf8.encode (u : Int)).data.toList })) := by
  have HA := Lib.hid h; clear h
  have HT := Lib.hid ht; clear ht
  have e65533 : ((r : Int) == 65533) = false := by rw [beq_eq_false_iff_ne]; omega
  have e120 : ((r : Int) == 120) = false := by rw [beq_eq_false_iff_ne]; omega
  have e94 : ((r : Int) == 94) = false := by rw [beq_eq_false_iff_ne]; omega
  have en1 : ((n : Int) == 1) = true := by rw [hn]; rfl
  have hn1 : n ≤ 4 := by omega
  have hw8 : IntKind.u8.wrap (r : Int) = (r : Int) := IntWalk.u8_in _ (by omega)
  have huc := fun W => unescape_calls r (by omega) W
  unfold unRes at huc
  rw [hu] at huc
  have HU := Lib.hid huc; clear huc hu
  have HD := Lib.hid hd; clear hd
  clear hr2 hr3 hn
  go_enter Tryd.func64, Tryd.ntmps64
  go_wp2_with fail
  refine Seg.wp_region_seg [9] (by kernel_rfl) (by kernel_rfl) (by kernel_rfl) ?_
  simp only [Seg.wpSeg, Nat.sub_zero, Nat.reduceAdd, Nat.reduceSub, List.take_succ_cons, List.take_zero, List.drop_succ_cons, List.drop_zero]
  have HA1 := Lib.hid HA.out.drew
  have HT1 := Lib.hid (HT.out.drewN 1)
  have HB1 := Lib.hid ((Below.refl b w).drew)
  have hw1 : w.drewN 1 = w.drew := rfl
  rw [hw1] at HT1
  clear hw1
  generalize w.drew = w1 at *
  have c0 := HA1.out.c0
  have c1 := HA1.out.c1
  repeat (go_big_quiet_step (fail))
  refine wpQuiet_nil ?_
  rintro _ ⟨nq, rfl⟩ K hK
  have HK := Lib.hid hK; clear hK
  go_wp2_with fail
  refine (dec_calls s x.p r n _ (HT1.out.drewN _) hp HD.out).mono ?_
  rintro e w2 ⟨rfl, hb2⟩
  have HA2 := Lib.hid (AR.below (HA1.out.drewN nq) hb2)
  have HT2 := Lib.hid (Tabs.below (HT1.out.drewN nq) hb2)
  have HB2 := Lib.hid ((below_drewN HB1.out nq).trans (hb2.mono (Nat.le_of_lt (HA1.out.drewN nq).bw))); clear hb2
  clear c0 c1
  go_wp2_with fail
  refine HK.out _ _ ?_
  repeat (go_big_quiet_step (fail))
  refine wpQuiet_nil ?_
  rintro _ ⟨nq2, rfl⟩
  clear HK
  have hA := HA2.out.c1
  have hF := HA2.out.f1
  go_wp2_with fail
  refine (HU.out _).mono ?_
  rintro e w3 ⟨rfl, rfl⟩
  go_wp2_with fail
  refine (writeRune_calls _ _ b 2 bt_reader x.out u (by omega) _ (((HA2.out.drewN _).setp (x.p + n) _ (by omega)).bu) hl).mono ?_
  rintro e w3 ⟨⟨k, rfl⟩, hb3, hw3⟩
  have HE := Lib.hid (And.intro (AR.wrote ((HA2.out.drewN _).setp (x.p + n) ((x.p : Int) + (n : Int)) (by omega)) hb3 hw3) (((below_drewN HB2.out _).setCell (p := ⟨b, 1, none⟩) (Nat.le_refl b) (.int .i64 ((x.p : Int) + (n : Int)))).trans hw3.below)); clear hb3 hw3
  go_wp2
  go_ret
  exact ⟨rfl, HE.out⟩
set_option maxHeartbeats 2000000 in
set_option maxRecDepth 100000 in
theorem special_one_hi_none (b : Nat) (s : ByteArray) (x : AS) (w : World) (h : AR b s x w) (hl : x.out.length ≤ 1099511627776) (hs : s.size ≤ 1099511627776) (ht : Tabs w) (hb : ng ≤ b) (r n : Nat) (hp : x.p < s.size) (hd : Utf8.decode s x.p = (r, n)) (hn : n = 1) (hr : r < 128) (hr2 : r ≠ 120) (hr3 : r ≠ 94) (hlo : 48 ≤ r) (hhi : 55 < r) (hu : unescape r = none) :
    Calls Tryd.prog 64 #[.pointer (some ⟨b, 0, none⟩)] w (AStep b s w (some { x with p := x.p + n, out := x.out ++ (Utf8.encode (r : Int)).data.toList })) := by
  have HA := Lib.hid h; clear h
  have HT := Lib.hid ht; clear ht
  have e65533 : ((r : Int) == 65533) = false := by rw [beq_eq_false_iff_ne]; omega
  have e120 : ((r : Int) == 120) = false := by rw [beq_eq_false_iff_ne]; omega
  have e94 : ((r : Int) == 94) = false := by rw [beq_eq_false_iff_ne]; omega
  have en1 : ((n : Int) == 1) = true := by rw [hn]; rfl
  have hn1 : n ≤ 4 := by omega
  have hw8 : IntKind.u8.wrap (r : Int) = (r : Int) := IntWalk.u8_in _ (by omega)
  have huc := fun W => unescape_calls r (by omega) W
  unfold unRes at huc
  rw [hu] at huc
  have HU := Lib.hid huc; clear huc hu
  have HD := Lib.hid hd; clear hd
  clear hr2 hr3 hn
  go_enter Tryd.func64, Tryd.ntmps64
  go_wp2_with fail
  refine Seg.wp_region_seg [9] (by kernel_rfl) (by kernel_rfl) (by kernel_rfl) ?_
  simp only [Seg.wpSeg, Nat.sub_zero, Nat.reduceAdd, Nat.reduceSub, List.take_succ_cons, List.take_zero, List.drop_succ_cons, List.drop_zero]
  have HA1 := Lib.hid HA.out.drew
  have HT1 := Lib.hid (HT.out.drewN 1)
  have HB1 := Lib.hid ((Below.refl b w).drew)
  have hw1 : w.drewN 1 = w.drew := rfl
  rw [hw1] at HT1
  clear hw1
  generalize w.drew = w1 at *
  have c0 := HA1.out.c0
  have c1 := HA1.out.c1
  repeat (go_big_quiet_step (fail))
  refine wpQuiet_nil ?_
  rintro _ ⟨nq, rfl⟩ K hK
  have HK := Lib.hid hK; clear hK
  go_wp2_with fail
  refine (dec_calls s x.p r n _ (HT1.out.drewN _) hp HD.out).mono ?_
  rintro e w2 ⟨rfl, hb2⟩
  have HA2 := Lib.hid (AR.below (HA1.out.drewN nq) hb2)
  have HT2 := Lib.hid (Tabs.below (HT1.out.drewN nq) hb2)
  have HB2 := Lib.hid ((below_drewN HB1.out nq).trans (hb2.mono (Nat.le_of_lt (HA1.out.drewN nq).bw))); clear hb2
  clear c0 c1
  go_wp2_with fail
  refine HK.out _ _ ?_
  repeat (go_big_quiet_step (fail))
  refine wpQuiet_nil ?_
  rintro _ ⟨nq2, rfl⟩
  clear HK
  have hA := HA2.out.c1
  have hF := HA2.out.f1
  go_wp2_with fail
  refine (HU.out _).mono ?_
  rintro e w3 ⟨rfl, rfl⟩
  go_wp2_with fail
  refine (writeRune_calls _ _ b 2 bt_reader x.out r (by omega) _ (((HA2.out.drewN _).setp (x.p + n) _ (by omega)).bu) hl).mono ?_
  rintro e w3 ⟨⟨k, rfl⟩, hb3, hw3⟩
  have HE := Lib.hid (And.intro (AR.wrote ((HA2.out.drewN _).setp (x.p + n) ((x.p : Int) + (n : Int)) (by omega)) hb3 hw3) (((below_drewN HB2.out _).setCell (p := ⟨b, 1, none⟩) (Nat.le_refl b) (.int .i64 ((x.p : Int) + (n : Int)))).trans hw3.below)); clear hb3 hw3
  go_wp2
  go_ret
  exact ⟨rfl, HE.out⟩
set_option maxHeartbeats 2000000 in
set_option maxRecDepth 100000 in
theorem special_one_lo_some (b : Nat) (s : ByteArray) (x : AS) (w : World) (h : AR b s x w) (hl : x.out.length ≤ 1099511627776) (hs : s.size ≤ 1099511627776) (ht : Tabs w) (hb : ng ≤ b) (r n : Nat) (hp : x.p < s.size) (hd : Utf8.decode s x.p = (r, n)) (hn : n = 1) (hr : r < 128) (hr2 : r ≠ 120) (hr3 : r ≠ 94) (hlo : r < 48) (u : Nat) (hu : unescape r = some u) (hub : u < 128) :
    Calls Tryd.prog 64 #[.pointer (some ⟨b, 0, none⟩)] w (AStep b s w (some { x with p := x.p + n, out := x.out ++ (Utf8.encode (u : Int)).data.toList })) := by
  have HA := Lib.hid h; clear h
  have HT := Lib.hid ht; clear ht
  have e65533 : ((r : Int) == 65533) = false := by rw [beq_eq_false_iff_ne]; omega
  have e120 : ((r : Int) == 120) = false := by rw [beq_eq_false_iff_ne]; omega
  have e94 : ((r : Int) == 94) = false := by rw [beq_eq_false_iff_ne]; omega
  have en1 : ((n : Int) == 1) = true := by rw [hn]; rfl
  have hn1 : n ≤ 4 := by omega
  have hw8 : IntKind.u8.wrap (r : Int) = (r : Int) := IntWalk.u8_in _ (by omega)
  have huc := fun W => unescape_calls r (by omega) W
  unfold unRes at huc
  rw [hu] at huc
  have HU := Lib.hid huc; clear huc hu
  have HD := Lib.hid hd; clear hd
  clear hr2 hr3 hn
  go_enter Tryd.func64, Tryd.ntmps64
  go_wp2_with fail
  refine Seg.wp_region_seg [9] (by kernel_rfl) (by kernel_rfl) (by kernel_rfl) ?_
  simp only [Seg.wpSeg, Nat.sub_zero, Nat.reduceAdd, Nat.reduceSub, List.take_succ_cons, List.take_zero, List.drop_succ_cons, List.drop_zero]
  have HA1 := Lib.hid HA.out.drew
  have HT1 := Lib.hid (HT.out.drewN 1)
  have HB1 := Lib.hid ((Below.refl b w).drew)
  have hw1 : w.drewN 1 = w.drew := rfl
  rw [hw1] at HT1
  clear hw1
  generalize w.drew = w1 at *
  have c0 := HA1.out.c0
  have c1 := HA1.out.c1
  repeat (go_big_quiet_step (fail))
  refine wpQuiet_nil ?_
  rintro _ ⟨nq, rfl⟩ K hK
  have HK := Lib.hid hK; clear hK
  go_wp2_with fail
  refine (dec_calls s x.p r n _ (HT1.out.drewN _) hp HD.out).mono ?_
  rintro e w2 ⟨rfl, hb2⟩
  have HA2 := Lib.hid (AR.below (HA1.out.drewN nq) hb2)
  have HT2 := Lib.hid (Tabs.below (HT1.out.drewN nq) hb2)
  have HB2 := Lib.hid ((below_drewN HB1.out nq).trans (hb2.mono (Nat.le_of_lt (HA1.out.drewN nq).bw))); clear hb2
  clear c0 c1
  go_wp2_with fail
  refine HK.out _ _ ?_
  repeat (go_big_quiet_step (fail))
  refine wpQuiet_nil ?_
  rintro _ ⟨nq2, rfl⟩
  clear HK
  have hA := HA2.out.c1
  have hF := HA2.out.f1
  go_wp2_with fail
  refine (HU.out _).mono ?_
  rintro e w3 ⟨rfl, rfl⟩
  go_wp2_with fail
  refine (writeRune_calls _ _ b 2 bt_reader x.out u (by omega) _ (((HA2.out.drewN _).setp (x.p + n) _ (by omega)).bu) hl).mono ?_
  rintro e w3 ⟨⟨k, rfl⟩, hb3, hw3⟩
  have HE := Lib.hid (And.intro (AR.wrote ((HA2.out.drewN _).setp (x.p + n) ((x.p : Int) + (n : Int)) (by omega)) hb3 hw3) (((below_drewN HB2.out _).setCell (p := ⟨b, 1, none⟩) (Nat.le_refl b) (.int .i64 ((x.p : Int) + (n : Int)))).trans hw3.below)); clear hb3 hw3
  go_wp2
  go_ret
  exact ⟨rfl, HE.out⟩
set_option maxHeartbeats 2000000 in
set_option maxRecDepth 100000 in
theorem special_one_lo_none (b : Nat) (s : ByteArray) (x : AS) (w : World) (h : AR b s x w) (hl : x.out.length ≤ 1099511627776) (hs : s.size ≤ 1099511627776) (ht : Tabs w) (hb : ng ≤ b) (r n : Nat) (hp : x.p < s.size) (hd : Utf8.decode s x.p = (r, n)) (hn : n = 1) (hr : r < 128) (hr2 : r ≠ 120) (hr3 : r ≠ 94) (hlo : r < 48) (hu : unescape r = none) :
    Calls Tryd.prog 64 #[.pointer (some ⟨b, 0, none⟩)] w (AStep b s w (some { x with p := x.p + n, out := x.out ++ (Utf8.encode (r : Int)).data.toList })) := by
  have HA := Lib.hid h; clear h
  have HT := Lib.hid ht; clear ht
  have e65533 : ((r : Int) == 65533) = false := by rw [beq_eq_false_iff_ne]; omega
  have e120 : ((r : Int) == 120) = false := by rw [beq_eq_false_iff_ne]; omega
  have e94 : ((r : Int) == 94) = false := by rw [beq_eq_false_iff_ne]; omega
  have en1 : ((n : Int) == 1) = true := by rw [hn]; rfl
  have hn1 : n ≤ 4 := by omega
  have hw8 : IntKind.u8.wrap (r : Int) = (r : Int) := IntWalk.u8_in _ (by omega)
  have huc := fun W => unescape_calls r (by omega) W
  unfold unRes at huc
  rw [hu] at huc
  have HU := Lib.hid huc; clear huc hu
  have HD := Lib.hid hd; clear hd
  clear hr2 hr3 hn
  go_enter Tryd.func64, Tryd.ntmps64
  go_wp2_with fail
  refine Seg.wp_region_seg [9] (by kernel_rfl) (by kernel_rfl) (by kernel_rfl) ?_
  simp only [Seg.wpSeg, Nat.sub_zero, Nat.reduceAdd, Nat.reduceSub, List.take_succ_cons, List.take_zero, List.drop_succ_cons, List.drop_zero]
  have HA1 := Lib.hid HA.out.drew
  have HT1 := Lib.hid (HT.out.drewN 1)
  have HB1 := Lib.hid ((Below.refl b w).drew)
  have hw1 : w.drewN 1 = w.drew := rfl
  rw [hw1] at HT1
  clear hw1
  generalize w.drew = w1 at *
  have c0 := HA1.out.c0
  have c1 := HA1.out.c1
  repeat (go_big_quiet_step (fail))
  refine wpQuiet_nil ?_
  rintro _ ⟨nq, rfl⟩ K hK
  have HK := Lib.hid hK; clear hK
  go_wp2_with fail
  refine (dec_calls s x.p r n _ (HT1.out.drewN _) hp HD.out).mono ?_
  rintro e w2 ⟨rfl, hb2⟩
  have HA2 := Lib.hid (AR.below (HA1.out.drewN nq) hb2)
  have HT2 := Lib.hid (Tabs.below (HT1.out.drewN nq) hb2)
  have HB2 := Lib.hid ((below_drewN HB1.out nq).trans (hb2.mono (Nat.le_of_lt (HA1.out.drewN nq).bw))); clear hb2
  clear c0 c1
  go_wp2_with fail
  refine HK.out _ _ ?_
  repeat (go_big_quiet_step (fail))
  refine wpQuiet_nil ?_
  rintro _ ⟨nq2, rfl⟩
  clear HK
  have hA := HA2.out.c1
  have hF := HA2.out.f1
  go_wp2_with fail
  refine (HU.out _).mono ?_
  rintro e w3 ⟨rfl, rfl⟩
  go_wp2_with fail
  refine (writeRune_calls _ _ b 2 bt_reader x.out r (by omega) _ (((HA2.out.drewN _).setp (x.p + n) _ (by omega)).bu) hl).mono ?_
  rintro e w3 ⟨⟨k, rfl⟩, hb3, hw3⟩
  have HE := Lib.hid (And.intro (AR.wrote ((HA2.out.drewN _).setp (x.p + n) ((x.p : Int) + (n : Int)) (by omega)) hb3 hw3) (((below_drewN HB2.out _).setCell (p := ⟨b, 1, none⟩) (Nat.le_refl b) (.int .i64 ((x.p : Int) + (n : Int)))).trans hw3.below)); clear hb3 hw3
  go_wp2
  go_ret
  exact ⟨rfl, HE.out⟩

theorem unescape_lt {r u : Nat} (h : unescape r = some u) : u < 128 := by
  unfold unescape at h
  repeat' (split at h)
  all_goals first | (cases h; omega) | cases h
theorem special_calls (b : Nat) (s : ByteArray) (x : AS) (w : World) (h : AR b s x w) (hl : x.out.length ≤ 1099511627776) (hp : x.p ≤ s.size) (hs : s.size ≤ 1099511627776) (ht : Tabs w) (hb : ng ≤ b) :
    Calls Tryd.prog 64 #[.pointer (some ⟨b, 0, none⟩)] w (AStep b s w (specialA s x)) := by
  unfold specialA
  by_cases hlt : x.p < s.size
  · rw [if_pos hlt]
    have h1 := decode_one s x.p
    have hpos := width_pos s x.p hlt
    rcases hd : Utf8.decode s x.p with ⟨r, n⟩
    rw [hd] at h1 hpos
    simp only at h1 hpos ⊢
    by_cases hbad : r = 65533 ∧ n < 2
    · rw [if_pos hbad]; exact special_bad b s x w h hl hs ht hb r n hlt hd hbad.1 hbad.2
    rw [if_neg hbad]
    by_cases hx : r = 120
    · rw [if_pos hx]; exact special_x b s x w h hl hs ht hb r n hlt hd hx
    rw [if_neg hx]
    by_cases hc : r = 94
    · rw [if_pos hc]; exact special_ctl b s x w h hl hs ht hb r n hlt hd hc
    rw [if_neg hc]
    by_cases ho : 48 ≤ r ∧ r ≤ 55
    · rw [if_pos ho]; exact special_oct b s x w h hl hs ht hb r n hlt hd ho.1 ho.2
    rw [if_neg ho]
    by_cases hn : n = 1
    · rw [if_pos hn]
      have hr : r < 128 := by
        rcases h1 hn with h2 | h2
        · exact h2
        · exact absurd ⟨h2, by omega⟩ hbad
      cases hu : unescape r with
      | some u =>
        rw [Option.getD_some]
        rcases Nat.lt_or_ge r 48 with hlo | hlo
        · exact special_one_lo_some b s x w h hl hs ht hb r n hlt hd hn hr hx hc hlo u hu (unescape_lt hu)
        · exact special_one_hi_some b s x w h hl hs ht hb r n hlt hd hn hr hx hc hlo (by omega) u hu (unescape_lt hu)
      | none =>
        rw [Option.getD_none]
        rcases Nat.lt_or_ge r 48 with hlo | hlo
        · exact special_one_lo_none b s x w h hl hs ht hb r n hlt hd hn hr hx hc hlo hu
        · exact special_one_hi_none b s x w h hl hs ht hb r n hlt hd hn hr hx hc hlo (by omega) hu
    · rw [if_neg hn]
      by_cases he : r = 65533
      · exact special_wide_err b s x w h hl hs ht hb r n hlt hd he (by omega)
      · rcases Nat.lt_or_ge r 48 with hlo | hlo
        · exact special_wide_lo b s x w h hl hs ht hb r n hlt hd he (by omega) hx hc hlo
        · exact special_wide_hi b s x w h hl hs ht hb r n hlt hd he (by omega) hx hc hlo (by omega)
  · rw [if_neg hlt]; exact special_end b s x w h hl hs ht hb (by omega)
end Go.Proofs.YtebdikbngnolbaaDoor
