/- Walks: the reader of atoms in quotes: behind \x. -/
import Derived.Test.YtejpdfenejbjdaaGreatDoorAtomC
import Derived.Test.YtejpdfenejbjdaaGreatDoorSeg
namespace Go.Proofs.YtejpdfenejbjdaaGreatDoor
open Go.RowKit Txt
set_option linter.unusedVariables false
set_option linter.unusedSimpArgs false

theorem putA_p (x : AS) (n : Nat) : (putA x n).p = x.p := by unfold putA; split <;> rfl
theorem digitsF_le {s : ByteArray} {base : Nat} : ∀ {m p n k : Nat}, p ≤ s.size → n ≤ 4294967296 → p ≤ (digitsF s base m p n k).2.2 ∧ (digitsF s base m p n k).2.2 ≤ s.size ∧ (digitsF s base m p n k).2.1 ≤ 4294967296 ∧ k ≤ (digitsF s base m p n k).1 ∧ (digitsF s base m p n k).2.2 = p + ((digitsF s base m p n k).1 - k) := by
  intro m
  induction m with
  | zero => intro p n k hp hn; rw [digitsF]; exact ⟨Nat.le_refl _, hp, hn, Nat.le_refl _, by simp⟩
  | succ m ih =>
    intro p n k hp hn
    rw [digitsF]
    cases hd : (at? s p).bind (digVal base) with
    | none => exact ⟨Nat.le_refl _, hp, hn, Nat.le_refl _, by simp⟩
    | some d =>
      have hlt : p < s.size := by
        rcases Nat.lt_or_ge p s.size with h | h
        · exact h
        · rw [at?_ge h] at hd; cases hd
      have := ih (p := p + 1) (n := min (n * base + d) 4294967296) (k := k + 1) (by omega) (by omega)
      simp only
      omega
theorem putA_out (x : AS) (n : Nat) : x.out.length ≤ (putA x n).out.length ∧ (putA x n).out.length ≤ x.out.length + 4 := by
  unfold putA; split
  · exact ⟨Nat.le_refl _, Nat.le_add_right _ _⟩
  · have := encode_le n; simp only [List.length_append]; omega
theorem digitsA_p {s : ByteArray} {x y : AS} {base least most : Nat} (hx : x.p ≤ s.size) (hl : 0 < least) (h : digitsA s x base least most = some y) : x.p < y.p ∧ y.p ≤ s.size ∧ x.out.length ≤ y.out.length ∧ y.out.length ≤ x.out.length + 4 := by
  unfold digitsA at h
  have hd := digitsF_le (s := s) (base := base) (m := most) (p := x.p) (n := 0) (k := 0) hx (by omega)
  simp only at h
  split at h
  · cases h
  · cases h
    have := putA_out { x with p := (digitsF s base most x.p 0 0).2.2 } (digitsF s base most x.p 0 0).2.1
    rw [putA_p]
    simp only at this ⊢
    omega

set_option maxHeartbeats 2000000 in
set_option maxRecDepth 100000 in
theorem hex_none (b : Nat) (s : ByteArray) (x : AS) (w : World) (h : AR b s x w) (hl : x.out.length ≤ 1099511627776) (hp : x.p ≤ s.size) (hs : s.size ≤ 1099511627776) (h123 : at? s x.p = some 123) (hd : digitsA s { x with p := x.p + 1 } 16 1 s.size = none) :
    Calls Tryz.prog 221 #[.pointer (some ⟨b, 0, none⟩)] w (AStep b s w none) := by
  have HA := Lib.hid h; clear h
  have c0 := HA.out.c0
  have c1 := HA.out.c1
  have f1 := HA.out.f1
  obtain ⟨hlt, hc⟩ := at?_some h123
  have hc1 : ((s[x.p].toNat : Int) == 123) = true := by rw [hc]; rfl
  clear hc h123
  have hcall := fun W h => digitsA_calls b s { x with p := x.p + 1 } 16 1 s.size W h hl (by simp; omega) hs (by omega) (by omega) hs
  rw [hd] at hcall
  have HC := Lib.hid hcall; clear hcall hd
  go_enter Tryz.func221, Tryz.ntmps221
  go_wp2_with fail
  go_quiet (fail)
  go_wp2_with fail
  have har := (HA.out.drewN nq).setp (x.p + 1) ((x.p : Int) + 1) (by omega)
  have hbe := (below_drewN (Below.refl b w) nq).setCell (p := ⟨b, 1, none⟩) (Nat.le_refl b) (.int .i64 ((x.p : Int) + 1))
  generalize (w.drewN nq).setCell ⟨b, 1, none⟩ (.int .i64 ((x.p : Int) + 1)) = w2 at *
  clear c0 c1 f1
  refine Seg.wp_region_seg [6] (by kernel_rfl) (by kernel_rfl) (by kernel_rfl) ?_
  simp only [Seg.wpSeg, Nat.sub_zero, Nat.reduceAdd, Nat.reduceSub, List.take_succ_cons, List.take_zero, List.drop_succ_cons, List.drop_zero]
  have HA3 := Lib.hid har.drew; clear har
  have HB3 := Lib.hid hbe.drew; clear hbe
  generalize w2.drew = w3 at *
  have c03 := HA3.out.c0
  repeat (go_big_quiet_step (fail))
  refine wpQuiet_nil ?_
  rintro _ ⟨nq, rfl⟩ K hK
  have HK := Lib.hid hK; clear hK
  go_wp2_with fail
  refine (HC.out _ (HA3.out.drewN _)).mono ?_
  rintro e w4 ⟨rfl, h4, hb4⟩
  have HE := Lib.hid (And.intro h4 ((below_drewN HB3.out _).trans hb4)); clear h4 hb4
  go_wp2_with fail
  refine HK.out _ _ ?_
  repeat (go_big_quiet_step (fail))
  refine wpQuiet_nil ?_
  rintro _ ⟨nq2, rfl⟩
  go_wp2
  go_ret
  exact ⟨rfl, ⟨_, HE.out.1.choose_spec.drewN _⟩, below_drewN HE.out.2 _⟩
set_option maxHeartbeats 2000000 in
set_option maxRecDepth 100000 in
theorem hex_end (b : Nat) (s : ByteArray) (x : AS) (w : World) (h : AR b s x w) (hl : x.out.length ≤ 1099511627776) (hp : x.p ≤ s.size) (hs : s.size ≤ 1099511627776) (h123 : at? s x.p = some 123) (y : AS) (hd : digitsA s { x with p := x.p + 1 } 16 1 s.size = some y) (hy : s.size ≤ y.p) :
    Calls Tryz.prog 221 #[.pointer (some ⟨b, 0, none⟩)] w (AStep b s w none) := by
  have HA := Lib.hid h; clear h
  have c0 := HA.out.c0
  have c1 := HA.out.c1
  have f1 := HA.out.f1
  obtain ⟨hlt, hc⟩ := at?_some h123
  have hc1 : ((s[x.p].toNat : Int) == 123) = true := by rw [hc]; rfl
  clear hc h123
  have hcall := fun W h => digitsA_calls b s { x with p := x.p + 1 } 16 1 s.size W h hl (by simp; omega) hs (by omega) (by omega) hs
  rw [hd] at hcall
  have HC := Lib.hid hcall; clear hcall hd
  go_enter Tryz.func221, Tryz.ntmps221
  go_wp2_with fail
  go_quiet (fail)
  go_wp2_with fail
  have har := (HA.out.drewN nq).setp (x.p + 1) ((x.p : Int) + 1) (by omega)
  have hbe := (below_drewN (Below.refl b w) nq).setCell (p := ⟨b, 1, none⟩) (Nat.le_refl b) (.int .i64 ((x.p : Int) + 1))
  generalize (w.drewN nq).setCell ⟨b, 1, none⟩ (.int .i64 ((x.p : Int) + 1)) = w2 at *
  clear c0 c1 f1
  refine Seg.wp_region_seg [6] (by kernel_rfl) (by kernel_rfl) (by kernel_rfl) ?_
  simp only [Seg.wpSeg, Nat.sub_zero, Nat.reduceAdd, Nat.reduceSub, List.take_succ_cons, List.take_zero, List.drop_succ_cons, List.drop_zero]
  have HA3 := Lib.hid har.drew; clear har
  have HB3 := Lib.hid hbe.drew; clear hbe
  generalize w2.drew = w3 at *
  have c03 := HA3.out.c0
  repeat (go_big_quiet_step (fail))
  refine wpQuiet_nil ?_
  rintro _ ⟨nq, rfl⟩ K hK
  have HK := Lib.hid hK; clear hK
  go_wp2_with fail
  refine (HC.out _ (HA3.out.drewN _)).mono ?_
  rintro e w4 ⟨rfl, h4, hb4⟩
  have HE := Lib.hid (And.intro h4 ((below_drewN HB3.out _).trans hb4)); clear h4 hb4
  have d0 := HE.out.1.c0
  have d1 := HE.out.1.c1
  have g1 := HE.out.1.f1
  go_wp2_with fail
  refine HK.out _ _ ?_
  repeat (go_big_quiet_step (fail))
  refine wpQuiet_nil ?_
  rintro _ ⟨nq2, rfl⟩
  go_wp2
  go_ret
  exact ⟨rfl, ⟨_, HE.out.1.drewN _⟩, below_drewN HE.out.2 _⟩
set_option maxHeartbeats 2000000 in
set_option maxRecDepth 100000 in
theorem hex_other (b : Nat) (s : ByteArray) (x : AS) (w : World) (h : AR b s x w) (hl : x.out.length ≤ 1099511627776) (hp : x.p ≤ s.size) (hs : s.size ≤ 1099511627776) (h123 : at? s x.p = some 123) (y : AS) (hd : digitsA s { x with p := x.p + 1 } 16 1 s.size = some y) (hy : y.p < s.size) (hy2 : s[y.p] ≠ 125) :
    Calls Tryz.prog 221 #[.pointer (some ⟨b, 0, none⟩)] w (AStep b s w none) := by
  have HA := Lib.hid h; clear h
  have c0 := HA.out.c0
  have c1 := HA.out.c1
  have f1 := HA.out.f1
  obtain ⟨hlt, hc⟩ := at?_some h123
  have hc1 : ((s[x.p].toNat : Int) == 123) = true := by rw [hc]; rfl
  clear hc h123
  have hcall := fun W h => digitsA_calls b s { x with p := x.p + 1 } 16 1 s.size W h hl (by simp; omega) hs (by omega) (by omega) hs
  rw [hd] at hcall
  have hc2 : ((s[y.p].toNat : Int) == 125) = false := ne_byte' _ 125 (by omega) hy2
  have hc3 : ((s[y.p].toNat : Int) != 125) = true := by rw [bne, hc2]; rfl
  have hdec : decide (s.size ≤ y.p) = false := by simp; omega
  clear hy2
  have HC := Lib.hid hcall; clear hcall hd
  go_enter Tryz.func221, Tryz.ntmps221
  go_wp2_with fail
  go_quiet (fail)
  go_wp2_with fail
  have har := (HA.out.drewN nq).setp (x.p + 1) ((x.p : Int) + 1) (by omega)
  have hbe := (below_drewN (Below.refl b w) nq).setCell (p := ⟨b, 1, none⟩) (Nat.le_refl b) (.int .i64 ((x.p : Int) + 1))
  generalize (w.drewN nq).setCell ⟨b, 1, none⟩ (.int .i64 ((x.p : Int) + 1)) = w2 at *
  clear c0 c1 f1
  refine Seg.wp_region_seg [6] (by kernel_rfl) (by kernel_rfl) (by kernel_rfl) ?_
  simp only [Seg.wpSeg, Nat.sub_zero, Nat.reduceAdd, Nat.reduceSub, List.take_succ_cons, List.take_zero, List.drop_succ_cons, List.drop_zero]
  have HA3 := Lib.hid har.drew; clear har
  have HB3 := Lib.hid hbe.drew; clear hbe
  generalize w2.drew = w3 at *
  have c03 := HA3.out.c0
  repeat (go_big_quiet_step (fail))
  refine wpQuiet_nil ?_
  rintro _ ⟨nq, rfl⟩ K hK
  have HK := Lib.hid hK; clear hK
  go_wp2_with fail
  refine (HC.out _ (HA3.out.drewN _)).mono ?_
  rintro e w4 ⟨rfl, h4, hb4⟩
  have HE := Lib.hid (And.intro h4 ((below_drewN HB3.out _).trans hb4)); clear h4 hb4
  have d0 := HE.out.1.c0
  have d1 := HE.out.1.c1
  have g1 := HE.out.1.f1
  go_wp2_with fail
  refine HK.out _ _ ?_
  repeat (go_big_quiet_step (fail))
  refine wpQuiet_nil ?_
  rintro _ ⟨nq2, rfl⟩
  go_wp2
  go_ret
  exact ⟨rfl, ⟨_, HE.out.1.drewN _⟩, below_drewN HE.out.2 _⟩
set_option maxHeartbeats 2000000 in
set_option maxRecDepth 100000 in
theorem hex_good (b : Nat) (s : ByteArray) (x : AS) (w : World) (h : AR b s x w) (hl : x.out.length ≤ 1099511627776) (hp : x.p ≤ s.size) (hs : s.size ≤ 1099511627776) (h123 : at? s x.p = some 123) (y : AS) (hd : digitsA s { x with p := x.p + 1 } 16 1 s.size = some y) (hy : y.p < s.size) (hy2 : s[y.p] = 125) :
    Calls Tryz.prog 221 #[.pointer (some ⟨b, 0, none⟩)] w (AStep b s w (some { y with p := y.p + 1 })) := by
  have HA := Lib.hid h; clear h
  have c0 := HA.out.c0
  have c1 := HA.out.c1
  have f1 := HA.out.f1
  obtain ⟨hlt, hc⟩ := at?_some h123
  have hc1 : ((s[x.p].toNat : Int) == 123) = true := by rw [hc]; rfl
  clear hc h123
  have hcall := fun W h => digitsA_calls b s { x with p := x.p + 1 } 16 1 s.size W h hl (by simp; omega) hs (by omega) (by omega) hs
  rw [hd] at hcall
  have hc2 : ((s[y.p].toNat : Int) == 125) = true := by rw [hy2]; rfl
  have hc3 : ((s[y.p].toNat : Int) != 125) = false := by rw [bne, hc2]; rfl
  have hdec : decide (s.size ≤ y.p) = false := by simp; omega
  clear hy2
  have HC := Lib.hid hcall; clear hcall hd
  go_enter Tryz.func221, Tryz.ntmps221
  go_wp2_with fail
  go_quiet (fail)
  go_wp2_with fail
  have har := (HA.out.drewN nq).setp (x.p + 1) ((x.p : Int) + 1) (by omega)
  have hbe := (below_drewN (Below.refl b w) nq).setCell (p := ⟨b, 1, none⟩) (Nat.le_refl b) (.int .i64 ((x.p : Int) + 1))
  generalize (w.drewN nq).setCell ⟨b, 1, none⟩ (.int .i64 ((x.p : Int) + 1)) = w2 at *
  clear c0 c1 f1
  refine Seg.wp_region_seg [6] (by kernel_rfl) (by kernel_rfl) (by kernel_rfl) ?_
  simp only [Seg.wpSeg, Nat.sub_zero, Nat.reduceAdd, Nat.reduceSub, List.take_succ_cons, List.take_zero, List.drop_succ_cons, List.drop_zero]
  have HA3 := Lib.hid har.drew; clear har
  have HB3 := Lib.hid hbe.drew; clear hbe
  generalize w2.drew = w3 at *
  have c03 := HA3.out.c0
  repeat (go_big_quiet_step (fail))
  refine wpQuiet_nil ?_
  rintro _ ⟨nq, rfl⟩ K hK
  have HK := Lib.hid hK; clear hK
  go_wp2_with fail
  refine (HC.out _ (HA3.out.drewN _)).mono ?_
  rintro e w4 ⟨rfl, h4, hb4⟩
  have HE := Lib.hid (And.intro h4 ((below_drewN HB3.out _).trans hb4)); clear h4 hb4
  have d0 := HE.out.1.c0
  have d1 := HE.out.1.c1
  have g1 := HE.out.1.f1
  go_wp2_with fail
  refine HK.out _ _ ?_
  repeat (go_big_quiet_step (fail))
  refine wpQuiet_nil ?_
  rintro _ ⟨nq2, rfl⟩
  go_wp2
  go_ret
  exact ⟨rfl, (HE.out.1.drewN _).setp (y.p + 1) _ (by omega), (below_drewN HE.out.2 _).setCell (p := ⟨b, 1, none⟩) (Nat.le_refl b) _⟩
set_option maxHeartbeats 4000000 in
set_option maxRecDepth 100000 in
theorem hex_calls (b : Nat) (s : ByteArray) (x : AS) (w : World) (h : AR b s x w) (hl : x.out.length ≤ 1099511627776) (hp : x.p ≤ s.size) (hs : s.size ≤ 1099511627776) :
    Calls Tryz.prog 221 #[.pointer (some ⟨b, 0, none⟩)] w (AStep b s w (hexA s x)) := by
  have HA := Lib.hid h; clear h
  have c0 := HA.out.c0
  have c1 := HA.out.c1
  have f1 := HA.out.f1
  unfold hexA
  by_cases h123 : at? s x.p = some 123
  · rw [if_pos h123]
    obtain ⟨hlt, hc⟩ := at?_some h123
    have hc1 : ((s[x.p].toNat : Int) == 123) = true := by rw [hc]; rfl
    clear hc hc1 c0 c1 f1
    cases hd : digitsA s { x with p := x.p + 1 } 16 1 s.size with
    | none => exact hex_none b s x w HA.out hl hp hs h123 hd
    | some y =>
      simp only
      have hyp := digitsA_p (by simp; omega) (by omega) hd
      rcases Nat.lt_or_ge y.p s.size with hy | hy
      · by_cases hy2 : s[y.p] = 125
        · rw [if_pos (by rw [at?_lt hy, hy2])]
          exact hex_good b s x w HA.out hl hp hs h123 y hd hy hy2
        · rw [if_neg (by rw [at?_lt hy]; simpa using hy2)]
          exact hex_other b s x w HA.out hl hp hs h123 y hd hy hy2
      · rw [if_neg (by rw [at?_ge hy]; simp)]
        exact hex_end b s x w HA.out hl hp hs h123 y hd hy
  · rw [if_neg h123]
    have hcall := fun W h => digitsA_calls b s x 16 2 2 W h hl hp hs (by omega) (by omega) (by omega)
    generalize digitsA s x 16 2 2 = R at *
    have HC := Lib.hid hcall; clear hcall
    have HN := Lib.hid h123; clear h123
    cases R
    all_goals
      by_cases hlt : x.p < s.size
      · have hc1 : ((s[x.p].toNat : Int) == 123) = false := ne_byte' _ 123 (by omega) (fun e => HN.out (by rw [at?_lt hlt, e]; rfl))
        go_enter Tryz.func221, Tryz.ntmps221
        go_wp2_with fail
        go_quiet (fail)
        go_wp2_with fail
        refine (HC.out _ (HA.out.drewN _)).mono ?_
        rintro e w1 ⟨rfl, h1⟩
        first
          | (have HE := Lib.hid (And.intro h1.1 ((below_drewN (Below.refl b w) _).trans h1.2)); clear h1; go_wp2; go_ret; exact ⟨rfl, HE.out⟩)
          | fail
      · go_enter Tryz.func221, Tryz.ntmps221
        go_wp2_with fail
        go_quiet (fail)
        go_wp2_with fail
        refine (HC.out _ (HA.out.drewN _)).mono ?_
        rintro e w1 ⟨rfl, h1⟩
        first
          | (have HE := Lib.hid (And.intro h1.1 ((below_drewN (Below.refl b w) _).trans h1.2)); clear h1; go_wp2; go_ret; exact ⟨rfl, HE.out⟩)
          | fail
end Go.Proofs.YtejpdfenejbjdaaGreatDoor
