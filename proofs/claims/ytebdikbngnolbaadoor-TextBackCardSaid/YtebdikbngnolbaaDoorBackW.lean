/- Walks: TextBack. -/
import Derived.Test.YtebdikbngnolbaaDoorKnown
import Derived.Test.YtebdikbngnolbaaDoorPAll
import Derived.Test.YtebdikbngnolbaaDoorRefRight
namespace Go.Proofs.YtebdikbngnolbaaDoor
open Go.RowKit Txt
set_option linter.unusedVariables false
set_option linter.unusedSimpArgs false

theorem same_self2 (t : List Cl) : sameL t t = true := by
  induction t with
  | nil => rfl
  | cons c t ih => simp [sameL, sameC, ih]
theorem texts_right {t : List Cl} (h : (right t).1 = 0) : TextsOk t := by
  intro c hc
  have := (right_cells h).2 c hc
  unfold cellE cellV at this
  repeat' split at this
  all_goals first | omega | (exfalso; revert this; decide)
theorem print_err (t : List Cl) : (print t).2 = (right t).1 ∨ (print t).2 = 4 := by
  unfold print
  split
  · exact .inl rfl
  · rename_i h
    have h : (right t).1 = 0 := Decidable.byContradiction h
    cases printF t [] [] with
    | none => exact .inr rfl
    | some b => exact .inl h.symm
theorem back_one {t : List Cl} (hf : ∀ c ∈ t, fits c) (h : (print t).2 = 0) : (right t).1 = 0 ∧ parse (Txt.bytes (print t).1) = (t, 0, 0) ∧ t.length ≤ 1024 ∧ (Txt.bytes (print t).1).size ≤ 65536 := by
  have h1 := print_right h
  refine ⟨h1, parse_print encode_rune h1 hf (r := (print t).1) (by rw [← h]), (right_cells h1).1, ?_⟩
  rw [bytes_size]; exact print_len h
theorem back_all {l : List (List Cl)} (hf : ∀ t ∈ l, ∀ c ∈ t, fits c) (h : (printAll l).2.1 = 0) : parseAll (Txt.bytes (printAll l).1) = (l, 0, 0) ∧ (∀ t ∈ l, t.length ≤ 1024) ∧ (Txt.bytes (printAll l).1).size ≤ 65536 := by
  have e : printAll l = ((printAll l).1, 0, (printAll l).2.2) := by rw [← h]
  obtain ⟨-, -, h3, h4⟩ := printAllF_ok _ _ _ _ _ e
  refine ⟨parseAll_print encode_rune hf e, fun t ht => (right_cells (print_right (h4 t ht))).1, ?_⟩
  rw [bytes_size]; exact h3
theorem parse_zero {s : ByteArray} (h : (parse s).2.1 = 0) : parse s = ((parse s).1, 0, 0) := by
  unfold parse at h ⊢
  split
  · rename_i hx; rw [if_pos hx] at h; exact absurd h (by decide)
  · rename_i hx; rw [if_neg hx] at h
    cases hT : term (fuel s 0) s 0 with
    | bad e a => rw [hT] at h; exact absurd h (term_ne hT)
    | ok t q =>
      rw [hT] at h
      simp only at h ⊢
      split
      · rename_i h1; rw [if_pos h1] at h; exact absurd h (by show (70 : Int) ≠ 0; decide)
      · rename_i h1; rw [if_neg h1] at h
        split
        · rename_i h2; rw [if_pos h2] at h; exact absurd h (by show (7 : Int) ≠ 0; decide)
        · rfl
theorem back_text {s : ByteArray} (h : (parse s).2.1 = 0) : (∀ c ∈ (parse s).1, fits c) ∧ TextsOk (parse s).1 ∧ (parse s).1.length ≤ 1024 ∧ ((print (parse s).1).2 = 4 ∨ (print (parse s).1).2 = 0) := by
  obtain ⟨h1, h2⟩ := parse_right (fun _ _ _ _ _ h => term_ne h) (parse_zero h)
  have h3 : (right (parse s).1).1 = 0 := by rw [h1]
  refine ⟨h2, texts_right h3, (right_cells h3).1, ?_⟩
  rcases print_err (parse s).1 with h | h
  · right; rw [h, h3]
  · left; exact h

def BackOut (w : World) (e : Ending) (w' : World) : Prop := e = .returned (.bool true) ∧ Below w.heap.size w w'

set_option maxHeartbeats 8000000 in
set_option maxRecDepth 100000 in
theorem tback_calls (x y : Value) (t : List Cl) (l : List (List Cl)) (s : ByteArray) (w : World) (hx : SeesT w x t) (hto : TextsOk t) (hf : ∀ c ∈ t, fits c)
    (hy : SeesTT w y l) (hlo : ∀ t ∈ l, TextsOk t ∧ ∀ c ∈ t, fits c) (hll : l.length ≤ 140737488355328) (hs : s.size ≤ 140737488355328) (ht : Tabs w) :
    Calls Tryd.prog 4 #[x, y, .string s] w (BackOut w) := by
  have HT := Lib.hid ht; clear ht
  have HX := Lib.hid hx; clear hx
  have HL := Lib.hid hy; clear hy
  have law1 := fun h => back_one (t := t) hf h
  have law0 := print_err t
  have law2 := fun h => back_all (l := l) (fun t ht => (hlo t ht).2) h
  have law3 := fun h => back_text (s := s) h
  have law4 := fun hf h => back_one (t := (parse s).1) hf h
  have hpt := print_calls x t w HX.out hto hf HT.out
  have hrt := fun W h1 h2 => rright_calls x t (right t).1 (right t).2 W h1 hto h2 rfl
  have hpa := fun W h1 h2 => printAll_calls y l W h1 hlo hll h2
  have hps := fun W ht => parse_calls s W ht hs
  have hpu := fun xv W h1 h2 h3 ht => print_calls xv (parse s).1 W h1 h2 h3 ht
  clear hto hf hlo
  generalize hR3 : parse s = R3 at *
  obtain ⟨u, g, k⟩ := R3
  simp only at law3 law4 hpu
  generalize hR4 : print u = R4 at *
  obtain ⟨pu, pue⟩ := R4
  generalize hR1 : print t = R1 at *
  obtain ⟨pr, pe⟩ := R1
  generalize hR0 : right t = R0 at *
  obtain ⟨v, kk⟩ := R0
  generalize hR2 : printAll l = R2 at *
  obtain ⟨rl, p2, n2⟩ := R2
  clear hR0 hR1 hR2 hR3 hR4
  simp only at law0 law1 law2 law3 law4 hpt hrt hpa hpu
  have LAW1 := Lib.hid law1; clear law1
  have LAW2 := Lib.hid law2; clear law2
  have LAW3 := Lib.hid law3; clear law3
  have LAW4 := Lib.hid law4; clear law4
  have HPT := Lib.hid hpt; clear hpt
  have HRT := Lib.hid hrt; clear hrt
  have HPA := Lib.hid hpa; clear hpa
  have HPS := Lib.hid hps; clear hps
  have HPU := Lib.hid hpu; clear hpu
  obtain ⟨XA, xc, rfl, -, -⟩ := id HX.out
  go_enter Tryd.func4, Tryd.ntmps4
  go_wp2_with fail
  refine (HPT.out).mono ?_
  rintro e0 w0 ⟨rfl, hb0⟩
  have HB1 := Lib.hid hb0; clear hb0
  go_wp2_with fail
  refine (HRT.out _ (HX.out.below HB1.out) (HT.out.below HB1.out)).mono ?_
  rintro e1 w1 ⟨rfl, hb1⟩
  have HB0 := Lib.hid (HB1.out.trans (hb1.mono HB1.out.size)); clear hb1 HB1
  by_cases hpe : pe = 0
  · obtain ⟨lr1, lr2, lr3, lr4⟩ := LAW1.out hpe
    subst hpe lr1
    have LR4 := Lib.hid lr4; clear lr4
    have hpp := fun W ht => parse_calls (Txt.bytes pr) W ht (by have := LR4.out; omega)
    rw [lr2] at hpp
    have HPP := Lib.hid hpp; clear hpp lr2
    go_wp2_with fail
    refine (HPP.out _ (HT.out.below HB0.out)).mono ?_
    rintro e11 w11 ⟨xu, rfl, hxu, hb11⟩
    simp only at hxu
    have HXU := Lib.hid hxu
    obtain ⟨UA, uc, rfl, -, -⟩ := hxu
    have HBU := Lib.hid (HB0.out.trans (hb11.mono HB0.out.size)); clear hb11 HB0
    have hsm := same_calls _ _ t t w11 (HX.out.below HBU.out) HXU.out (by omega)
    rw [same_self2] at hsm
    have HSM0 := Lib.hid hsm; clear hsm
    go_wp2_with (go_at_call 8; refine (HSM0.out).mono ?_; rintro e12 w12 ⟨rfl, n12, rfl⟩)
    have HB0 := Lib.hid (below_drewN HBU.out n12)
    generalize w11.drewN n12 = w12 at *
    refine (HPA.out _ (HL.out.below HB0.out) (HT.out.below HB0.out)).mono ?_
    rintro e2 w2 ⟨rfl, hb2⟩
    have HBL := Lib.hid (HB0.out.trans (hb2.mono HB0.out.size)); clear hb2
    by_cases hp2 : p2 = 0
    · obtain ⟨la1, la2, la3⟩ := LAW2.out hp2
      subst hp2
      have LA2 := Lib.hid la2; clear la2
      have LA3 := Lib.hid la3; clear la3
      have hpp := fun W ht => parseAll_calls (Txt.bytes rl) W ht (by have := LA3.out; omega)
      rw [la1] at hpp
      have HPP := Lib.hid hpp; clear hpp la1
      go_wp2_with fail
      refine (HPP.out _ (HT.out.below HBL.out)).mono ?_
      rintro e21 w21 ⟨xl, rfl, hxl, hb21⟩
      simp only at hxl
      have HXL := Lib.hid hxl
      obtain ⟨LA, lc, rfl, -, -⟩ := hxl
      have HBM := Lib.hid (HBL.out.trans (hb21.mono HBL.out.size)); clear hb21
      have hsa := sameAll_calls _ y l w21 HXL.out (HL.out.below HBM.out) LA2.out hll
      have HSA := Lib.hid hsa; clear hsa
      obtain ⟨YA, yc, rfl, -, -⟩ := HL.out
      go_wp2_with (go_at_call 13; refine (HSA.out).mono ?_; rintro e22 w22 ⟨rfl, n22, rfl⟩)
      have HB := Lib.hid (below_drewN HBM.out n22)
      generalize w21.drewN n22 = w22 at *
      refine (HPS.out _ (HT.out.below HB.out)).mono ?_
      rintro e3 w3 ⟨xs, rfl, hxs, hb3⟩
      simp only at hxs
      have HXS := Lib.hid hxs
      obtain ⟨SA, sc, rfl, -, -⟩ := hxs
      have HB3 := Lib.hid (HB.out.trans (hb3.mono HB.out.size)); clear hb3
      by_cases hg : g = 0
      · obtain ⟨lw1, lw2, lw3, lw4⟩ := LAW3.out hg
        have LW1 := Lib.hid lw1; clear lw1
        have LW2 := Lib.hid lw2; clear lw2
        subst hg
        have hpu := fun W h1 h2 => HPU.out (.slice SA u.length sc) W h1 LW2.out LW1.out h2
        have HPU2 := Lib.hid hpu; clear hpu
        rcases lw4 with rfl | rfl
        · go_wp2_with (first | (go_at_call 9; refine (HPU2.out _ HXS.out (HT.out.below HB3.out)).mono ?_; rintro e4 w4 ⟨rfl, hb4⟩; have HB4 := Lib.hid (HB3.out.trans (hb4.mono HB3.out.size)); clear hb4) | (go_at_call 7; refine (known_calls _ (HT.out.below HB4.out)).mono ?_; rintro e5 w5 ⟨rfl, hb5⟩))
          go_ret
          exact ⟨rfl, HB4.out.trans (hb5.mono HB4.out.size)⟩
        · obtain ⟨lb1, lb2, lb3⟩ := LAW4.out LW1.out rfl
          have LB3 := Lib.hid lb3; clear lb3
          have hpv := fun W ht => parse_calls (Txt.bytes pu) W ht (by have := LB3.out; omega)
          rw [lb2] at hpv
          have HPV := Lib.hid hpv; clear hpv lb1 lb2
          go_wp2_with fail
          refine (HPU2.out _ HXS.out (HT.out.below HB3.out)).mono ?_
          rintro e4 w4 ⟨rfl, hb4⟩
          have HB4 := Lib.hid (HB3.out.trans (hb4.mono HB3.out.size))
          have HXS4 := Lib.hid (HXS.out.below hb4); clear hb4
          go_wp2_with fail
          refine (HPV.out _ (HT.out.below HB4.out)).mono ?_
          rintro e5 w5 ⟨xv, rfl, hxv, hb5⟩
          simp only at hxv
          have HXV := Lib.hid hxv
          obtain ⟨VA, vc, rfl, -, -⟩ := hxv
          have HB5 := Lib.hid (HB4.out.trans (hb5.mono HB4.out.size))
          have HXS5 := Lib.hid (HXS4.out.below hb5); clear hb5
          go_wp2_with fail
          refine (HPU.out _ _ HXV.out LW2.out LW1.out (HT.out.below HB5.out)).mono ?_
          rintro e6 w6 ⟨rfl, hb6⟩
          have HB6 := Lib.hid (HB5.out.trans (hb6.mono HB5.out.size))
          have HXS6 := Lib.hid (HXS5.out.below hb6)
          have HXV6 := Lib.hid (HXV.out.below hb6); clear hb6
          have hsm := same_calls _ _ u u w6 HXS6.out HXV6.out (by omega)
          rw [same_self2] at hsm
          have HSM := Lib.hid hsm; clear hsm
          go_wp2_with (first | (go_at_call 8; refine (HSM.out).mono ?_; rintro e7 w7 ⟨rfl, n7, rfl⟩) | (go_at_call 7; refine (known_calls _ (HT.out.below (below_drewN HB6.out _))).mono ?_; rintro e8 w8 ⟨rfl, hb8⟩))
          go_ret
          exact ⟨rfl, (below_drewN HB6.out _).trans (hb8.mono HB6.out.size)⟩
      · have hgn : (g != 0) = true := by simpa using hg
        go_wp2_with (go_at_call 7; refine (known_calls _ (HT.out.below HB3.out)).mono ?_; rintro e5 w5 ⟨rfl, hb5⟩)
        go_ret
        exact ⟨rfl, HB3.out.trans (hb5.mono HB3.out.size)⟩
    · have hp2n : (p2 == 0) = false := by simpa using hp2
      have HB := HBL
      go_wp2_with fail
      refine (HPS.out _ (HT.out.below HB.out)).mono ?_
      rintro e3 w3 ⟨xs, rfl, hxs, hb3⟩
      simp only at hxs
      have HXS := Lib.hid hxs
      obtain ⟨SA, sc, rfl, -, -⟩ := hxs
      have HB3 := Lib.hid (HB.out.trans (hb3.mono HB.out.size)); clear hb3
      by_cases hg : g = 0
      · obtain ⟨lw1, lw2, lw3, lw4⟩ := LAW3.out hg
        have LW1 := Lib.hid lw1; clear lw1
        have LW2 := Lib.hid lw2; clear lw2
        subst hg
        have hpu := fun W h1 h2 => HPU.out (.slice SA u.length sc) W h1 LW2.out LW1.out h2
        have HPU2 := Lib.hid hpu; clear hpu
        rcases lw4 with rfl | rfl
        · go_wp2_with (first | (go_at_call 9; refine (HPU2.out _ HXS.out (HT.out.below HB3.out)).mono ?_; rintro e4 w4 ⟨rfl, hb4⟩; have HB4 := Lib.hid (HB3.out.trans (hb4.mono HB3.out.size)); clear hb4) | (go_at_call 7; refine (known_calls _ (HT.out.below HB4.out)).mono ?_; rintro e5 w5 ⟨rfl, hb5⟩))
          go_ret
          exact ⟨rfl, HB4.out.trans (hb5.mono HB4.out.size)⟩
        · obtain ⟨lb1, lb2, lb3⟩ := LAW4.out LW1.out rfl
          have LB3 := Lib.hid lb3; clear lb3
          have hpv := fun W ht => parse_calls (Txt.bytes pu) W ht (by have := LB3.out; omega)
          rw [lb2] at hpv
          have HPV := Lib.hid hpv; clear hpv lb1 lb2
          go_wp2_with fail
          refine (HPU2.out _ HXS.out (HT.out.below HB3.out)).mono ?_
          rintro e4 w4 ⟨rfl, hb4⟩
          have HB4 := Lib.hid (HB3.out.trans (hb4.mono HB3.out.size))
          have HXS4 := Lib.hid (HXS.out.below hb4); clear hb4
          go_wp2_with fail
          refine (HPV.out _ (HT.out.below HB4.out)).mono ?_
          rintro e5 w5 ⟨xv, rfl, hxv, hb5⟩
          simp only at hxv
          have HXV := Lib.hid hxv
          obtain ⟨VA, vc, rfl, -, -⟩ := hxv
          have HB5 := Lib.hid (HB4.out.trans (hb5.mono HB4.out.size))
          have HXS5 := Lib.hid (HXS4.out.below hb5); clear hb5
          go_wp2_with fail
          refine (HPU.out _ _ HXV.out LW2.out LW1.out (HT.out.below HB5.out)).mono ?_
          rintro e6 w6 ⟨rfl, hb6⟩
          have HB6 := Lib.hid (HB5.out.trans (hb6.mono HB5.out.size))
          have HXS6 := Lib.hid (HXS5.out.below hb6)
          have HXV6 := Lib.hid (HXV.out.below hb6); clear hb6
          have hsm := same_calls _ _ u u w6 HXS6.out HXV6.out (by omega)
          rw [same_self2] at hsm
          have HSM := Lib.hid hsm; clear hsm
          go_wp2_with (first | (go_at_call 8; refine (HSM.out).mono ?_; rintro e7 w7 ⟨rfl, n7, rfl⟩) | (go_at_call 7; refine (known_calls _ (HT.out.below (below_drewN HB6.out _))).mono ?_; rintro e8 w8 ⟨rfl, hb8⟩))
          go_ret
          exact ⟨rfl, (below_drewN HB6.out _).trans (hb8.mono HB6.out.size)⟩
      · have hgn : (g != 0) = true := by simpa using hg
        go_wp2_with (go_at_call 7; refine (known_calls _ (HT.out.below HB3.out)).mono ?_; rintro e5 w5 ⟨rfl, hb5⟩)
        go_ret
        exact ⟨rfl, HB3.out.trans (hb5.mono HB3.out.size)⟩
  · have hpn : (pe == 0) = false := by simpa using hpe
    by_cases hv : pe = v
    · subst hv
      go_wp2_with fail
      refine (HPA.out _ (HL.out.below HB0.out) (HT.out.below HB0.out)).mono ?_
      rintro e2 w2 ⟨rfl, hb2⟩
      have HBL := Lib.hid (HB0.out.trans (hb2.mono HB0.out.size)); clear hb2
      by_cases hp2 : p2 = 0
      · obtain ⟨la1, la2, la3⟩ := LAW2.out hp2
        subst hp2
        have LA2 := Lib.hid la2; clear la2
        have LA3 := Lib.hid la3; clear la3
        have hpp := fun W ht => parseAll_calls (Txt.bytes rl) W ht (by have := LA3.out; omega)
        rw [la1] at hpp
        have HPP := Lib.hid hpp; clear hpp la1
        go_wp2_with fail
        refine (HPP.out _ (HT.out.below HBL.out)).mono ?_
        rintro e21 w21 ⟨xl, rfl, hxl, hb21⟩
        simp only at hxl
        have HXL := Lib.hid hxl
        obtain ⟨LA, lc, rfl, -, -⟩ := hxl
        have HBM := Lib.hid (HBL.out.trans (hb21.mono HBL.out.size)); clear hb21
        have hsa := sameAll_calls _ y l w21 HXL.out (HL.out.below HBM.out) LA2.out hll
        have HSA := Lib.hid hsa; clear hsa
        obtain ⟨YA, yc, rfl, -, -⟩ := HL.out
        go_wp2_with (go_at_call 13; refine (HSA.out).mono ?_; rintro e22 w22 ⟨rfl, n22, rfl⟩)
        have HB := Lib.hid (below_drewN HBM.out n22)
        generalize w21.drewN n22 = w22 at *
        refine (HPS.out _ (HT.out.below HB.out)).mono ?_
        rintro e3 w3 ⟨xs, rfl, hxs, hb3⟩
        simp only at hxs
        have HXS := Lib.hid hxs
        obtain ⟨SA, sc, rfl, -, -⟩ := hxs
        have HB3 := Lib.hid (HB.out.trans (hb3.mono HB.out.size)); clear hb3
        by_cases hg : g = 0
        · obtain ⟨lw1, lw2, lw3, lw4⟩ := LAW3.out hg
          have LW1 := Lib.hid lw1; clear lw1
          have LW2 := Lib.hid lw2; clear lw2
          subst hg
          have hpu := fun W h1 h2 => HPU.out (.slice SA u.length sc) W h1 LW2.out LW1.out h2
          have HPU2 := Lib.hid hpu; clear hpu
          rcases lw4 with rfl | rfl
          · go_wp2_with (first | (go_at_call 9; refine (HPU2.out _ HXS.out (HT.out.below HB3.out)).mono ?_; rintro e4 w4 ⟨rfl, hb4⟩; have HB4 := Lib.hid (HB3.out.trans (hb4.mono HB3.out.size)); clear hb4) | (go_at_call 7; refine (known_calls _ (HT.out.below HB4.out)).mono ?_; rintro e5 w5 ⟨rfl, hb5⟩))
            go_ret
            exact ⟨rfl, HB4.out.trans (hb5.mono HB4.out.size)⟩
          · obtain ⟨lb1, lb2, lb3⟩ := LAW4.out LW1.out rfl
            have LB3 := Lib.hid lb3; clear lb3
            have hpv := fun W ht => parse_calls (Txt.bytes pu) W ht (by have := LB3.out; omega)
            rw [lb2] at hpv
            have HPV := Lib.hid hpv; clear hpv lb1 lb2
            go_wp2_with fail
            refine (HPU2.out _ HXS.out (HT.out.below HB3.out)).mono ?_
            rintro e4 w4 ⟨rfl, hb4⟩
            have HB4 := Lib.hid (HB3.out.trans (hb4.mono HB3.out.size))
            have HXS4 := Lib.hid (HXS.out.below hb4); clear hb4
            go_wp2_with fail
            refine (HPV.out _ (HT.out.below HB4.out)).mono ?_
            rintro e5 w5 ⟨xv, rfl, hxv, hb5⟩
            simp only at hxv
            have HXV := Lib.hid hxv
            obtain ⟨VA, vc, rfl, -, -⟩ := hxv
            have HB5 := Lib.hid (HB4.out.trans (hb5.mono HB4.out.size))
            have HXS5 := Lib.hid (HXS4.out.below hb5); clear hb5
            go_wp2_with fail
            refine (HPU.out _ _ HXV.out LW2.out LW1.out (HT.out.below HB5.out)).mono ?_
            rintro e6 w6 ⟨rfl, hb6⟩
            have HB6 := Lib.hid (HB5.out.trans (hb6.mono HB5.out.size))
            have HXS6 := Lib.hid (HXS5.out.below hb6)
            have HXV6 := Lib.hid (HXV.out.below hb6); clear hb6
            have hsm := same_calls _ _ u u w6 HXS6.out HXV6.out (by omega)
            rw [same_self2] at hsm
            have HSM := Lib.hid hsm; clear hsm
            go_wp2_with (first | (go_at_call 8; refine (HSM.out).mono ?_; rintro e7 w7 ⟨rfl, n7, rfl⟩) | (go_at_call 7; refine (known_calls _ (HT.out.below (below_drewN HB6.out _))).mono ?_; rintro e8 w8 ⟨rfl, hb8⟩))
            go_ret
            exact ⟨rfl, (below_drewN HB6.out _).trans (hb8.mono HB6.out.size)⟩
        · have hgn : (g != 0) = true := by simpa using hg
          go_wp2_with (go_at_call 7; refine (known_calls _ (HT.out.below HB3.out)).mono ?_; rintro e5 w5 ⟨rfl, hb5⟩)
          go_ret
          exact ⟨rfl, HB3.out.trans (hb5.mono HB3.out.size)⟩
      · have hp2n : (p2 == 0) = false := by simpa using hp2
        have HB := HBL
        go_wp2_with fail
        refine (HPS.out _ (HT.out.below HB.out)).mono ?_
        rintro e3 w3 ⟨xs, rfl, hxs, hb3⟩
        simp only at hxs
        have HXS := Lib.hid hxs
        obtain ⟨SA, sc, rfl, -, -⟩ := hxs
        have HB3 := Lib.hid (HB.out.trans (hb3.mono HB.out.size)); clear hb3
        by_cases hg : g = 0
        · obtain ⟨lw1, lw2, lw3, lw4⟩ := LAW3.out hg
          have LW1 := Lib.hid lw1; clear lw1
          have LW2 := Lib.hid lw2; clear lw2
          subst hg
          have hpu := fun W h1 h2 => HPU.out (.slice SA u.length sc) W h1 LW2.out LW1.out h2
          have HPU2 := Lib.hid hpu; clear hpu
          rcases lw4 with rfl | rfl
          · go_wp2_with (first | (go_at_call 9; refine (HPU2.out _ HXS.out (HT.out.below HB3.out)).mono ?_; rintro e4 w4 ⟨rfl, hb4⟩; have HB4 := Lib.hid (HB3.out.trans (hb4.mono HB3.out.size)); clear hb4) | (go_at_call 7; refine (known_calls _ (HT.out.below HB4.out)).mono ?_; rintro e5 w5 ⟨rfl, hb5⟩))
            go_ret
            exact ⟨rfl, HB4.out.trans (hb5.mono HB4.out.size)⟩
          · obtain ⟨lb1, lb2, lb3⟩ := LAW4.out LW1.out rfl
            have LB3 := Lib.hid lb3; clear lb3
            have hpv := fun W ht => parse_calls (Txt.bytes pu) W ht (by have := LB3.out; omega)
            rw [lb2] at hpv
            have HPV := Lib.hid hpv; clear hpv lb1 lb2
            go_wp2_with fail
            refine (HPU2.out _ HXS.out (HT.out.below HB3.out)).mono ?_
            rintro e4 w4 ⟨rfl, hb4⟩
            have HB4 := Lib.hid (HB3.out.trans (hb4.mono HB3.out.size))
            have HXS4 := Lib.hid (HXS.out.below hb4); clear hb4
            go_wp2_with fail
            refine (HPV.out _ (HT.out.below HB4.out)).mono ?_
            rintro e5 w5 ⟨xv, rfl, hxv, hb5⟩
            simp only at hxv
            have HXV := Lib.hid hxv
            obtain ⟨VA, vc, rfl, -, -⟩ := hxv
            have HB5 := Lib.hid (HB4.out.trans (hb5.mono HB4.out.size))
            have HXS5 := Lib.hid (HXS4.out.below hb5); clear hb5
            go_wp2_with fail
            refine (HPU.out _ _ HXV.out LW2.out LW1.out (HT.out.below HB5.out)).mono ?_
            rintro e6 w6 ⟨rfl, hb6⟩
            have HB6 := Lib.hid (HB5.out.trans (hb6.mono HB5.out.size))
            have HXS6 := Lib.hid (HXS5.out.below hb6)
            have HXV6 := Lib.hid (HXV.out.below hb6); clear hb6
            have hsm := same_calls _ _ u u w6 HXS6.out HXV6.out (by omega)
            rw [same_self2] at hsm
            have HSM := Lib.hid hsm; clear hsm
            go_wp2_with (first | (go_at_call 8; refine (HSM.out).mono ?_; rintro e7 w7 ⟨rfl, n7, rfl⟩) | (go_at_call 7; refine (known_calls _ (HT.out.below (below_drewN HB6.out _))).mono ?_; rintro e8 w8 ⟨rfl, hb8⟩))
            go_ret
            exact ⟨rfl, (below_drewN HB6.out _).trans (hb8.mono HB6.out.size)⟩
        · have hgn : (g != 0) = true := by simpa using hg
          go_wp2_with (go_at_call 7; refine (known_calls _ (HT.out.below HB3.out)).mono ?_; rintro e5 w5 ⟨rfl, hb5⟩)
          go_ret
          exact ⟨rfl, HB3.out.trans (hb5.mono HB3.out.size)⟩
    · have hvn : (pe != v) = true := by simpa using hv
      obtain rfl : pe = 4 := by rcases law0 with h | h; exact absurd h hv; exact h
      go_wp2_with fail
      refine (HPA.out _ (HL.out.below HB0.out) (HT.out.below HB0.out)).mono ?_
      rintro e2 w2 ⟨rfl, hb2⟩
      have HBL := Lib.hid (HB0.out.trans (hb2.mono HB0.out.size)); clear hb2
      by_cases hp2 : p2 = 0
      · obtain ⟨la1, la2, la3⟩ := LAW2.out hp2
        subst hp2
        have LA2 := Lib.hid la2; clear la2
        have LA3 := Lib.hid la3; clear la3
        have hpp := fun W ht => parseAll_calls (Txt.bytes rl) W ht (by have := LA3.out; omega)
        rw [la1] at hpp
        have HPP := Lib.hid hpp; clear hpp la1
        go_wp2_with fail
        refine (HPP.out _ (HT.out.below HBL.out)).mono ?_
        rintro e21 w21 ⟨xl, rfl, hxl, hb21⟩
        simp only at hxl
        have HXL := Lib.hid hxl
        obtain ⟨LA, lc, rfl, -, -⟩ := hxl
        have HBM := Lib.hid (HBL.out.trans (hb21.mono HBL.out.size)); clear hb21
        have hsa := sameAll_calls _ y l w21 HXL.out (HL.out.below HBM.out) LA2.out hll
        have HSA := Lib.hid hsa; clear hsa
        obtain ⟨YA, yc, rfl, -, -⟩ := HL.out
        go_wp2_with (go_at_call 13; refine (HSA.out).mono ?_; rintro e22 w22 ⟨rfl, n22, rfl⟩)
        have HB := Lib.hid (below_drewN HBM.out n22)
        generalize w21.drewN n22 = w22 at *
        refine (HPS.out _ (HT.out.below HB.out)).mono ?_
        rintro e3 w3 ⟨xs, rfl, hxs, hb3⟩
        simp only at hxs
        have HXS := Lib.hid hxs
        obtain ⟨SA, sc, rfl, -, -⟩ := hxs
        have HB3 := Lib.hid (HB.out.trans (hb3.mono HB.out.size)); clear hb3
        by_cases hg : g = 0
        · obtain ⟨lw1, lw2, lw3, lw4⟩ := LAW3.out hg
          have LW1 := Lib.hid lw1; clear lw1
          have LW2 := Lib.hid lw2; clear lw2
          subst hg
          have hpu := fun W h1 h2 => HPU.out (.slice SA u.length sc) W h1 LW2.out LW1.out h2
          have HPU2 := Lib.hid hpu; clear hpu
          rcases lw4 with rfl | rfl
          · go_wp2_with (first | (go_at_call 9; refine (HPU2.out _ HXS.out (HT.out.below HB3.out)).mono ?_; rintro e4 w4 ⟨rfl, hb4⟩; have HB4 := Lib.hid (HB3.out.trans (hb4.mono HB3.out.size)); clear hb4) | (go_at_call 7; refine (known_calls _ (HT.out.below HB4.out)).mono ?_; rintro e5 w5 ⟨rfl, hb5⟩))
            go_ret
            exact ⟨rfl, HB4.out.trans (hb5.mono HB4.out.size)⟩
          · obtain ⟨lb1, lb2, lb3⟩ := LAW4.out LW1.out rfl
            have LB3 := Lib.hid lb3; clear lb3
            have hpv := fun W ht => parse_calls (Txt.bytes pu) W ht (by have := LB3.out; omega)
            rw [lb2] at hpv
            have HPV := Lib.hid hpv; clear hpv lb1 lb2
            go_wp2_with fail
            refine (HPU2.out _ HXS.out (HT.out.below HB3.out)).mono ?_
            rintro e4 w4 ⟨rfl, hb4⟩
            have HB4 := Lib.hid (HB3.out.trans (hb4.mono HB3.out.size))
            have HXS4 := Lib.hid (HXS.out.below hb4); clear hb4
            go_wp2_with fail
            refine (HPV.out _ (HT.out.below HB4.out)).mono ?_
            rintro e5 w5 ⟨xv, rfl, hxv, hb5⟩
            simp only at hxv
            have HXV := Lib.hid hxv
            obtain ⟨VA, vc, rfl, -, -⟩ := hxv
            have HB5 := Lib.hid (HB4.out.trans (hb5.mono HB4.out.size))
            have HXS5 := Lib.hid (HXS4.out.below hb5); clear hb5
            go_wp2_with fail
            refine (HPU.out _ _ HXV.out LW2.out LW1.out (HT.out.below HB5.out)).mono ?_
            rintro e6 w6 ⟨rfl, hb6⟩
            have HB6 := Lib.hid (HB5.out.trans (hb6.mono HB5.out.size))
            have HXS6 := Lib.hid (HXS5.out.below hb6)
            have HXV6 := Lib.hid (HXV.out.below hb6); clear hb6
            have hsm := same_calls _ _ u u w6 HXS6.out HXV6.out (by omega)
            rw [same_self2] at hsm
            have HSM := Lib.hid hsm; clear hsm
            go_wp2_with (first | (go_at_call 8; refine (HSM.out).mono ?_; rintro e7 w7 ⟨rfl, n7, rfl⟩) | (go_at_call 7; refine (known_calls _ (HT.out.below (below_drewN HB6.out _))).mono ?_; rintro e8 w8 ⟨rfl, hb8⟩))
            go_ret
            exact ⟨rfl, (below_drewN HB6.out _).trans (hb8.mono HB6.out.size)⟩
        · have hgn : (g != 0) = true := by simpa using hg
          go_wp2_with (go_at_call 7; refine (known_calls _ (HT.out.below HB3.out)).mono ?_; rintro e5 w5 ⟨rfl, hb5⟩)
          go_ret
          exact ⟨rfl, HB3.out.trans (hb5.mono HB3.out.size)⟩
      · have hp2n : (p2 == 0) = false := by simpa using hp2
        have HB := HBL
        go_wp2_with fail
        refine (HPS.out _ (HT.out.below HB.out)).mono ?_
        rintro e3 w3 ⟨xs, rfl, hxs, hb3⟩
        simp only at hxs
        have HXS := Lib.hid hxs
        obtain ⟨SA, sc, rfl, -, -⟩ := hxs
        have HB3 := Lib.hid (HB.out.trans (hb3.mono HB.out.size)); clear hb3
        by_cases hg : g = 0
        · obtain ⟨lw1, lw2, lw3, lw4⟩ := LAW3.out hg
          have LW1 := Lib.hid lw1; clear lw1
          have LW2 := Lib.hid lw2; clear lw2
          subst hg
          have hpu := fun W h1 h2 => HPU.out (.slice SA u.length sc) W h1 LW2.out LW1.out h2
          have HPU2 := Lib.hid hpu; clear hpu
          rcases lw4 with rfl | rfl
          · go_wp2_with (first | (go_at_call 9; refine (HPU2.out _ HXS.out (HT.out.below HB3.out)).mono ?_; rintro e4 w4 ⟨rfl, hb4⟩; have HB4 := Lib.hid (HB3.out.trans (hb4.mono HB3.out.size)); clear hb4) | (go_at_call 7; refine (known_calls _ (HT.out.below HB4.out)).mono ?_; rintro e5 w5 ⟨rfl, hb5⟩))
            go_ret
            exact ⟨rfl, HB4.out.trans (hb5.mono HB4.out.size)⟩
          · obtain ⟨lb1, lb2, lb3⟩ := LAW4.out LW1.out rfl
            have LB3 := Lib.hid lb3; clear lb3
            have hpv := fun W ht => parse_calls (Txt.bytes pu) W ht (by have := LB3.out; omega)
            rw [lb2] at hpv
            have HPV := Lib.hid hpv; clear hpv lb1 lb2
            go_wp2_with fail
            refine (HPU2.out _ HXS.out (HT.out.below HB3.out)).mono ?_
            rintro e4 w4 ⟨rfl, hb4⟩
            have HB4 := Lib.hid (HB3.out.trans (hb4.mono HB3.out.size))
            have HXS4 := Lib.hid (HXS.out.below hb4); clear hb4
            go_wp2_with fail
            refine (HPV.out _ (HT.out.below HB4.out)).mono ?_
            rintro e5 w5 ⟨xv, rfl, hxv, hb5⟩
            simp only at hxv
            have HXV := Lib.hid hxv
            obtain ⟨VA, vc, rfl, -, -⟩ := hxv
            have HB5 := Lib.hid (HB4.out.trans (hb5.mono HB4.out.size))
            have HXS5 := Lib.hid (HXS4.out.below hb5); clear hb5
            go_wp2_with fail
            refine (HPU.out _ _ HXV.out LW2.out LW1.out (HT.out.below HB5.out)).mono ?_
            rintro e6 w6 ⟨rfl, hb6⟩
            have HB6 := Lib.hid (HB5.out.trans (hb6.mono HB5.out.size))
            have HXS6 := Lib.hid (HXS5.out.below hb6)
            have HXV6 := Lib.hid (HXV.out.below hb6); clear hb6
            have hsm := same_calls _ _ u u w6 HXS6.out HXV6.out (by omega)
            rw [same_self2] at hsm
            have HSM := Lib.hid hsm; clear hsm
            go_wp2_with (first | (go_at_call 8; refine (HSM.out).mono ?_; rintro e7 w7 ⟨rfl, n7, rfl⟩) | (go_at_call 7; refine (known_calls _ (HT.out.below (below_drewN HB6.out _))).mono ?_; rintro e8 w8 ⟨rfl, hb8⟩))
            go_ret
            exact ⟨rfl, (below_drewN HB6.out _).trans (hb8.mono HB6.out.size)⟩
        · have hgn : (g != 0) = true := by simpa using hg
          go_wp2_with (go_at_call 7; refine (known_calls _ (HT.out.below HB3.out)).mono ?_; rintro e5 w5 ⟨rfl, hb5⟩)
          go_ret
          exact ⟨rfl, HB3.out.trans (hb5.mono HB3.out.size)⟩
end Go.Proofs.YtebdikbngnolbaaDoor
