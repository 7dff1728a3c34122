/- Walks: a list, under what is known of terms. -/
import Derived.Test.YtejpdfenejbjdaaGreatDoorTermA
namespace Go.Proofs.YtejpdfenejbjdaaGreatDoor
open Go.RowKit Txt
set_option linter.unusedVariables false
set_option linter.unusedSimpArgs false

theorem OwnT.appended {base : Nat} {w : World} {v : Value} {t u : List Cl} {n : Nat} (h : w.ownsRow base 74 3 v n (cvs t ++ cvs u)) (hn : n = t.length + u.length) : OwnT base w v (t ++ u) := by
  subst hn
  show w.ownsRow _ _ _ _ _ _
  rw [cvs_append, List.length_append]; exact h
theorem Mv.bind {b : Nat} {w u : World} {base : Nat} {v : Value} {t : List Cl} (hm : Mv b w u) (ho : OwnT base w v t) (hb : b < base) : OwnT base u v t := OwnT.mv ho hm hb

set_option maxHeartbeats 1000000 in
theorem list_none (b : Nat) (s : ByteArray) (p : Nat) (w : World) (hr : Rd b s p w) (hp : p ≤ s.size) (hs : s.size ≤ 68719476736)
    (hyes : starts s (skip s p) [93] = true) :
    Calls Tryz.prog 136 #[.pointer (some ⟨b, 0, none⟩)] w (ParseR b s w (.ok [⟨6, 0, .empty⟩] (skip s p + 1))) := by
  have hsk := skip_le hp
  have HNO := Lib.hid hyes; clear hyes
  have hbw := hr.lt
  generalize hQ : skip s p = q0 at *
  have HSK := Lib.hid hQ; clear hQ
  go_enter Tryz.func136, Tryz.ntmps136
  go_wp2_with fail
  refine (blanks_calls b s p _ hr hp (by omega)).mono ?_
  rw [HSK.out]
  rintro e w1 ⟨rfl, hr1, hm1⟩
  have HM1 := Lib.hid hm1; clear hm1
  go_wp2_with fail
  refine (next_calls b _).mono ?_
  rintro e w2 ⟨rfl, rfl⟩
  go_wp2_with fail
  refine (next1_yes b w1.heap.size s ⟨#[93]⟩ q0 _ (hr1.alloc _) hsk (by omega) (by simp) HNO.out).mono ?_
  rintro e w3 ⟨rfl, hr3, hm3⟩
  have HM3 := Lib.hid ((HM1.out.alloc _).trans hm3); clear hm3
  have HR3 := Lib.hid hr3; clear hr3
  go_wp2
  go_ret
  exact ⟨_, rfl, OwnT.one w3 ⟨6, 0, .empty⟩ _ HM3.out.size, HR3.out.alloc _, HM3.out.alloc _⟩

set_option maxHeartbeats 8000000 in
set_option maxRecDepth 100000 in
theorem list_loop (b : Nat) (s : ByteArray) (p0 p k : Nat) (w : World) (hIH : TermOK b s p0) (hr : Rd b s p w) (hp0 : p0 ≤ p) (hp : p ≤ s.size) (hs : s.size ≤ 68719476736) (ht : Tabs w) (hb : ng ≤ b)
    (hno : starts s (skip s p) [93] = false) (hk : 2 * (s.size - skip s p) + 3 ≤ k) :
    Calls Tryz.prog 136 #[.pointer (some ⟨b, 0, none⟩)] w (ParseR b s w (listL k s (skip s p) [])) := by
  have hsk := skip_le hp
  have hle := le_skip s p
  generalize hR : listL k s (skip s p) [] = R
  have HRR := Lib.hid hR; clear hR
  have HNO := Lib.hid hno; clear hno
  have HIH := Lib.hid hIH; clear hIH
  have HT := Lib.hid ht; clear ht
  have hbw := hr.lt
  generalize hQ : skip s p = q0 at *
  have HSK := Lib.hid hQ; clear hQ
  obtain ⟨i0, hi, hz0, hz1, hz2⟩ := info_parts info_cell
  go_enter Tryz.func136, Tryz.ntmps136
  go_wp2_with fail
  refine (blanks_calls b s p _ hr hp (by omega)).mono ?_
  rw [HSK.out]
  rintro e w1 ⟨rfl, hr1, hm1⟩
  have HM1 := Lib.hid hm1; clear hm1
  go_wp2_with fail
  refine (next_calls b _).mono ?_
  rintro e w2 ⟨rfl, rfl⟩
  go_wp2_with fail
  refine (next1_no b w1.heap.size s ⟨#[93]⟩ q0 _ (hr1.alloc _) hsk (by omega) (by simp) HNO.out).mono ?_
  rintro e w3 ⟨rfl, hr3, hm3⟩
  have HM3 := Lib.hid ((HM1.out.alloc _).trans hm3); clear hm3
  have HR3 := Lib.hid hr3; clear hr3
  go_wp2_with fail
  go_loopw [3] (fun v wr => ∃ (q k : Nat) (acc : List Cl), q ≤ s.size ∧ p0 ≤ q ∧ acc.length ≤ 2 * q ∧ 2 * (s.size - q) + 3 ≤ k ∧ listL k s q acc = R ∧ OwnT w.heap.size wr v acc ∧ Rd b s q wr ∧ Mv b w wr) (fun _ wr => s.size - (intOf ((wr.cell? ⟨b, 1, none⟩).getD undef)).toNat)
  case atStart => exact ⟨q0, k, [], hsk, by omega, by simp, hk, HRR.out, OwnT.nil _ _, HR3.out, HM3.out⟩
  case round =>
    obtain ⟨q, k, acc, hq, hpq, hacc, hk, hf, ho, hrd, hmv⟩ := hrel
    have HF := Lib.hid hf; clear hf
    have HO := Lib.hid ho; clear ho
    have HM := Lib.hid hmv; clear hmv
    have HRq := Lib.hid hrd; clear hrd
    have HC1 := Lib.hid HRq.out.c1
    cases k with
    | zero => omega
    | succ k =>
    have htm := HIH.out k q
    have hF := HF.out
    rw [listL] at hF
    have hTP := fun u r => term_p (k := k) (s := s) (p := q) (t := u) (q := r) hq
    generalize term k s q = R1 at *
    have HTM := Lib.hid htm; clear htm
    have HFF := Lib.hid hF; clear hF
    have HTP := Lib.hid hTP; clear hTP
    have hgeC := HO.out.own_ge
    have hge0 := Lib.hid hgeC; clear hgeC
    go_wp2_with (at_builtin; refine wpList_append_own _ rfl _ _ 22 rfl w.heap.size 74 i0 (.agg #[.int .i64 0, .int .i64 0, .string .empty]) 3 32 Tryz.underlying22 hi hz0 hz1 hz2 rfl (by decide) _ _ _ rfl (World.ownsRow.alloc HO.out _) ⟨wr.heap.size, 0, none⟩ 1 1 (cvs [⟨7, 0, .empty⟩]) rfl rfl ?c1 (cvs_oneCell _) ?c3 ?c4 ?c5 ?_)
    case c1 => exact new_list _ (cvs [⟨7, 0, .empty⟩]) _ _ rfl
    case c3 => unfold maxLen; omega
    case c4 => omega
    case c5 => have := HM.out.size; simp; omega
    intro v1 w4 hown' hgrow _
    have HO4 := Lib.hid (OwnT.appended (u := [⟨7, 0, .empty⟩]) hown' (by simp))
    have hr4 := (HRq.out.alloc _).grown hgrow hge0.out hbw
    have hm4 := (HM.out.alloc _).grown hgrow hge0.out
    clear hown' hgrow
    have HM4 := Lib.hid hm4; clear hm4
    have htm4 := HTM.out w4 hpq hq (by omega) hr4 (HT.out.mv HM4.out hb)
    clear hr4
    cases R1 with
    | bad e a =>
      have hF := HFF.out
      simp only at hF
      clear HFF HTP HTM
      have HFF := Lib.hid hF; clear hF
      have HTM := Lib.hid htm4; clear htm4
      go_wp2_with fail
      refine (HTM.out).mono ?_
      rintro e w5 ⟨rfl, hm5⟩
      have HM5 := Lib.hid (HM4.out.trans hm5); clear hm5
      go_wp2
      rw [← HFF.out]
      exact ⟨rfl, rfl, HM5.out⟩
    | ok u r =>
      have hF := HFF.out
      simp only at hF
      obtain ⟨h1, h2, h3, h4⟩ := HTP.out u r rfl
      clear HFF HTP HTM
      have HFF := Lib.hid hF; clear hF
      have hskr := skip_le h2
      have hler := le_skip s r
      have hss := skip_skip s r
      have HSS := Lib.hid hss; clear hss
      have HTM := Lib.hid htm4; clear htm4
      go_wp2_with fail
      refine (HTM.out).mono ?_
      rintro e w5 ⟨x, rfl, hox, hr5, hm5⟩
      have HO5 := Lib.hid (OwnT.mv HO4.out hm5 hbw)
      have HM5 := Lib.hid (HM4.out.trans hm5); clear hm5
      have hu : u ≠ [] := by intro e; subst e; simp at h3
      obtain ⟨A, xc, rfl, -, hA⟩ := hox.sees
      obtain ⟨ad, rfl, hcells⟩ := hA hu
      have HCELLS := Lib.hid hcells; clear hcells hA hox
      go_wp2_with (at_builtin; refine wpList_append_own _ rfl _ _ 22 rfl w.heap.size 74 i0 (.agg #[.int .i64 0, .int .i64 0, .string .empty]) 3 32 Tryz.underlying22 hi hz0 hz1 hz2 rfl (by decide) _ _ _ rfl HO5.out ad u.length xc (cvs u) rfl (cvs_length u) HCELLS.out (cvs_oneCell u) ?d3 ?d4 ?d5 ?_)
      case d3 => unfold maxLen; simp only [List.length_append, List.length_cons, List.length_nil]; omega
      case d4 => simp only [List.length_append, List.length_cons, List.length_nil]; omega
      case d5 => exact HM5.out.size
      intro v2 w6 hown' hgrow _
      have hge := HO5.out.own_ge
      have HO6 : Hid (OwnT w.heap.size w6 v2 (acc ++ [⟨7, 0, .empty⟩] ++ u)) := Lib.hid (OwnT.appended hown' (by simp))
      have HR6 := Lib.hid (hr5.grown hgrow hge hbw)
      have HM6 := Lib.hid (HM5.out.grown hgrow hge)
      clear hown' hgrow hge HCELLS hr5
      go_wp2_with fail
      refine (blanks_calls b s r _ HR6.out h2 (by omega)).mono ?_
      rintro e w7 ⟨rfl, hr7, hm7⟩
      have HO7 := Lib.hid (OwnT.mv HO6.out hm7 hbw)
      have HM7 := Lib.hid (HM6.out.trans hm7); clear hm7
      have HR7 := Lib.hid hr7; clear hr7
      have hst := fun c => starts_one s (skip s r) c
      generalize skip s r = z at *
      have HST := Lib.hid hst; clear hst
      go_wp2_with fail
      refine (next_calls b _).mono ?_
      rintro e w8 ⟨rfl, rfl⟩
      have HO8 := Lib.hid (HO7.out.below ((Below.refl _ _).alloc (Nat.le_refl _) (.cells #[.pointer (some ⟨b, 0, none⟩)] 128)))
      by_cases h93 : at? s z = some 93
      · have hF := HFF.out
        rw [if_pos h93] at hF
        have HH := Lib.hid h93; clear h93
        subst hF
        obtain ⟨hlt2, -⟩ := at?_some HH.out
        go_wp2_with fail
        refine (next1_yes b w7.heap.size s ⟨#[93]⟩ z _ (HR7.out.alloc _) hskr (by omega) (by simp) (by rw [show ByteArray.data ⟨#[93]⟩ = #[93] from rfl]; rw [HST.out]; exact decide_eq_true HH.out)).mono ?_
        rintro e w9 ⟨rfl, hr9, hm9⟩
        have HO9 := Lib.hid (OwnT.mv HO8.out hm9 hbw)
        have HM9 := Lib.hid ((HM7.out.alloc _).trans hm9); clear hm9
        have HR9 := Lib.hid hr9; clear hr9
        go_wp2_with (at_builtin; refine wpList_append_own _ rfl _ _ 22 rfl w.heap.size 74 i0 (.agg #[.int .i64 0, .int .i64 0, .string .empty]) 3 32 Tryz.underlying22 hi hz0 hz1 hz2 rfl (by decide) _ _ _ rfl (World.ownsRow.alloc HO9.out _) ⟨w9.heap.size, 0, none⟩ 1 1 (cvs [⟨6, 0, .empty⟩]) rfl rfl ?e1 (cvs_oneCell _) ?e3 ?e4 ?e5 ?_)
        case e1 => exact new_list _ (cvs [⟨6, 0, .empty⟩]) _ _ rfl
        case e3 => unfold maxLen; simp only [List.length_append, List.length_cons, List.length_nil]; omega
        case e4 => simp only [List.length_append, List.length_cons, List.length_nil]; omega
        case e5 => have := HM9.out.size; simp; omega
        intro v3 w10 hown' hgrow _
        have hge := HO9.out.own_ge
        have HO10 := Lib.hid (OwnT.appended (u := [⟨6, 0, .empty⟩]) hown' (by simp))
        have HR10 := Lib.hid ((HR9.out.alloc _).grown hgrow hge hbw)
        have HM10 := Lib.hid ((HM9.out.alloc _).grown hgrow hge)
        clear hown' hgrow hge
        go_wp2
        go_ret
        exact ⟨_, rfl, (by simpa using HO10.out), HR10.out, HM10.out⟩
      · have hF := HFF.out
        rw [if_neg h93] at hF
        clear HFF
        have HH := Lib.hid h93; clear h93
        by_cases h124 : at? s z = some 124
        · rw [if_pos h124] at hF
          have HH2 := Lib.hid h124; clear h124
          obtain ⟨hlt2, -⟩ := at?_some HH2.out
          have htm := HIH.out k (z + 1)
          have hTP := fun u' r' => term_p (k := k) (s := s) (p := z + 1) (t := u') (q := r') (by omega)
          generalize term k s (z + 1) = R2 at *
          have HTP := Lib.hid hTP; clear hTP
          have HTM2 := Lib.hid htm; clear htm
          have HFF := Lib.hid hF; clear hF
          go_wp2_with fail
          refine (next1_no b w7.heap.size s ⟨#[93]⟩ z _ (HR7.out.alloc _) hskr (by omega) (by simp) (by rw [show ByteArray.data ⟨#[93]⟩ = #[93] from rfl]; rw [HST.out]; exact decide_eq_false HH.out)).mono ?_
          rintro e w9 ⟨rfl, hr9, hm9⟩
          have HO9 := Lib.hid (OwnT.mv HO8.out hm9 hbw)
          have HM9 := Lib.hid ((HM7.out.alloc _).trans hm9); clear hm9
          have HR9 := Lib.hid hr9; clear hr9
          go_wp2_with fail
          refine (next_calls b _).mono ?_
          rintro e w10 ⟨rfl, rfl⟩
          have HO10 := Lib.hid (HO9.out.below ((Below.refl _ _).alloc (Nat.le_refl _) (.cells #[.pointer (some ⟨b, 0, none⟩)] 128)))
          go_wp2_with fail
          refine (next1_yes b w9.heap.size s ⟨#[124]⟩ z _ (HR9.out.alloc _) hskr (by omega) (by simp) (by rw [show ByteArray.data ⟨#[124]⟩ = #[124] from rfl]; rw [HST.out]; exact decide_eq_true HH2.out)).mono ?_
          rintro e w11 ⟨rfl, hr11, hm11⟩
          have HO11 := Lib.hid (OwnT.mv HO10.out hm11 hbw)
          have HM11 := Lib.hid ((HM9.out.alloc _).trans hm11); clear hm11
          have htm11 := HTM2.out w11 (by omega) (by omega) (by omega) hr11 (HT.out.mv HM11.out hb)
          clear hr11 HTM2
          cases R2 with
          | bad e a =>
            have hF := HFF.out
            simp only at hF
            subst hF
            have HTM := Lib.hid htm11; clear htm11
            go_wp2_with fail
            refine (HTM.out).mono ?_
            rintro e w12 ⟨rfl, hm12⟩
            have HM12 := Lib.hid (HM11.out.trans hm12); clear hm12
            go_wp2
            exact ⟨rfl, rfl, HM12.out⟩
          | ok u2 r2 =>
            have hF := HFF.out
            simp only at hF
            obtain ⟨g1, g2, g3, g4⟩ := HTP.out u2 r2 rfl
            clear HTP HFF
            have HTM := Lib.hid htm11; clear htm11
            have HFF := Lib.hid hF; clear hF
            go_wp2_with fail
            refine (HTM.out).mono ?_
            rintro e w12 ⟨x2, rfl, hox2, hr12, hm12⟩
            have HO12 := Lib.hid (OwnT.mv HO11.out hm12 hbw)
            have HM12 := Lib.hid (HM11.out.trans hm12); clear hm12
            have hu2 : u2 ≠ [] := by intro e; subst e; simp at g3
            obtain ⟨A2, xc2, rfl, -, hA2⟩ := hox2.sees
            obtain ⟨ad2, rfl, hcells2⟩ := hA2 hu2
            have HCELLS := Lib.hid hcells2; clear hcells2 hA2 hox2
            go_wp2_with (at_builtin; refine wpList_append_own _ rfl _ _ 22 rfl w.heap.size 74 i0 (.agg #[.int .i64 0, .int .i64 0, .string .empty]) 3 32 Tryz.underlying22 hi hz0 hz1 hz2 rfl (by decide) _ _ _ rfl HO12.out ad2 u2.length xc2 (cvs u2) rfl (cvs_length u2) HCELLS.out (cvs_oneCell u2) ?f3 ?f4 ?f5 ?_)
            case f3 => unfold maxLen; simp only [List.length_append, List.length_cons, List.length_nil]; omega
            case f4 => simp only [List.length_append, List.length_cons, List.length_nil]; omega
            case f5 => exact HM12.out.size
            intro v3 w13 hown' hgrow _
            have hge := HO12.out.own_ge
            have HO13 := Lib.hid (OwnT.appended hown' (by simp))
            have HR13 := Lib.hid (hr12.grown hgrow hge hbw)
            have HM13 := Lib.hid (HM12.out.grown hgrow hge)
            clear hown' hgrow hge HCELLS hr12
            have hF := HFF.out
            unfold want at hF
            cases hst93 : starts s (skip s r2) [93] with
            | true =>
              rw [hst93] at hF
              simp only [if_true, List.length_cons, List.length_nil] at hF
              have HST93 := Lib.hid hst93; clear hst93
              subst hF
              go_wp2_with fail
              refine (want_yes b s ⟨#[93]⟩ r2 w13 HR13.out g2 (by omega) HST93.out).mono ?_
              rintro e w14 ⟨rfl, hr14, hm14⟩
              have HO14 := Lib.hid (OwnT.mv HO13.out hm14 hbw)
              have HM14 := Lib.hid (HM13.out.trans hm14); clear hm14
              have HR14 := Lib.hid hr14; clear hr14
              go_wp2
              go_ret
              exact ⟨_, rfl, (by simpa using HO14.out), HR14.out, HM14.out⟩
            | false =>
              rw [hst93] at hF
              simp only [Bool.false_eq_true, if_false] at hF
              have HST93 := Lib.hid hst93; clear hst93
              subst hF
              go_wp2_with fail
              refine (want_no b s ⟨#[93]⟩ r2 w13 HR13.out g2 (by omega) (by decide) HST93.out).mono ?_
              rintro e w14 ⟨rfl, hm14⟩
              have HM14 := Lib.hid (HM13.out.trans hm14); clear hm14
              go_wp2
              exact ⟨rfl, rfl, HM14.out⟩
        · rw [if_neg h124] at hF
          have HH2 := Lib.hid h124; clear h124
          unfold want at hF
          rw [HSS.out] at hF
          have HFF := Lib.hid hF; clear hF
          go_wp2_with fail
          refine (next1_no b w7.heap.size s ⟨#[93]⟩ z _ (HR7.out.alloc _) hskr (by omega) (by simp) (by rw [show ByteArray.data ⟨#[93]⟩ = #[93] from rfl]; rw [HST.out]; exact decide_eq_false HH.out)).mono ?_
          rintro e w9 ⟨rfl, hr9, hm9⟩
          have HO9 := Lib.hid (OwnT.mv HO8.out hm9 hbw)
          have HM9 := Lib.hid ((HM7.out.alloc _).trans hm9); clear hm9
          have HR9 := Lib.hid hr9; clear hr9
          go_wp2_with fail
          refine (next_calls b _).mono ?_
          rintro e w10 ⟨rfl, rfl⟩
          have HO10 := Lib.hid (HO9.out.below ((Below.refl _ _).alloc (Nat.le_refl _) (.cells #[.pointer (some ⟨b, 0, none⟩)] 128)))
          go_wp2_with fail
          refine (next1_no b w9.heap.size s ⟨#[124]⟩ z _ (HR9.out.alloc _) hskr (by omega) (by simp) (by rw [show ByteArray.data ⟨#[124]⟩ = #[124] from rfl]; rw [HST.out]; exact decide_eq_false HH2.out)).mono ?_
          rintro e w11 ⟨rfl, hr11, hm11⟩
          have HO11 := Lib.hid (OwnT.mv HO10.out hm11 hbw)
          have HM11 := Lib.hid ((HM9.out.alloc _).trans hm11); clear hm11
          have HR11 := Lib.hid hr11; clear hr11
          cases hcm : starts s z [44] with
          | true =>
            have hF := HFF.out
            rw [hcm] at hF
            simp only [if_true, List.length_cons, List.length_nil] at hF
            have HCM := Lib.hid hcm; clear hcm HFF
            have HFF := Lib.hid hF; clear hF
            have hsl := starts_le hskr HCM.out
            simp only [List.length_cons, List.length_nil] at hsl
            go_wp2_with fail
            refine (want_yes b s ⟨#[44]⟩ z w11 HR11.out hskr (by omega) (by rw [HSS.out]; exact HCM.out)).mono ?_
            rw [HSS.out]
            rintro e w12 ⟨rfl, hr12, hm12⟩
            have HO12 := Lib.hid (OwnT.mv HO11.out hm12 hbw)
            have HM12 := Lib.hid (HM11.out.trans hm12); clear hm12
            have HR12 := Lib.hid hr12; clear hr12
            go_wp2
            go_roundw
            case rel => exact ⟨z + 1, k, acc ++ [⟨7, 0, .empty⟩] ++ u, by omega, by omega, by simp only [List.length_append, List.length_cons, List.length_nil]; omega, by omega, HFF.out, HO12.out, HR12.out, HM12.out⟩
            case measure =>
              have e : w12.cell? ⟨b, 1, none⟩ = some (.int .i64 ((z + 1 : Nat) : Int)) := HR12.out.c1
              rw [e, HC1.out]; simp [intOf]; omega
          | false =>
            have hF := HFF.out
            rw [hcm] at hF
            simp only [Bool.false_eq_true, if_false] at hF
            have HCM := Lib.hid hcm; clear hcm
            subst hF
            go_wp2_with fail
            refine (want_no b s ⟨#[44]⟩ z w11 HR11.out hskr (by omega) (by decide) (by rw [HSS.out]; exact HCM.out)).mono ?_
            rw [HSS.out]
            rintro e w12 ⟨rfl, hm12⟩
            have HM12 := Lib.hid (HM11.out.trans hm12); clear hm12
            go_wp2
            exact ⟨rfl, rfl, HM12.out⟩
end Go.Proofs.YtejpdfenejbjdaaGreatDoor
