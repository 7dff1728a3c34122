/- Walks: a binary of numbers. -/
import Derived.Test.YtebdikbngnolbaaDoorRd5
namespace Go.Proofs.YtebdikbngnolbaaDoor
open Go.RowKit Txt
set_option linter.unusedVariables false
set_option linter.unusedSimpArgs false

theorem starts_two {s : ByteArray} {p : Nat} {c d : UInt8} (h : starts s p [c, d] = true) : at? s p = some c := by
  simp only [starts, Bool.and_eq_true, decide_eq_true_eq] at h; exact h.1

set_option maxHeartbeats 2000000 in
set_option maxRecDepth 100000 in
theorem binary_none (b : Nat) (s : ByteArray) (start p : Nat) (w : World) (hr : Rd b s p w) (hp : p ≤ s.size) (hs : s.size ≤ 1099511627776) (hq : starts s (skip s p) [62, 62] = true) :
    Calls Tryd.prog 32 #[.pointer (some ⟨b, 0, none⟩), .int .i64 (start : Int)] w (ParseR b s w (binary s start p)) := by
  have hsk := skip_le hp
  have hq34 : at? s (skip s p) ≠ some 34 := by rw [starts_two hq]; decide
  unfold binary binBytes
  simp only [hq, if_true]
  rw [if_neg hq34]
  simp only [List.length_nil]
  rw [if_neg (by omega)]
  have HQ := Lib.hid hq; clear hq
  have hhere : decide (at? s (skip s p) = some 34) = false := decide_eq_false hq34
  have HH := Lib.hid hhere; clear hhere hq34
  have hsz := starts_le hsk HQ.out
  generalize hQ : skip s p = q at *
  have HSK := Lib.hid hQ; clear hQ
  go_enter Tryd.func32, Tryd.ntmps32
  go_wp2_with fail
  refine (blanks_calls b s p w hr hp (by omega)).mono ?_
  rw [HSK.out]
  rintro e w1 ⟨rfl, hr1, hm1⟩
  have HM1 := Lib.hid hm1; clear hm1
  go_wp2_with fail
  refine (here_calls b s q 34 w1 hr1 hsk (by omega)).mono ?_
  rw [HH.out]
  rintro e w2 ⟨rfl, hr2, hm2⟩
  have HM2 := Lib.hid (HM1.out.trans hm2); clear hm2
  go_wp2_with fail
  refine (next_calls b _).mono ?_
  rintro e w3 ⟨rfl, rfl⟩
  go_wp2_with fail
  refine (next1_yes b w2.heap.size s ⟨#[62, 62]⟩ q _ (hr2.alloc _) hsk (by omega) (by simp) HQ.out).mono ?_
  rintro e w4 ⟨rfl, hr4, hm4⟩
  have HM4 := Lib.hid ((HM2.out.alloc _).trans hm4); clear hm4
  have hcv := run_convert_bytes_nil (P := Tryd.prog) w4 53 5 Tryd.underlying53 Tryd.underlying5 0 0 9 Tryd.underlying9
  go_wp2
  go_ret
  exact ⟨_, rfl, OwnT.one w4 ⟨8, 0, Txt.bytes []⟩ _ HM4.out.size, hr4.alloc _, HM4.out.alloc _⟩

theorem bytesF_len (s : ByteArray) : ∀ (k p : Nat) (acc l : List UInt8) (q : Nat), p ≤ s.size → bytesF s k p acc = .ok l q → p ≤ q ∧ q ≤ s.size ∧ l.length ≤ acc.length + (q - p) := by
  intro k
  induction k with
  | zero => intro p acc l q hp h; cases h
  | succ k ih =>
    intro p acc l q hp h
    rw [bytesF] at h
    have h1 := le_skip s p
    have h2 := le_digitsEnd s (skip s p)
    have h4 := digitsEnd_le (skip_le hp)
    have h3 := le_skip s (digitsEnd s (skip s p))
    have h5 := skip_le h4
    split at h
    · cases h
    · split at h
      · cases h
      · split at h
        · rename_i hat
          obtain ⟨hlt, -⟩ := at?_some hat
          have := ih _ _ _ _ (by omega) h
          simp at this; omega
        · unfold want at h
          split at h
          · cases h
          · rename_i hw
            split at hw
            · rename_i hst
              cases hw; cases h
              have h6 := starts_le (skip_le h5) hst
              have h7 := le_skip s (skip s (digitsEnd s (skip s p)))
              simp at h6 ⊢; omega
            · cases hw
theorem skip_skip (s : ByteArray) (p : Nat) : skip s (skip s p) = skip s p := by
  by_cases h : skip s p < s.size
  · exact span_no h (span_stop h)
  · exact span_end (by omega)

def binEnd (start : Nat) : PR (List UInt8) → PR (List Cl)
  | .bad e a => .bad e a
  | .ok b z => if b.length > 1024 then .bad 4 start else .ok [⟨8, 0, Txt.bytes b⟩] z
theorem binary_end (s : ByteArray) (start p : Nat) : binary s start p = binEnd start (binBytes s p) := by
  unfold binary binEnd; cases binBytes s p <;> rfl
set_option maxHeartbeats 4000000 in
set_option maxRecDepth 100000 in
theorem binary_loop (b : Nat) (s : ByteArray) (start p : Nat) (w : World) (hr : Rd b s p w) (hp : p ≤ s.size) (hs : s.size ≤ 1099511627776) (hq34 : at? s (skip s p) ≠ some 34) (hq : starts s (skip s p) [62, 62] = false) :
    Calls Tryd.prog 32 #[.pointer (some ⟨b, 0, none⟩), .int .i64 (start : Int)] w (ParseR b s w (binary s start p)) := by
  have hsk := skip_le hp
  rw [binary_end]
  unfold binBytes
  simp only [hq, Bool.false_eq_true, if_false]
  rw [if_neg hq34]
  have HQ := Lib.hid hq; clear hq
  have hhere : decide (at? s (skip s p) = some 34) = false := decide_eq_false hq34
  have HH := Lib.hid hhere; clear hhere hq34
  have hske := skip_skip s p
  generalize hQ : skip s p = q at *
  have HSK := Lib.hid hQ; clear hQ
  have HSE := Lib.hid hske; clear hske
  generalize hR : bytesF s (s.size - q + 1) q [] = R
  have HRR := Lib.hid hR; clear hR
  generalize hRES : binEnd start R = RES
  have HRES := Lib.hid hRES; clear hRES
  obtain ⟨i0, hi, hz0, hz1, hz2⟩ := info_parts info_u8
  go_enter Tryd.func32, Tryd.ntmps32
  go_wp2_with fail
  refine (blanks_calls b s p w hr hp (by omega)).mono ?_
  rw [HSK.out]
  rintro e w1 ⟨rfl, hr1, hm1⟩
  have HM1 := Lib.hid hm1; clear hm1
  go_wp2_with fail
  refine (here_calls b s q 34 w1 hr1 hsk (by omega)).mono ?_
  rw [HH.out]
  rintro e w2 ⟨rfl, hr2, hm2⟩
  have HM2 := Lib.hid (HM1.out.trans hm2); clear hm2
  go_wp2_with fail
  refine (next_calls b _).mono ?_
  rintro e w3 ⟨rfl, rfl⟩
  go_wp2_with fail
  refine (next1_no b w2.heap.size s ⟨#[62, 62]⟩ q _ (hr2.alloc _) hsk (by omega) (by simp) HQ.out).mono ?_
  rintro e w4 ⟨rfl, hr4, hm4⟩
  have HM4 := Lib.hid ((HM2.out.alloc _).trans hm4); clear hm4
  have HR4 := Lib.hid hr4; clear hr4
  go_wp2_with fail
  go_step3
  go_wp2_with fail
  go_step3
  go_wp2_with fail
  go_loopw [5, 6, 7, 8] (fun v u6 u7 u8 wr => ∃ (q k : Nat) (l : List UInt8), q ≤ s.size ∧ l.length ≤ q ∧ s.size < q + k ∧ bytesF s k q l = R ∧ OwnB w.heap.size wr v l ∧ Rd b s q wr ∧ Mv b w wr) (fun _ _ _ _ wr => s.size - (intOf ((wr.cell? ⟨b, 1, none⟩).getD undef)).toNat)
  case atStart => exact ⟨q, s.size - q + 1, [], hsk, by simp, by omega, HRR.out, OwnB.nil _ _, HR4.out, HM4.out⟩
  case round =>
    obtain ⟨q, k, l, hq, hl, hk, hf, ho, hrd, hmv⟩ := hrel
    have HF := Lib.hid hf; clear hf
    have HO := Lib.hid ho; clear ho
    have HM := Lib.hid hmv; clear hmv
    have c1 := hrd.c1
    have HC1 := Lib.hid c1; clear c1
    cases k with
    | zero => omega
    | succ k =>
    have hF := HF.out
    rw [bytesF] at hF
    have hq2 := skip_le hq
    have hge := le_skip s q
    have hltb := hrd.lt
    generalize hQ : skip s q = q1 at *
    have HSK1 := Lib.hid hQ; clear hQ
    have hd := digitsEnd_le hq2
    have hall := digits_all hq2
    have HA := Lib.hid hall; clear hall
    have hdg := le_digitsEnd s q1
    go_wp2_with fail
    refine (blanks_calls b s q wr hrd hq (by omega)).mono ?_
    rw [HSK1.out]
    rintro e w5 ⟨rfl, hr5, hm5⟩
    have HM5 := Lib.hid hm5; clear hm5
    have HR5 := Lib.hid hr5
    obtain ⟨lt5, c50, c51, f50, f51⟩ := hr5
    go_wp2_with fail
    clear lt5 c50 c51 f50 f51
    by_cases hne : digitsEnd s q1 = q1
    · rw [if_pos hne] at hF
      have HFF := Lib.hid hF; clear hF
      refine (digits_no b s q1 w5 HR5.out hq2 (by omega) hne).mono ?_
      rintro e w6 ⟨rfl, hm6⟩
      have HM6 := Lib.hid ((HM.out.trans HM5.out).trans hm6); clear hm6
      go_wp2
      exact And.intro rfl (by rw [← HRES.out, ← HFF.out]; exact ⟨rfl, HM6.out⟩)
    rw [if_neg hne] at hF
    generalize hr' : digitsEnd s q1 = r at *
    have HRE := Lib.hid hr'; clear hr'
    have hne' : digitsEnd s q1 ≠ q1 := by rw [HRE.out]; exact hne
    refine (digits_yes b s q1 w5 HR5.out hq2 (by omega) hne').mono ?_
    rw [HRE.out]
    rintro e w6 ⟨rfl, hr6, hm6⟩
    have HM6 := Lib.hid (HM5.out.trans hm6); clear hm6
    clear hne'
    by_cases hbig : 255 < numOf (cut s q1 r)
    · rw [if_pos hbig] at hF
      have HFF := Lib.hid hF; clear hF
      go_wp2_with fail
      refine (number_no _ 255 w6 (by omega) (by omega) (by rw [extract_size hd]; omega) HA.out (by unfold cut at hbig; omega)).mono ?_
      rintro e w7 ⟨rfl, rfl⟩
      clear hbig
      go_wp2_with fail
      refine (fail_calls _ _ _ _).mono ?_
      rintro e w8 ⟨rfl, rfl⟩
      go_wp2
      exact And.intro rfl (by rw [← HRES.out, ← HFF.out]; exact ⟨rfl, HM.out.trans HM6.out⟩)
    rw [if_neg hbig] at hF
    go_wp2_with fail
    refine (number_yes _ 255 w6 (by omega) (by omega) (by rw [extract_size hd]; omega) HA.out (by unfold cut at hbig; omega)).mono ?_
    rintro e w7 ⟨rfl, rfl⟩
    rw [show (s.extract q1 r).data.toList = cut s q1 r from rfl]
    have hcu : IntKind.u8.wrap (numOf (cut s q1 r) : Int) = (((numOf (cut s q1 r)).toUInt8).toNat : Int) := by
      rw [IntWalk.u8_in _ (by omega)]
      have : (numOf (cut s q1 r)).toUInt8.toNat = numOf (cut s q1 r) % 256 := by simp
      omega
    generalize (numOf (cut s q1 r)).toUInt8 = x at *
    generalize numOf (cut s q1 r) = V at *
    have HFF := Lib.hid hF; clear hF hbig
    have hskr := skip_le hd
    have hgr := le_skip s r
    have hss := skip_skip s r
    generalize hQ : skip s r = r1 at *
    have HSK2 := Lib.hid hQ; clear hQ
    have HSS := Lib.hid hss; clear hss
    go_wp2_with (at_builtin; refine wpList_append_own _ rfl _ _ 53 rfl w.heap.size 5 i0 (.int .u8 0) 1 1 Tryd.underlying53 hi hz0 hz1 hz2 rfl (by decide) _ _ _ rfl (World.ownsRow.alloc (HO.out.mv HM6.out (by have := hr.lt; omega)) _) ⟨w7.heap.size, 0, none⟩ 1 1 [.int .u8 (x.toNat : Int)] rfl rfl ?c1 ?c2 ?c3 ?c4 ?c5 ?_)
    case c1 => exact new_list _ [_] _ _ (by simp)
    case c2 => intro u hu; simp at hu; subst hu; rfl
    case c3 => unfold maxLen; omega
    case c4 => omega
    case c5 => simp; have := (HM.out.trans HM6.out).size; omega
    intro v' w8 hown' hgrow _
    have hge := HO.out.own_ge
    have hr8 := (hr6.alloc _).grown hgrow hge (by have := hr.lt; omega)
    have hm8 := ((HM.out.trans HM6.out).alloc _).grown hgrow hge
    have HOW : Hid (OwnB w.heap.size w8 v' (l ++ [x])) := by
      show w8.ownsRow _ _ _ _ _ _
      rw [byteCells_append, List.length_append]; exact hown'
    clear hown' hgrow hge
    have HM8 := Lib.hid hm8; clear hm8
    go_wp2_with fail
    refine (blanks_calls b s r w8 hr8 hd (by omega)).mono ?_
    rw [HSK2.out]
    rintro e w9 ⟨rfl, hr9, hm9⟩
    have HO9 := Lib.hid (HOW.out.mv hm9 (by have := hr.lt; omega))
    have HM9 := Lib.hid (HM8.out.trans hm9); clear hm9
    go_wp2_with fail
    refine (next_calls b _).mono ?_
    rintro e w10 ⟨rfl, rfl⟩
    go_wp2_with fail
    by_cases hcm : at? s r1 = some 44
    · have hF := HFF.out
      rw [if_pos hcm] at hF
      obtain ⟨hclt, -⟩ := at?_some hcm
      have HF2 := Lib.hid hF; clear hF
      refine (next1_yes b w9.heap.size s ⟨#[44]⟩ r1 _ (hr9.alloc _) hskr (by omega) (by simp) (by rw [starts_one]; exact decide_eq_true hcm)).mono ?_
      rintro e w11 ⟨rfl, hr11, hm11⟩
      have HO11 := Lib.hid (OwnB.mv (w := w9) HO9.out (((Mv.refl _ _).alloc _).trans hm11) (by have := hr.lt; omega))
      have HM11 := Lib.hid ((HM9.out.alloc _).trans hm11); clear hm11
      clear hcm
      have HR11 := Lib.hid hr11; clear hr11
      go_wp2
      go_roundw
      case rel => exact ⟨r1 + 1, k, l ++ [x], by omega, by simp; omega, by omega, HF2.out, HO11.out, HR11.out, HM11.out⟩
      case measure =>
        have e := HR11.out.c1
        simp only [show ({ data := #[44] } : ByteArray).size = 1 from rfl] at e
        rw [e, HC1.out]; simp [intOf]; omega
    · have hF := HFF.out
      rw [if_neg hcm] at hF
      have hcm' : starts s r1 [44] = false := by rw [starts_one]; exact decide_eq_false hcm
      have HCM := Lib.hid hcm'; clear hcm' hcm
      refine (next1_no b w9.heap.size s ⟨#[44]⟩ r1 _ (hr9.alloc _) hskr (by omega) (by simp) HCM.out).mono ?_
      rintro e w11 ⟨rfl, hr11, hm11⟩
      have HO11 := Lib.hid (OwnB.mv (w := w9) HO9.out (((Mv.refl _ _).alloc _).trans hm11) (by have := hr.lt; omega))
      have HM11 := Lib.hid ((HM9.out.alloc _).trans hm11); clear hm11
      unfold want at hF
      rw [HSS.out] at hF
      go_wp2_with fail
      cases hst : starts s r1 [62, 62] with
      | false =>
        rw [hst] at hF
        simp only [Bool.false_eq_true, if_false] at hF
        have HF2 := Lib.hid hF; clear hF
        have HST := Lib.hid hst; clear hst
        refine (want_no b s ⟨#[62, 62]⟩ r1 _ hr11 hskr (by omega) (by decide) (by rw [HSS.out]; exact HST.out)).mono ?_
        rw [HSS.out]
        rintro e w12 ⟨rfl, hm12⟩
        have HM12 := Lib.hid (HM11.out.trans hm12); clear hm12
        go_wp2
        exact And.intro rfl (by rw [← HRES.out, ← HF2.out]; exact ⟨rfl, HM12.out⟩)
      | true =>
        rw [hst] at hF
        simp only [if_true] at hF
        have HST := Lib.hid hst; clear hst
        refine (want_yes b s ⟨#[62, 62]⟩ r1 _ hr11 hskr (by omega) (by rw [HSS.out]; exact HST.out)).mono ?_
        rw [HSS.out]
        rintro e w12 ⟨rfl, hr12, hm12⟩
        have ho12 := HO11.out.mv hm12 (by have := hr.lt; omega)
        have HM12 := Lib.hid (HM11.out.trans hm12); clear hm12
        have hRE := HRES.out
        rw [← hF, binEnd] at hRE
        clear hF
        have hcv := conv_own ho12
        have hlen : ∃ A cap, v' = .slice A (l.length + 1) cap := by
          obtain ⟨-, ⟨rfl, h0⟩ | ⟨g, cap, cur, rfl, -⟩⟩ := ho12
          · simp at h0
          · exact ⟨_, _, by rw [List.length_append]; rfl⟩
        obtain ⟨A, cap, rfl⟩ := hlen
        rw [List.length_append, List.length_singleton] at hRE
        by_cases hbig : 1024 < l.length + 1
        · rw [if_pos hbig] at hRE
          have HRE' := Lib.hid hRE; clear hRE
          go_wp2_with fail
          rw [Exit.noGoto_normal]
          go_wp2_with fail
          refine (fail_calls _ _ _ _).mono ?_
          rintro e w13 ⟨rfl, rfl⟩
          go_wp2
          exact And.intro rfl (by rw [← HRE'.out]; exact ⟨rfl, HM12.out⟩)
        · rw [if_neg hbig] at hRE
          have HRE' := Lib.hid hRE; clear hRE
          generalize (l ++ [x]) = L at *
          go_wp2_with fail
          rw [Exit.noGoto_normal]
          go_wp2
          go_ret
          rw [← HRE'.out]
          exact ⟨_, rfl, OwnT.one w12 ⟨8, 0, Txt.bytes L⟩ _ HM12.out.size, hr12.alloc _, HM12.out.alloc _⟩

theorem binary_calls (b : Nat) (s : ByteArray) (start p : Nat) (w : World) (hr : Rd b s p w) (hp : p ≤ s.size) (hs : s.size ≤ 1099511627776) :
    Calls Tryd.prog 32 #[.pointer (some ⟨b, 0, none⟩), .int .i64 (start : Int)] w (ParseR b s w (binary s start p)) := by
  by_cases h34 : at? s (skip s p) = some 34
  · exact binary_quoted b s start p w hr hp hs h34
  · cases hst : starts s (skip s p) [62, 62] with
    | true => exact binary_none b s start p w hr hp hs hst
    | false => exact binary_loop b s start p w hr hp hs h34 hst
end Go.Proofs.YtebdikbngnolbaaDoor
