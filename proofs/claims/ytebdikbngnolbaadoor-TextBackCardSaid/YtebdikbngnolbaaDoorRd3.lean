/- Walks: references and pids. -/
import Derived.Test.YtebdikbngnolbaaDoorRd2
namespace Go.Proofs.YtebdikbngnolbaaDoor
open Go.RowKit Txt
set_option linter.unusedVariables false
set_option linter.unusedSimpArgs false

theorem ident_cell (kind : Int) (hk : kind = 3 ∨ kind = 4) (v : Nat) : cellE ⟨kind, (v : Int), .empty⟩ = if v < 1 ∨ v > idMost kind then 1 else 0 := by
  have hz : ByteArray.empty.size = 0 := rfl
  simp only [cellE, hz]
  generalize spelled ByteArray.empty = sp
  rcases hk with rfl | rfl <;> simp [cellV, idMost] <;> split <;> split <;> first | rfl | omega

set_option maxHeartbeats 1000000 in
theorem ident_calls (b : Nat) (s : ByteArray) (kind : Int) (hk : kind = 3 ∨ kind = 4) (start : Nat) (p : Nat) (w : World) (hr : Rd b s p w) (hp : p ≤ s.size) (hs : s.size ≤ 140737488355328) (ht : Tabs w) (hb : ng ≤ b) :
    Calls Tryd.prog 33 #[.pointer (some ⟨b, 0, none⟩), .int .i64 kind, .int .i64 (start : Int)] w (ParseR b s w (ident s kind start p)) := by
  have hq := skip_le hp
  unfold ident
  simp only
  have hne2 : ∀ v : Nat, cellE ⟨kind, (v : Int), .empty⟩ = if v < 1 ∨ v > idMost kind then 1 else 0 := ident_cell kind hk
  have HC := Lib.hid hne2; clear hne2
  have hmost : idMost kind ≤ 281474976710656 := by rcases hk with rfl | rfl <;> decide
  clear hk
  generalize hQ : skip s p = q at *
  have HQ := Lib.hid hQ; clear hQ
  have hd := digitsEnd_le hq
  have hall := digits_all hq
  have HA := Lib.hid hall; clear hall
  have HT := Lib.hid ht; clear ht
  by_cases hne : digitsEnd s q = q
  · rw [if_pos hne]
    go_enter Tryd.func33, Tryd.ntmps33
    go_wp2_with fail
    refine (blanks_calls b s p w hr hp hs).mono ?_
    rw [HQ.out]
    rintro e w1 ⟨rfl, hr1, hm1⟩
    have HM1 := Lib.hid hm1; clear hm1
    go_wp2_with fail
    refine (digits_no b s q w1 hr1 hq hs hne).mono ?_
    rintro e w4 ⟨rfl, hm4⟩
    have HM4 := Lib.hid (HM1.out.trans hm4); clear hm4
    go_wp2
    exact ⟨rfl, rfl, HM4.out⟩
  rw [if_neg hne]
  generalize hr' : digitsEnd s q = r at *
  have HRE := Lib.hid hr'; clear hr'
  have hne' : digitsEnd s q ≠ q := by rw [HRE.out]; exact hne
  clear hne
  by_cases hbig : 4611686018427387904 < numOf (cut s q r)
  · rw [if_pos (.inr (by omega))]
    go_enter Tryd.func33, Tryd.ntmps33
    go_wp2_with fail
    refine (blanks_calls b s p w hr hp hs).mono ?_
    rw [HQ.out]
    rintro e w1 ⟨rfl, hr1, hm1⟩
    have HM1 := Lib.hid hm1; clear hm1
    go_wp2_with fail
    refine (digits_yes b s q w1 hr1 hq hs hne').mono ?_
    rw [HRE.out]
    rintro e w4 ⟨rfl, hr4, hm4⟩
    have HM4 := Lib.hid (HM1.out.trans hm4); clear hm4
    go_wp2_with fail
    refine (number_no _ 4611686018427387904 w4 (by omega) (by omega) (by rw [extract_size hd]; omega) HA.out (by unfold cut at hbig; omega)).mono ?_
    rintro e w5 ⟨rfl, rfl⟩
    clear hbig
    go_wp2_with fail
    refine (fail_calls _ _ _ _).mono ?_
    rintro e w6 ⟨rfl, rfl⟩
    go_wp2
    exact ⟨rfl, rfl, HM4.out.alloc _⟩
  have hsmall : numOf (cut s q r) ≤ 4611686018427387904 := by omega
  clear hbig
  have hcv := HC.out (numOf (cut s q r))
  have HCV := Lib.hid hcv; clear hcv
  by_cases hok : numOf (cut s q r) < 1 ∨ numOf (cut s q r) > idMost kind
  · rw [if_pos hok]
    have HCV1 : Hid (cellE ⟨kind, (numOf (cut s q r) : Int), .empty⟩ = 1) := by rw [HCV.out, if_pos hok]; exact rfl
    clear hok
    go_enter Tryd.func33, Tryd.ntmps33
    go_wp2_with fail
    refine (blanks_calls b s p w hr hp hs).mono ?_
    rw [HQ.out]
    rintro e w1 ⟨rfl, hr1, hm1⟩
    have HM1 := Lib.hid hm1; clear hm1
    go_wp2_with fail
    refine (digits_yes b s q w1 hr1 hq hs hne').mono ?_
    rw [HRE.out]
    rintro e w4 ⟨rfl, hr4, hm4⟩
    have HM4 := Lib.hid (HM1.out.trans hm4); clear hm4
    go_wp2_with fail
    refine (number_yes _ 4611686018427387904 w4 (by omega) (by omega) (by rw [extract_size hd]; omega) HA.out (by unfold cut at hsmall; omega)).mono ?_
    rintro e w5 ⟨rfl, rfl⟩
    rw [show (s.extract q r).data.toList = cut s q r from rfl]
    have hpb := pos_back (numOf (cut s q r) : Int) (by omega) (by omega)
    generalize numOf (cut s q r) = V at *
    go_wp2_with fail
    refine (cell_calls ⟨kind, (V : Int), .empty⟩ 1 _ (Nat.zero_le _) ((HT.out.mv HM4.out hb).alloc _) HCV1.out).mono ?_
    rintro e w6 ⟨rfl, hb6⟩
    have HM6 := Lib.hid ((HM4.out.alloc _).trans (Mv.of_below hb6)); clear hb6
    go_wp2_with fail
    refine (fail_calls _ _ _ _).mono ?_
    rintro e w7 ⟨rfl, rfl⟩
    go_wp2
    exact ⟨rfl, rfl, HM6.out⟩
  · rw [if_neg hok]
    have HCV0 : Hid (cellE ⟨kind, (numOf (cut s q r) : Int), .empty⟩ = 0) := by rw [HCV.out, if_neg hok]; exact rfl
    clear hok
    unfold want
    cases hst : starts s (skip s r) [62] with
    | false =>
      simp only [Bool.false_eq_true, if_false]
      have HST := Lib.hid hst; clear hst
      go_enter Tryd.func33, Tryd.ntmps33
      go_wp2_with fail
      refine (blanks_calls b s p w hr hp hs).mono ?_
      rw [HQ.out]
      rintro e w1 ⟨rfl, hr1, hm1⟩
      have HM1 := Lib.hid hm1; clear hm1
      go_wp2_with fail
      refine (digits_yes b s q w1 hr1 hq hs hne').mono ?_
      rw [HRE.out]
      rintro e w4 ⟨rfl, hr4, hm4⟩
      have HM4 := Lib.hid (HM1.out.trans hm4); clear hm4
      go_wp2_with fail
      refine (number_yes _ 4611686018427387904 w4 (by omega) (by omega) (by rw [extract_size hd]; omega) HA.out (by unfold cut at hsmall; omega)).mono ?_
      rintro e w5 ⟨rfl, rfl⟩
      rw [show (s.extract q r).data.toList = cut s q r from rfl]
      have hpb := pos_back (numOf (cut s q r) : Int) (by omega) (by omega)
      generalize numOf (cut s q r) = V at *
      go_wp2_with fail
      refine (cell_calls ⟨kind, (V : Int), .empty⟩ 0 _ (Nat.zero_le _) ((HT.out.mv HM4.out hb).alloc _) HCV0.out).mono ?_
      rintro e w6 ⟨rfl, hb6⟩
      have hr6 := (hr4.below ((Below.refl _ _).alloc (Nat.le_refl _) _)).below hb6
      have HM6 := Lib.hid ((HM4.out.alloc _).trans (Mv.of_below hb6)); clear hb6
      go_wp2_with fail
      refine (want_no b s ⟨#[62]⟩ r _ hr6 hd hs (by decide) HST.out).mono ?_
      rintro e w7 ⟨rfl, hm7⟩
      have HM7 := Lib.hid (HM6.out.trans hm7); clear hm7
      go_wp2
      exact ⟨rfl, rfl, HM7.out⟩
    | true =>
      simp only [if_true]
      have HST := Lib.hid hst; clear hst
      go_enter Tryd.func33, Tryd.ntmps33
      go_wp2_with fail
      refine (blanks_calls b s p w hr hp hs).mono ?_
      rw [HQ.out]
      rintro e w1 ⟨rfl, hr1, hm1⟩
      have HM1 := Lib.hid hm1; clear hm1
      go_wp2_with fail
      refine (digits_yes b s q w1 hr1 hq hs hne').mono ?_
      rw [HRE.out]
      rintro e w4 ⟨rfl, hr4, hm4⟩
      have HM4 := Lib.hid (HM1.out.trans hm4); clear hm4
      go_wp2_with fail
      refine (number_yes _ 4611686018427387904 w4 (by omega) (by omega) (by rw [extract_size hd]; omega) HA.out (by unfold cut at hsmall; omega)).mono ?_
      rintro e w5 ⟨rfl, rfl⟩
      rw [show (s.extract q r).data.toList = cut s q r from rfl]
      have hpb := pos_back (numOf (cut s q r) : Int) (by omega) (by omega)
      generalize numOf (cut s q r) = V at *
      go_wp2_with fail
      refine (cell_calls ⟨kind, (V : Int), .empty⟩ 0 _ (Nat.zero_le _) ((HT.out.mv HM4.out hb).alloc _) HCV0.out).mono ?_
      rintro e w6 ⟨rfl, hb6⟩
      have hr6 := (hr4.below ((Below.refl _ _).alloc (Nat.le_refl _) _)).below hb6
      have d0 : w6.cell? ⟨w5.heap.size, 0, none⟩ = some (.int .i64 kind) := (hb6.cell (by simp)).trans (by go_simp)
      have d1 : w6.cell? ⟨w5.heap.size, 1, none⟩ = some (.int .i64 (V : Int)) := (hb6.cell (by simp)).trans (by go_simp)
      have d2 : w6.cell? ⟨w5.heap.size, 2, none⟩ = some (.string .empty) := (hb6.cell (by simp)).trans (by go_simp; rfl)
      have hlt5 : w5.heap.size < w6.heap.size := by have := hb6.size; simp at this; omega
      have hlt5b : w5.heap.size ≠ b := by have := hr4.lt; omega
      have HM6 := Lib.hid ((HM4.out.alloc _).trans (Mv.of_below hb6)); clear hb6
      go_wp2_with fail
      refine (want_yes b s ⟨#[62]⟩ r _ hr6 hd hs HST.out).mono ?_
      rintro e w7 ⟨rfl, hr7, hm7⟩
      have hbk := hm7.block w5.heap.size hlt5 hlt5b
      have e0 : w7.cell? ⟨w5.heap.size, 0, none⟩ = some (.int .i64 kind) := (World.cell?_of_block (w := w6) hbk).trans d0
      have e1 : w7.cell? ⟨w5.heap.size, 1, none⟩ = some (.int .i64 (V : Int)) := (World.cell?_of_block (w := w6) hbk).trans d1
      have e2 : w7.cell? ⟨w5.heap.size, 2, none⟩ = some (.string .empty) := (World.cell?_of_block (w := w6) hbk).trans d2
      have HBK := Lib.hid hbk; clear hbk
      have HM7 := Lib.hid (HM6.out.trans hm7); clear hm7
      go_wp2
      go_ret
      exact ⟨_, rfl, OwnT.one w7 ⟨kind, (V : Int), .empty⟩ _ HM7.out.size, hr7.below ((Below.refl _ _).alloc (Nat.le_refl _) _), HM7.out.alloc _⟩
end Go.Proofs.YtebdikbngnolbaaDoor
