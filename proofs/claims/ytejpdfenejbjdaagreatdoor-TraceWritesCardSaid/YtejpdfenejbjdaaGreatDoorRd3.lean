/- Walks: references and pids. -/
import Derived.Test.YtejpdfenejbjdaaGreatDoorRd2
import Derived.Test.YtejpdfenejbjdaaGreatDoorCells
namespace Go.Proofs.YtejpdfenejbjdaaGreatDoor
open Go.RowKit Txt
set_option linter.unusedVariables false
set_option linter.unusedSimpArgs false

theorem ident_cell (kind : Int) (hk : kind = 3 ∨ kind = 4) (v : Nat) : cellE ⟨kind, (v : Int), .empty⟩ = if v < 1 ∨ v > idMost kind then 1 else 0 := by
  have hz : ByteArray.empty.size = 0 := rfl
  simp only [cellE, hz]
  generalize spelled ByteArray.empty = sp
  rcases hk with rfl | rfl <;> simp [cellV, idMost] <;> split <;> split <;> first | rfl | omega

set_option maxHeartbeats 1000000 in
theorem ident_calls (b : Nat) (s : ByteArray) (kind : Int) (hk : kind = 3 ∨ kind = 4) (start : Nat) (p : Nat) (w : World) (hr : Rd b s p w) (hp : p ≤ s.size) (hs : s.size ≤ 140737488355328) (ht : Tabs w) (hb : ng ≤ b) :
    Calls Tryz.prog 133 #[.pointer (some ⟨b, 0, none⟩), .int .i64 kind, .int .i64 (start : Int)] w (ParseR b s w (ident s kind start p)) := by
  have hq := skip_le hp
  unfold ident
  simp only
  have hne2 : ∀ v : Nat, cellE ⟨kind, (v : Int), .empty⟩ = if v < 1 ∨ v > idMost kind then 1 else 0 := ident_cell kind hk
  have HC := Lib.hid hne2; clear hne2
  have hmost : idMost kind ≤ 281474976710656 := by rcases hk with rfl | rfl <;> decide
  clear hk
  generalize hQ : skip s p = q at *
  have HQ := Lib.hid hQ; clear hQ
  have hd := digitsEnd_le hq
  have hall := digits_all hq
  have HA := Lib.hid hall; clear hall
  have HT := Lib.hid ht; clear ht
  by_cases hne : digitsEnd s q = q
  · rw [if_pos hne]
    go_enter Tryz.func133, Tryz.ntmps133
    go_wp2_with fail
    refine (blanks_calls b s p w hr hp hs).mono ?_
    rw [HQ.out]
    rintro e w1 ⟨rfl, hr1, hm1⟩
    have HM1 := Lib.hid hm1; clear hm1
    go_wp2_with fail
    refine (digits_no b s q w1 hr1 hq hs hne).mono ?_
    rintro e w4 ⟨rfl, hm4⟩
    have HM4 := Lib.hid (HM1.out.trans hm4); clear hm4
    go_wp2
    exact ⟨rfl, rfl, HM4.out⟩
  rw [if_neg hne]
  generalize hr' : digitsEnd s q = r at *
  have HRE := Lib.hid hr'; clear hr'
  have hne' : digitsEnd s q ≠ q := by rw [HRE.out]; exact hne
  clear hne
  by_cases hbig : 4611686018427387904 < numOf (cut s q r)
  · rw [if_pos (.inr (by omega))]
    go_enter Tryz.func133, Tryz.ntmps133
    go_wp2_with fail
    refine (blanks_calls b s p w hr hp hs).mono ?_
    rw [HQ.out]
    rintro e w1 ⟨rfl, hr1, hm1⟩
    have HM1 := Lib.hid hm1; clear hm1
    go_wp2_with fail
    refine (digits_yes b s q w1 hr1 hq hs hne').mono ?_
    rw [HRE.out]
    rintro e w4 ⟨rfl, hr4, hm4⟩
    have HM4 := Lib.hid (HM1.out.trans hm4); clear hm4
    go_wp2_with fail
    refine (number_no _ 4611686018427387904 w4 (by omega) (by omega) (by rw [extract_size hd]; omega) HA.out (by unfold cut at hbig; omega)).mono ?_
    rintro e w5 ⟨rfl, rfl⟩
    clear hbig
    go_wp2_with fail
    refine (fail_calls _ _ _ _).mono ?_
    rintro e w6 ⟨rfl, rfl⟩
    go_wp2
    exact ⟨rfl, rfl, HM4.out.alloc _⟩
  have hsmall : numOf (cut s q r) ≤ 4611686018427387904 := by omega
  clear hbig
  have hcv := HC.out (numOf (cut s q r))
  have HCV := Lib.hid hcv; clear hcv
  by_cases hok : numOf (cut s q r) < 1 ∨ numOf (cut s q r) > idMost kind
  · rw [if_pos hok]
    have HCV1 : Hid (cellE ⟨kind, (numOf (cut s q r) : Int), .empty⟩ = 1) := by rw [HCV.out, if_pos hok]; exact rfl
    clear hok
    go_enter Tryz.func133, Tryz.ntmps133
    go_wp2_with fail
    refine (blanks_calls b s p w hr hp hs).mono ?_
    rw [HQ.out]
    rintro e w1 ⟨rfl, hr1, hm1⟩
    have HM1 := Lib.hid hm1; clear hm1
    go_wp2_with fail
    refine (digits_yes b s q w1 hr1 hq hs hne').mono ?_
    rw [HRE.out]
    rintro e w4 ⟨rfl, hr4, hm4⟩
    have HM4 := Lib.hid (HM1.out.trans hm4); clear hm4
    go_wp2_with fail
    refine (number_yes _ 4611686018427387904 w4 (by omega) (by omega) (by rw [extract_size hd]; omega) HA.out (by unfold cut at hsmall; omega)).mono ?_
    rintro e w5 ⟨rfl, rfl⟩
    rw [show (s.extract q r).data.toList = cut s q r from rfl]
    have hpb := pos_back (numOf (cut s q r) : Int) (by omega) (by omega)
    generalize numOf (cut s q r) = V at *
    go_wp2_with fail
    refine (cell_calls ⟨kind, (V : Int), .empty⟩ 1 _ (Nat.zero_le _) ((HT.out.mv HM4.out hb).alloc _) HCV1.out).mono ?_
    rintro e w6 ⟨rfl, hb6⟩
    have HM6 := Lib.hid ((HM4.out.alloc _).trans (Mv.of_below hb6)); clear hb6
    go_wp2_with fail
    refine (fail_calls _ _ _ _).mono ?_
    rintro e w7 ⟨rfl, rfl⟩
    go_wp2
    exact ⟨rfl, rfl, HM6.out⟩
  · rw [if_neg hok]
    have HCV0 : Hid (cellE ⟨kind, (numOf (cut s q r) : Int), .empty⟩ = 0) := by rw [HCV.out, if_neg hok]; exact rfl
    clear hok
    unfold want
    cases hst : starts s (skip s r) [62] with
    | false =>
      simp only [Bool.false_eq_true, if_false]
      have HST := Lib.hid hst; clear hst
      go_enter Tryz.func133, Tryz.ntmps133
      go_wp2_with fail
      refine (blanks_calls b s p w hr hp hs).mono ?_
      rw [HQ.out]
      rintro e w1 ⟨rfl, hr1, hm1⟩
      have HM1 := Lib.hid hm1; clear hm1
      go_wp2_with fail
      refine (digits_yes b s q w1 hr1 hq hs hne').mono ?_
      rw [HRE.out]
      rintro e w4 ⟨rfl, hr4, hm4⟩
      have HM4 := Lib.hid (HM1.out.trans hm4); clear hm4
      go_wp2_with fail
      refine (number_yes _ 4611686018427387904 w4 (by omega) (by omega) (by rw [extract_size hd]; omega) HA.out (by unfold cut at hsmall; omega)).mono ?_
      rintro e w5 ⟨rfl, rfl⟩
      rw [show (s.extract q r).data.toList = cut s q r from rfl]
      have hpb := pos_back (numOf (cut s q r) : Int) (by omega) (by omega)
      generalize numOf (cut s q r) = V at *
      go_wp2_with fail
      refine (cell_calls ⟨kind, (V : Int), .empty⟩ 0 _ (Nat.zero_le _) ((HT.out.mv HM4.out hb).alloc _) HCV0.out).mono ?_
      rintro e w6 ⟨rfl, hb6⟩
      have hr6 := (hr4.below ((Below.refl _ _).alloc (Nat.le_refl _) _)).below hb6
      have HM6 := Lib.hid ((HM4.out.alloc _).trans (Mv.of_below hb6)); clear hb6
      go_wp2_with fail
      refine (want_no b s ⟨#[62]⟩ r _ hr6 hd hs (by decide) HST.out).mono ?_
      rintro e w7 ⟨rfl, hm7⟩
      have HM7 := Lib.hid (HM6.out.trans hm7); clear hm7
      go_wp2
      exact ⟨rfl, rfl, HM7.out⟩
    | true =>
      simp only [if_true]
      have HST := Lib.hid hst; clear hst
      go_enter Tryz.func133, Tryz.ntmps133
      go_wp2_with fail
      refine (blanks_calls b s p w hr hp hs).mono ?_
      rw [HQ.out]
      rintro e w1 ⟨rfl, hr1, hm1⟩
      have HM1 := Lib.hid hm1; clear hm1
      go_wp2_with fail
      refine (digits_yes b s q w1 hr1 hq hs hne').mono ?_
      rw [HRE.out]
      rintro e w4 ⟨rfl, hr4, hm4⟩
      have HM4 := Lib.hid (HM1.out.trans hm4); clear hm4
      go_wp2_with fail
      refine (number_yes _ 4611686018427387904 w4 (by omega) (by omega) (by rw [extract_size hd]; omega) HA.out (by unfold cut at hsmall; omega)).mono ?_
      rintro e w5 ⟨rfl, rfl⟩
      rw [show (s.extract q r).data.toList = cut s q r from rfl]
      have hpb := pos_back (numOf (cut s q r) : Int) (by omega) (by omega)
      generalize numOf (cut s q r) = V at *
      go_wp2_with fail
      refine (cell_calls ⟨kind, (V : Int), .empty⟩ 0 _ (Nat.zero_le _) ((HT.out.mv HM4.out hb).alloc _) HCV0.out).mono ?_
      rintro e w6 ⟨rfl, hb6⟩
      have hr6 := (hr4.below ((Below.refl _ _).alloc (Nat.le_refl _) _)).below hb6
      have d0 : w6.cell? ⟨w5.heap.size, 0, none⟩ = some (.int .i64 kind) := (hb6.cell (by simp)).trans (by go_simp)
      have d1 : w6.cell? ⟨w5.heap.size, 1, none⟩ = some (.int .i64 (V : Int)) := (hb6.cell (by simp)).trans (by go_simp)
      have d2 : w6.cell? ⟨w5.heap.size, 2, none⟩ = some (.string .empty) := (hb6.cell (by simp)).trans (by go_simp; rfl)
      have hlt5 : w5.heap.size < w6.heap.size := by have := hb6.size; simp at this; omega
      have hlt5b : w5.heap.size ≠ b := by have := hr4.lt; omega
      have HM6 := Lib.hid ((HM4.out.alloc _).trans (Mv.of_below hb6)); clear hb6
      go_wp2_with fail
      refine (want_yes b s ⟨#[62]⟩ r _ hr6 hd hs HST.out).mono ?_
      rintro e w7 ⟨rfl, hr7, hm7⟩
      have hbk := hm7.block w5.heap.size hlt5 hlt5b
      have e0 : w7.cell? ⟨w5.heap.size, 0, none⟩ = some (.int .i64 kind) := (World.cell?_of_block (w := w6) hbk).trans d0
      have e1 : w7.cell? ⟨w5.heap.size, 1, none⟩ = some (.int .i64 (V : Int)) := (World.cell?_of_block (w := w6) hbk).trans d1
      have e2 : w7.cell? ⟨w5.heap.size, 2, none⟩ = some (.string .empty) := (World.cell?_of_block (w := w6) hbk).trans d2
      have HBK := Lib.hid hbk; clear hbk
      have HM7 := Lib.hid (HM6.out.trans hm7); clear hm7
      go_wp2
      go_ret
      exact ⟨_, rfl, OwnT.one w7 ⟨kind, (V : Int), .empty⟩ _ HM7.out.size, hr7.below ((Below.refl _ _).alloc (Nat.le_refl _) _), HM7.out.alloc _⟩
end Go.Proofs.YtejpdfenejbjdaaGreatDoor

namespace Go.Proofs.YtejpdfenejbjdaaGreatDoor
open Go.RowKit Txt
set_option linter.unusedVariables false
set_option linter.unusedSimpArgs false

/-- A string in the place of the cells. -/
def ParseS (b : Nat) (s : ByteArray) (w : World) (r : PR (List UInt8)) (e : Ending) (w' : World) : Prop :=
  match r with
  | .ok l q => e = .returned (.string (Txt.bytes l)) ∧ Rd b s q w' ∧ Mv b w w'
  | .bad c a => e = .panicked (thrown c a) ∧ Mv b w w'

theorem ne_byte (c : UInt8) (n : Nat) (hn : n < 256) (h : c ≠ UInt8.ofNat n) : ((c.toNat : Int) == (n : Int)) = false := by
  rw [beq_eq_false_iff_ne]
  intro e
  apply h
  apply UInt8.toNat_inj.1
  simp
  omega

theorem Rd.grown {b : Nat} {s : ByteArray} {p base : Nat} {u u' : World} {x : Value} (h : Rd b s p u) (hg : u.grownBy u' x.ownBlock) (hx : ∀ g, x.ownBlock = some g → base ≤ g) (hb : b < base) : Rd b s p u' :=
  h.keep hg.size (hg.block b h.lt (fun e => by have := hx b e.symm; omega))
theorem Rd.alloc {b : Nat} {s : ByteArray} {p : Nat} {u : World} (h : Rd b s p u) (o : Obj) : Rd b s p (u.alloc o) := h.below ((Below.refl _ _).alloc (Nat.le_refl _) _)

set_option maxHeartbeats 2000000 in
set_option maxRecDepth 100000 in
theorem quoted_calls (b : Nat) (s : ByteArray) (p : Nat) (w : World) (hr : Rd b s p w) (hp : p < s.size) (hs : s.size ≤ 1099511627776) :
    Calls Tryz.prog 129 #[.pointer (some ⟨b, 0, none⟩)] w (ParseS b s w (Txt.quoted s p)) := by
  unfold Txt.quoted
  generalize hR : quotedF s (s.size - p) (p + 1) [] = R
  have HRR := Lib.hid hR; clear hR
  have HR := Lib.hid hr
  obtain ⟨lt, c0, c1, f0, f1⟩ := hr
  obtain ⟨i0, hi, hz0, hz1, hz2⟩ := info_parts info_u8
  go_enter Tryz.func129, Tryz.ntmps129
  go_wp2_with fail
  clear c0 c1 f0 f1
  go_loopw [3, 4] (fun v u4 wr => ∃ (q k : Nat) (l : List UInt8), q ≤ s.size ∧ l.length ≤ q ∧ s.size ≤ q + k ∧ quotedF s k q l = R ∧ OwnB w.heap.size wr v l ∧ Rd b s q wr ∧ Mv b w wr) (fun _ _ wr => s.size - (intOf ((wr.cell? ⟨b, 1, none⟩).getD undef)).toNat)
  case atStart => exact ⟨p + 1, s.size - p, [], by omega, by simp, by omega, HRR.out, OwnB.nil _ _, HR.out.go 0 (p + 1) ((p : Int) + 1) (by omega), (Mv.refl b w).setAt 1 _⟩
  case round =>
    obtain ⟨q, k, l, hq, hl, hk, hf, ho, hrd, hmv⟩ := hrel
    have HF := Lib.hid hf; clear hf
    have HO := Lib.hid ho; clear ho
    have HM := Lib.hid hmv; clear hmv
    have HRq := Lib.hid hrd
    obtain ⟨lt', c0, c1, f0, f1⟩ := hrd
    by_cases hlt : q < s.size
    · cases k with
      | zero => omega
      | succ k =>
      have hF := HF.out
      rw [quotedF, at?_lt hlt] at hF
      simp only at hF
      by_cases h34 : s[q] = 34
      · rw [if_pos h34] at hF
        have hc34 : ((s[q].toNat : Int) == 34) = true := by rw [h34]; rfl
        have HFF := Lib.hid hF; clear hF h34
        go_wp2_with fail
        go_quiet (fail)
        go_wp2_with fail
        go_quiet (fail)
        have hconv := fun n (v : Int) => conv_own (((HO.out.below ((Below.refl _ _))).keep (w' := (wr.drewN n).setCell ⟨b, 1, none⟩ (.int .i64 v)) (fun g hg _ _ => Below.heap_setCell _ _ _ _ (by simp; omega))))
        go_wp2
        go_ret
        rw [← HFF.out]
        exact ⟨rfl, HRq.out.go _ _ _ (by omega), (HM.out.drewN _).setAt _ _⟩
      · rw [if_neg h34] at hF
        have hc34 : ((s[q].toNat : Int) == 34) = false := ne_byte _ 34 (by omega) h34
        by_cases h92 : s[q] = 92
        · rw [if_pos h92] at hF
          have hc92 : ((s[q].toNat : Int) == 92) = true := by rw [h92]; rfl
          clear h34 h92
          by_cases hlt1 : q + 1 < s.size
          · rw [at?_lt hlt1] at hF
            simp only at hF
            have hw1 : IntKind.i64.wrap ((q : Int) + 1) = (q : Int) + 1 := IntWalk.i64_in _ (by omega)
            have hw2 : 0 ≤ (q : Int) + 1 := by omega
            have hw3 : ((q : Int) + 1).toNat = q + 1 := by omega
            by_cases hd : s[q + 1] = 34 ∨ s[q + 1] = 92
            · rw [if_pos hd] at hF
              have HFF := Lib.hid hF; clear hF
              have HD := Lib.hid hd; clear hd
              have hwalk : ∀ t1 t2 : Bool, ((s[q + 1].toNat : Int) != 34) = t1 → ((s[q + 1].toNat : Int) != 92) = t2 → (t1 && t2) = false := by
                intro t1 t2 e1 e2
                rcases HD.out with h | h
                · rw [← e1, h]; rfl
                · rw [← e2, h]; simp
              cases he1 : ((s[q + 1].toNat : Int) == 34)
              · have he1' : ((s[q + 1].toNat : Int) != 34) = true := by rw [bne, he1]; rfl
                cases he2 : ((s[q + 1].toNat : Int) == 92)
                · have he2' : ((s[q + 1].toNat : Int) != 92) = true := by rw [bne, he2]; rfl
                  have := hwalk _ _ he1' he2'
                  cases this
                · have he2' : ((s[q + 1].toNat : Int) != 92) = false := by rw [bne, he2]; rfl
                  clear hwalk
                  go_wp2_with fail
                  go_quiet (fail)
                  go_wp2_with fail
                  go_quiet (fail)
                  go_wp2_with fail
                  go_quiet (fail)
                  go_wp2_with fail
                  go_quiet (fail)
                  go_wp2_with fail
                  go_quiet (fail)
                  go_wp2_with (at_builtin; refine wpList_append_own _ rfl _ _ 91 rfl w.heap.size 5 i0 (.int .u8 0) 1 1 Tryz.underlying91 hi hz0 hz1 hz2 rfl (by decide) _ _ _ rfl (World.ownsRow.alloc (OwnB.mv (w := wr.drewN _) HO.out ((Mv.refl b _).setAt 1 _) (by omega)) _) ⟨wr.heap.size, 0, none⟩ 1 1 [.int .u8 (s[q + 1].toNat : Int)] rfl rfl ?c1 ?c2 ?c3 ?c4 ?c5 ?_)
                  case c1 => exact new_list _ [_] _ _ (by simp)
                  case c2 => intro u hu; simp at hu; subst hu; rfl
                  case c3 => unfold maxLen; omega
                  case c4 => omega
                  case c5 => simp; have := HM.out.size; omega
                  intro v' w1 hown' hgrow _
                  have hge := HO.out.own_ge
                  have hr1 := (((HRq.out.go _ (q + 1) ((q : Int) + 1) (by omega)).drewN _).alloc _).grown hgrow hge (by omega)
                  have hm1 := ((((HM.out.drewN _).setAt 1 _).drewN _).alloc _).grown hgrow hge
                  have HOW : Hid (OwnB w.heap.size w1 v' (l ++ [s[q + 1]])) := by
                    show w1.ownsRow _ _ _ _ _ _
                    rw [byteCells_append, List.length_append]; exact hown'
                  clear hown' hgrow hge
                  have HM1 := Lib.hid hm1; clear hm1
                  have HR1 := Lib.hid hr1
                  obtain ⟨lt1, d0, d1, g0, g1⟩ := hr1
                  go_wp2
                  go_roundw
                  case rel => exact ⟨q + 2, k, l ++ [s[q + 1]], by omega, by simp; omega, by omega, HFF.out, HOW.out.mv (((Mv.refl b _).setAt 1 _)) (by omega), HR1.out.go 0 _ _ (by omega), HM1.out.setAt 1 _⟩
                  case measure =>
                    have e := (HR1.out.go 0 (q + 2) ((q : Int) + 1 + 1) (by omega)).c1
                    rw [show w1.drewN 0 = w1 from rfl] at e
                    rw [e, c1]; simp [intOf]; omega
              · have he1' : ((s[q + 1].toNat : Int) != 34) = false := by rw [bne, he1]; rfl
                clear hwalk
                go_wp2_with fail
                go_quiet (fail)
                go_wp2_with fail
                go_quiet (fail)
                go_wp2_with fail
                go_quiet (fail)
                go_wp2_with fail
                go_quiet (fail)
                go_wp2_with fail
                go_quiet (fail)
                go_wp2_with (at_builtin; refine wpList_append_own _ rfl _ _ 91 rfl w.heap.size 5 i0 (.int .u8 0) 1 1 Tryz.underlying91 hi hz0 hz1 hz2 rfl (by decide) _ _ _ rfl (World.ownsRow.alloc (OwnB.mv (w := wr.drewN _) HO.out ((Mv.refl b _).setAt 1 _) (by omega)) _) ⟨wr.heap.size, 0, none⟩ 1 1 [.int .u8 (s[q + 1].toNat : Int)] rfl rfl ?c1 ?c2 ?c3 ?c4 ?c5 ?_)
                case c1 => exact new_list _ [_] _ _ (by simp)
                case c2 => intro u hu; simp at hu; subst hu; rfl
                case c3 => unfold maxLen; omega
                case c4 => omega
                case c5 => simp; have := HM.out.size; omega
                intro v' w1 hown' hgrow _
                have hge := HO.out.own_ge
                have hr1 := (((HRq.out.go _ (q + 1) ((q : Int) + 1) (by omega)).drewN _).alloc _).grown hgrow hge (by omega)
                have hm1 := ((((HM.out.drewN _).setAt 1 _).drewN _).alloc _).grown hgrow hge
                have HOW : Hid (OwnB w.heap.size w1 v' (l ++ [s[q + 1]])) := by
                  show w1.ownsRow _ _ _ _ _ _
                  rw [byteCells_append, List.length_append]; exact hown'
                clear hown' hgrow hge
                have HM1 := Lib.hid hm1; clear hm1
                have HR1 := Lib.hid hr1
                obtain ⟨lt1, d0, d1, g0, g1⟩ := hr1
                go_wp2
                go_roundw
                case rel => exact ⟨q + 2, k, l ++ [s[q + 1]], by omega, by simp; omega, by omega, HFF.out, HOW.out.mv (((Mv.refl b _).setAt 1 _)) (by omega), HR1.out.go 0 _ _ (by omega), HM1.out.setAt 1 _⟩
                case measure =>
                  have e := (HR1.out.go 0 (q + 2) ((q : Int) + 1 + 1) (by omega)).c1
                  rw [show w1.drewN 0 = w1 from rfl] at e
                  rw [e, c1]; simp [intOf]; omega
            · rw [if_neg hd] at hF
              have he1 : ((s[q + 1].toNat : Int) == 34) = false := ne_byte _ 34 (by omega) (fun h => hd (.inl h))
              have he2 : ((s[q + 1].toNat : Int) == 92) = false := ne_byte _ 92 (by omega) (fun h => hd (.inr h))
              have he1' : ((s[q + 1].toNat : Int) != 34) = true := by rw [bne, he1]; rfl
              have he2' : ((s[q + 1].toNat : Int) != 92) = true := by rw [bne, he2]; rfl
              clear hd
              have HFF := Lib.hid hF; clear hF
              go_wp2_with fail
              go_quiet (fail)
              go_wp2_with fail
              go_quiet (fail)
              go_wp2_with fail
              go_quiet (fail)
              go_wp2_with fail
              go_quiet (fail)
              go_wp2_with fail
              refine (fail_calls _ _ _ _).mono ?_
              rintro e w6 ⟨rfl, rfl⟩
              go_wp2
              rw [← HFF.out]
              exact ⟨rfl, rfl, HM.out.drewN _⟩
          · rw [at?_ge (by omega)] at hF
            simp only at hF
            have HFF := Lib.hid hF; clear hF
            go_wp2_with fail
            go_quiet (fail)
            go_wp2_with fail
            go_quiet (fail)
            go_wp2_with fail
            go_quiet (fail)
            go_wp2_with fail
            refine (fail_calls _ _ _ _).mono ?_
            rintro e w6 ⟨rfl, rfl⟩
            go_wp2
            rw [← HFF.out]
            exact ⟨rfl, rfl, HM.out.drewN _⟩
        · rw [if_neg h92] at hF
          have hc92 : ((s[q].toNat : Int) == 92) = false := ne_byte _ 92 (by omega) h92
          clear h34 h92
          have HFF := Lib.hid hF; clear hF
          go_wp2_with fail
          go_quiet (fail)
          go_wp2_with fail
          go_quiet (fail)
          go_wp2_with (at_builtin; refine wpList_append_own _ rfl _ _ 91 rfl w.heap.size 5 i0 (.int .u8 0) 1 1 Tryz.underlying91 hi hz0 hz1 hz2 rfl (by decide) _ _ _ rfl (World.ownsRow.alloc (HO.out) _) ⟨wr.heap.size, 0, none⟩ 1 1 [.int .u8 (s[q].toNat : Int)] rfl rfl ?c1 ?c2 ?c3 ?c4 ?c5 ?_)
          case c1 => exact new_list _ [_] _ _ (by simp)
          case c2 => intro u hu; simp at hu; subst hu; rfl
          case c3 => unfold maxLen; omega
          case c4 => omega
          case c5 => simp; have := HM.out.size; omega
          intro v' w1 hown' hgrow _
          have hge := HO.out.own_ge
          have hr1 := ((HRq.out.drewN _).alloc _).grown hgrow hge (by omega)
          have hm1 := ((HM.out.drewN _).alloc _).grown hgrow hge
          have HOW : Hid (OwnB w.heap.size w1 v' (l ++ [s[q]])) := by
            show w1.ownsRow _ _ _ _ _ _
            rw [byteCells_append, List.length_append]; exact hown'
          clear hown' hgrow hge
          have HM1 := Lib.hid hm1; clear hm1
          have HR1 := Lib.hid hr1
          obtain ⟨lt1, d0, d1, g0, g1⟩ := hr1
          go_wp2
          go_roundw
          case rel => exact ⟨q + 1, k, l ++ [s[q]], by omega, by simp; omega, by omega, HFF.out, HOW.out.mv (((Mv.refl b _).setAt 1 _)) (by omega), HR1.out.go 0 _ _ (by omega), HM1.out.setAt 1 _⟩
          case measure =>
            have e := (HR1.out.go 0 (q + 1) ((q : Int) + 1) (by omega)).c1
            rw [show w1.drewN 0 = w1 from rfl] at e
            rw [e, c1]; simp [intOf]; omega
    · have hF : R = .bad 70 s.size := by
        rw [← HF.out]
        cases k with
        | zero => rfl
        | succ k => rw [quotedF, at?_ge (by omega)]
      subst hF
      go_wp2_with fail
      go_quiet (fail)
      go_wp2_with fail
      refine (fail_calls _ _ _ _).mono ?_
      rintro e w6 ⟨rfl, rfl⟩
      go_wp2
      exact ⟨rfl, rfl, HM.out.drewN _⟩
end Go.Proofs.YtejpdfenejbjdaaGreatDoor

namespace Go.Proofs.YtejpdfenejbjdaaGreatDoor
open Go.RowKit Txt
set_option linter.unusedVariables false
set_option linter.unusedSimpArgs false

theorem bytes_size (l : List UInt8) : (Txt.bytes l).size = l.length := by simp [Txt.bytes, ByteArray.size]
theorem bytes_data (l : List UInt8) : (Txt.bytes l).data.toList = l := by simp [Txt.bytes]

theorem quotedF_len (s : ByteArray) : ∀ (k p : Nat) (acc l : List UInt8) (q : Nat), quotedF s k p acc = .ok l q → p ≤ q ∧ q ≤ s.size ∧ l.length ≤ acc.length + (q - p) := by
  intro k
  induction k with
  | zero => intro p acc l q h; cases h
  | succ k ih =>
    intro p acc l q h
    rw [quotedF] at h
    cases ha : at? s p with
    | none => rw [ha] at h; cases h
    | some c =>
      obtain ⟨hp, -⟩ := at?_some ha
      rw [ha] at h
      simp only at h
      split at h
      · cases h; omega
      · split at h
        · cases hb : at? s (p + 1) with
          | none => rw [hb] at h; cases h
          | some d =>
            rw [hb] at h
            simp only at h
            split at h
            · have := ih _ _ _ _ h; simp at this; omega
            · cases h
        · have := ih _ _ _ _ h; simp at this; omega
theorem quoted_len {s : ByteArray} {p q : Nat} {l : List UInt8} (h : Txt.quoted s p = .ok l q) : p < q ∧ q ≤ s.size ∧ l.length ≤ q - p := by
  have := quotedF_len s _ _ _ _ _ h; simp at this; omega

set_option maxHeartbeats 2000000 in
set_option maxRecDepth 100000 in
theorem binary_quoted (b : Nat) (s : ByteArray) (start p : Nat) (w : World) (hr : Rd b s p w) (hp : p ≤ s.size) (hs : s.size ≤ 1099511627776) (hq : at? s (skip s p) = some 34) :
    Calls Tryz.prog 132 #[.pointer (some ⟨b, 0, none⟩), .int .i64 (start : Int)] w (ParseR b s w (binary s start p)) := by
  have hsk := skip_le hp
  unfold binary binBytes
  simp only [hq, if_true]
  have HQ := Lib.hid hq; clear hq
  obtain ⟨hlt, -⟩ := at?_some HQ.out
  have hhere : decide (at? s (skip s p) = some 34) = true := decide_eq_true HQ.out
  have HH := Lib.hid hhere; clear hhere
  generalize hQ : skip s p = q at *
  have HSK := Lib.hid hQ; clear hQ
  cases hqt : Txt.quoted s q with
  | bad e a =>
    have HQT := Lib.hid hqt; clear hqt
    go_enter Tryz.func132, Tryz.ntmps132
    go_wp2_with fail
    refine (blanks_calls b s p w hr hp (by omega)).mono ?_
    rw [HSK.out]
    rintro e w1 ⟨rfl, hr1, hm1⟩
    have HM1 := Lib.hid hm1; clear hm1
    go_wp2_with fail
    refine (here_calls b s q 34 w1 hr1 hsk (by omega)).mono ?_
    rw [HH.out]
    rintro e w2 ⟨rfl, hr2, hm2⟩
    have HM2 := Lib.hid (HM1.out.trans hm2); clear hm2
    go_wp2_with fail
    refine (quoted_calls b s q w2 hr2 hlt hs).mono ?_
    rw [HQT.out]
    rintro e w3 ⟨rfl, hm3⟩
    have HM3 := Lib.hid (HM2.out.trans hm3); clear hm3
    go_wp2
    exact ⟨rfl, rfl, HM3.out⟩
  | ok l r =>
    have hln := quoted_len hqt
    have HQT := Lib.hid hqt; clear hqt
    simp only
    unfold want
    cases hst : starts s (skip s r) [62, 62] with
    | false =>
      have HST := Lib.hid hst; clear hst
      simp only [Bool.false_eq_true, if_false]
      go_enter Tryz.func132, Tryz.ntmps132
      go_wp2_with fail
      refine (blanks_calls b s p w hr hp (by omega)).mono ?_
      rw [HSK.out]
      rintro e w1 ⟨rfl, hr1, hm1⟩
      have HM1 := Lib.hid hm1; clear hm1
      go_wp2_with fail
      refine (here_calls b s q 34 w1 hr1 hsk (by omega)).mono ?_
      rw [HH.out]
      rintro e w2 ⟨rfl, hr2, hm2⟩
      have HM2 := Lib.hid (HM1.out.trans hm2); clear hm2
      go_wp2_with fail
      refine (quoted_calls b s q w2 hr2 hlt hs).mono ?_
      rw [HQT.out]
      rintro e w3 ⟨rfl, hr3, hm3⟩
      have HM3 := Lib.hid (HM2.out.trans hm3); clear hm3
      have hcb := conv_bytes w3 (Txt.bytes l)
      go_wp2_with fail
      refine (want_no b s ⟨#[62, 62]⟩ r _ (hr3.below (below_bytesWorld _ _ _)) (by omega) (by omega) (by decide) HST.out).mono ?_
      rintro e w7 ⟨rfl, hm7⟩
      have HM7 := Lib.hid ((HM3.out.trans (Mv.of_below (below_bytesWorld _ _ _))).trans hm7); clear hm7
      go_wp2
      exact ⟨rfl, rfl, HM7.out⟩
    | true =>
      have HST := Lib.hid hst; clear hst
      simp only [if_true]
      by_cases hbig : 1024 < l.length
      · rw [if_pos hbig]
        go_enter Tryz.func132, Tryz.ntmps132
        go_wp2_with fail
        refine (blanks_calls b s p w hr hp (by omega)).mono ?_
        rw [HSK.out]
        rintro e w1 ⟨rfl, hr1, hm1⟩
        have HM1 := Lib.hid hm1; clear hm1
        go_wp2_with fail
        refine (here_calls b s q 34 w1 hr1 hsk (by omega)).mono ?_
        rw [HH.out]
        rintro e w2 ⟨rfl, hr2, hm2⟩
        have HM2 := Lib.hid (HM1.out.trans hm2); clear hm2
        go_wp2_with fail
        refine (quoted_calls b s q w2 hr2 hlt hs).mono ?_
        rw [HQT.out]
        rintro e w3 ⟨rfl, hr3, hm3⟩
        have HM3 := Lib.hid (HM2.out.trans hm3); clear hm3
        have hcb := conv_bytes w3 (Txt.bytes l)
        go_wp2_with fail
        refine (want_yes b s ⟨#[62, 62]⟩ r _ (hr3.below (below_bytesWorld _ _ _)) (by omega) (by omega) HST.out).mono ?_
        rintro e w7 ⟨rfl, hr7, hm7⟩
        have HM7 := Lib.hid ((HM3.out.trans (Mv.of_below (below_bytesWorld _ _ _))).trans hm7); clear hm7
        clear hcb
        have hbs : ((Txt.bytes l).size : Int) = (l.length : Int) := by rw [bytes_size]
        have hbig' : 1024 < (Txt.bytes l).size := by rw [bytes_size]; exact hbig
        go_wp2_with fail
        refine (fail_calls _ _ _ _).mono ?_
        rintro e w8 ⟨rfl, rfl⟩
        go_wp2
        exact ⟨rfl, rfl, HM7.out⟩
      · rw [if_neg hbig]
        go_enter Tryz.func132, Tryz.ntmps132
        go_wp2_with fail
        refine (blanks_calls b s p w hr hp (by omega)).mono ?_
        rw [HSK.out]
        rintro e w1 ⟨rfl, hr1, hm1⟩
        have HM1 := Lib.hid hm1; clear hm1
        go_wp2_with fail
        refine (here_calls b s q 34 w1 hr1 hsk (by omega)).mono ?_
        rw [HH.out]
        rintro e w2 ⟨rfl, hr2, hm2⟩
        have HM2 := Lib.hid (HM1.out.trans hm2); clear hm2
        go_wp2_with fail
        refine (quoted_calls b s q w2 hr2 hlt hs).mono ?_
        rw [HQT.out]
        rintro e w3 ⟨rfl, hr3, hm3⟩
        have HM3 := Lib.hid (HM2.out.trans hm3); clear hm3
        have hcb := conv_bytes w3 (Txt.bytes l)
        go_wp2_with fail
        refine (want_yes b s ⟨#[62, 62]⟩ r _ (hr3.below (below_bytesWorld _ _ _)) (by omega) (by omega) HST.out).mono ?_
        rintro e w7 ⟨rfl, hr7, hm7⟩
        have hblk := hm7.block w3.heap.size (by rw [Lib.bytesWorld_size]; omega) (by have := hr3.lt; omega)
        have hcv := conv_cells w7 w3.heap.size 0 (grownCap w3 (Txt.bytes l).size 0 5) l (by
          intro i hi
          rw [World.cell?_of_block (w := Lib.bytesWorld w3 5 (Txt.bytes l)) hblk]
          have := Lib.bytesWorld_cell w3 5 (Txt.bytes l) i (by rw [bytes_size]; exact hi)
          rw [show 0 + i = i by omega, this, bytes_data]; simp [hi])
        have hcv2 := hcv
        rw [← bytes_size l] at hcv
        have HM7 := Lib.hid ((HM3.out.trans (Mv.of_below (below_bytesWorld _ _ _))).trans hm7); clear hm7 hblk
        clear hcb hcv2
        have hbig' : ¬ 1024 < (Txt.bytes l).size := by rw [bytes_size]; exact hbig
        go_wp2
        go_ret
        exact ⟨_, rfl, OwnT.one w7 ⟨8, 0, Txt.bytes l⟩ _ HM7.out.size, hr7.alloc _, HM7.out.alloc _⟩
end Go.Proofs.YtejpdfenejbjdaaGreatDoor

namespace Go.Proofs.YtejpdfenejbjdaaGreatDoor
open Go.RowKit Txt
set_option linter.unusedVariables false
set_option linter.unusedSimpArgs false

theorem starts_two {s : ByteArray} {p : Nat} {c d : UInt8} (h : starts s p [c, d] = true) : at? s p = some c := by
  simp only [starts, Bool.and_eq_true, decide_eq_true_eq] at h; exact h.1

set_option maxHeartbeats 2000000 in
set_option maxRecDepth 100000 in
theorem binary_none (b : Nat) (s : ByteArray) (start p : Nat) (w : World) (hr : Rd b s p w) (hp : p ≤ s.size) (hs : s.size ≤ 1099511627776) (hq : starts s (skip s p) [62, 62] = true) :
    Calls Tryz.prog 132 #[.pointer (some ⟨b, 0, none⟩), .int .i64 (start : Int)] w (ParseR b s w (binary s start p)) := by
  have hsk := skip_le hp
  have hq34 : at? s (skip s p) ≠ some 34 := by rw [starts_two hq]; decide
  unfold binary binBytes
  simp only [hq, if_true]
  rw [if_neg hq34]
  simp only [List.length_nil]
  rw [if_neg (by omega)]
  have HQ := Lib.hid hq; clear hq
  have hhere : decide (at? s (skip s p) = some 34) = false := decide_eq_false hq34
  have HH := Lib.hid hhere; clear hhere hq34
  have hsz := starts_le hsk HQ.out
  generalize hQ : skip s p = q at *
  have HSK := Lib.hid hQ; clear hQ
  go_enter Tryz.func132, Tryz.ntmps132
  go_wp2_with fail
  refine (blanks_calls b s p w hr hp (by omega)).mono ?_
  rw [HSK.out]
  rintro e w1 ⟨rfl, hr1, hm1⟩
  have HM1 := Lib.hid hm1; clear hm1
  go_wp2_with fail
  refine (here_calls b s q 34 w1 hr1 hsk (by omega)).mono ?_
  rw [HH.out]
  rintro e w2 ⟨rfl, hr2, hm2⟩
  have HM2 := Lib.hid (HM1.out.trans hm2); clear hm2
  go_wp2_with fail
  refine (next_calls b _).mono ?_
  rintro e w3 ⟨rfl, rfl⟩
  go_wp2_with fail
  refine (next1_yes b w2.heap.size s ⟨#[62, 62]⟩ q _ (hr2.alloc _) hsk (by omega) (by simp) HQ.out).mono ?_
  rintro e w4 ⟨rfl, hr4, hm4⟩
  have HM4 := Lib.hid ((HM2.out.alloc _).trans hm4); clear hm4
  have hcv := run_convert_bytes_nil (P := Tryz.prog) w4 91 5 Tryz.underlying91 Tryz.underlying5 0 0 9 Tryz.underlying9
  go_wp2
  go_ret
  exact ⟨_, rfl, OwnT.one w4 ⟨8, 0, Txt.bytes []⟩ _ HM4.out.size, hr4.alloc _, HM4.out.alloc _⟩

theorem bytesF_len (s : ByteArray) : ∀ (k p : Nat) (acc l : List UInt8) (q : Nat), p ≤ s.size → bytesF s k p acc = .ok l q → p ≤ q ∧ q ≤ s.size ∧ l.length ≤ acc.length + (q - p) := by
  intro k
  induction k with
  | zero => intro p acc l q hp h; cases h
  | succ k ih =>
    intro p acc l q hp h
    rw [bytesF] at h
    have h1 := le_skip s p
    have h2 := le_digitsEnd s (skip s p)
    have h4 := digitsEnd_le (skip_le hp)
    have h3 := le_skip s (digitsEnd s (skip s p))
    have h5 := skip_le h4
    split at h
    · cases h
    · split at h
      · cases h
      · split at h
        · rename_i hat
          obtain ⟨hlt, -⟩ := at?_some hat
          have := ih _ _ _ _ (by omega) h
          simp at this; omega
        · unfold want at h
          split at h
          · cases h
          · rename_i hw
            split at hw
            · rename_i hst
              cases hw; cases h
              have h6 := starts_le (skip_le h5) hst
              have h7 := le_skip s (skip s (digitsEnd s (skip s p)))
              simp at h6 ⊢; omega
            · cases hw
theorem skip_skip (s : ByteArray) (p : Nat) : skip s (skip s p) = skip s p := by
  by_cases h : skip s p < s.size
  · exact span_no h (span_stop h)
  · exact span_end (by omega)

def binEnd (start : Nat) : PR (List UInt8) → PR (List Cl)
  | .bad e a => .bad e a
  | .ok b z => if b.length > 1024 then .bad 4 start else .ok [⟨8, 0, Txt.bytes b⟩] z
theorem binary_end (s : ByteArray) (start p : Nat) : binary s start p = binEnd start (binBytes s p) := by
  unfold binary binEnd; cases binBytes s p <;> rfl
set_option maxHeartbeats 4000000 in
set_option maxRecDepth 100000 in
theorem binary_loop (b : Nat) (s : ByteArray) (start p : Nat) (w : World) (hr : Rd b s p w) (hp : p ≤ s.size) (hs : s.size ≤ 1099511627776) (hq34 : at? s (skip s p) ≠ some 34) (hq : starts s (skip s p) [62, 62] = false) :
    Calls Tryz.prog 132 #[.pointer (some ⟨b, 0, none⟩), .int .i64 (start : Int)] w (ParseR b s w (binary s start p)) := by
  have hsk := skip_le hp
  rw [binary_end]
  unfold binBytes
  simp only [hq, Bool.false_eq_true, if_false]
  rw [if_neg hq34]
  have HQ := Lib.hid hq; clear hq
  have hhere : decide (at? s (skip s p) = some 34) = false := decide_eq_false hq34
  have HH := Lib.hid hhere; clear hhere hq34
  have hske := skip_skip s p
  generalize hQ : skip s p = q at *
  have HSK := Lib.hid hQ; clear hQ
  have HSE := Lib.hid hske; clear hske
  generalize hR : bytesF s (s.size - q + 1) q [] = R
  have HRR := Lib.hid hR; clear hR
  generalize hRES : binEnd start R = RES
  have HRES := Lib.hid hRES; clear hRES
  obtain ⟨i0, hi, hz0, hz1, hz2⟩ := info_parts info_u8
  go_enter Tryz.func132, Tryz.ntmps132
  go_wp2_with fail
  refine (blanks_calls b s p w hr hp (by omega)).mono ?_
  rw [HSK.out]
  rintro e w1 ⟨rfl, hr1, hm1⟩
  have HM1 := Lib.hid hm1; clear hm1
  go_wp2_with fail
  refine (here_calls b s q 34 w1 hr1 hsk (by omega)).mono ?_
  rw [HH.out]
  rintro e w2 ⟨rfl, hr2, hm2⟩
  have HM2 := Lib.hid (HM1.out.trans hm2); clear hm2
  go_wp2_with fail
  refine (next_calls b _).mono ?_
  rintro e w3 ⟨rfl, rfl⟩
  go_wp2_with fail
  refine (next1_no b w2.heap.size s ⟨#[62, 62]⟩ q _ (hr2.alloc _) hsk (by omega) (by simp) HQ.out).mono ?_
  rintro e w4 ⟨rfl, hr4, hm4⟩
  have HM4 := Lib.hid ((HM2.out.alloc _).trans hm4); clear hm4
  have HR4 := Lib.hid hr4; clear hr4
  go_wp2_with fail
  go_step3
  go_wp2_with fail
  go_step3
  go_wp2_with fail
  go_loopw [5, 6, 7, 8] (fun v u6 u7 u8 wr => ∃ (q k : Nat) (l : List UInt8), q ≤ s.size ∧ l.length ≤ q ∧ s.size < q + k ∧ bytesF s k q l = R ∧ OwnB w.heap.size wr v l ∧ Rd b s q wr ∧ Mv b w wr) (fun _ _ _ _ wr => s.size - (intOf ((wr.cell? ⟨b, 1, none⟩).getD undef)).toNat)
  case atStart => exact ⟨q, s.size - q + 1, [], hsk, by simp, by omega, HRR.out, OwnB.nil _ _, HR4.out, HM4.out⟩
  case round =>
    obtain ⟨q, k, l, hq, hl, hk, hf, ho, hrd, hmv⟩ := hrel
    have HF := Lib.hid hf; clear hf
    have HO := Lib.hid ho; clear ho
    have HM := Lib.hid hmv; clear hmv
    have c1 := hrd.c1
    have HC1 := Lib.hid c1; clear c1
    cases k with
    | zero => omega
    | succ k =>
    have hF := HF.out
    rw [bytesF] at hF
    have hq2 := skip_le hq
    have hge := le_skip s q
    have hltb := hrd.lt
    generalize hQ : skip s q = q1 at *
    have HSK1 := Lib.hid hQ; clear hQ
    have hd := digitsEnd_le hq2
    have hall := digits_all hq2
    have HA := Lib.hid hall; clear hall
    have hdg := le_digitsEnd s q1
    go_wp2_with fail
    refine (blanks_calls b s q wr hrd hq (by omega)).mono ?_
    rw [HSK1.out]
    rintro e w5 ⟨rfl, hr5, hm5⟩
    have HM5 := Lib.hid hm5; clear hm5
    have HR5 := Lib.hid hr5
    obtain ⟨lt5, c50, c51, f50, f51⟩ := hr5
    go_wp2_with fail
    clear lt5 c50 c51 f50 f51
    by_cases hne : digitsEnd s q1 = q1
    · rw [if_pos hne] at hF
      have HFF := Lib.hid hF; clear hF
      refine (digits_no b s q1 w5 HR5.out hq2 (by omega) hne).mono ?_
      rintro e w6 ⟨rfl, hm6⟩
      have HM6 := Lib.hid ((HM.out.trans HM5.out).trans hm6); clear hm6
      go_wp2
      exact And.intro rfl (by rw [← HRES.out, ← HFF.out]; exact ⟨rfl, HM6.out⟩)
    rw [if_neg hne] at hF
    generalize hr' : digitsEnd s q1 = r at *
    have HRE := Lib.hid hr'; clear hr'
    have hne' : digitsEnd s q1 ≠ q1 := by rw [HRE.out]; exact hne
    refine (digits_yes b s q1 w5 HR5.out hq2 (by omega) hne').mono ?_
    rw [HRE.out]
    rintro e w6 ⟨rfl, hr6, hm6⟩
    have HM6 := Lib.hid (HM5.out.trans hm6); clear hm6
    clear hne'
    by_cases hbig : 255 < numOf (cut s q1 r)
    · rw [if_pos hbig] at hF
      have HFF := Lib.hid hF; clear hF
      go_wp2_with fail
      refine (number_no _ 255 w6 (by omega) (by omega) (by rw [extract_size hd]; omega) HA.out (by unfold cut at hbig; omega)).mono ?_
      rintro e w7 ⟨rfl, rfl⟩
      clear hbig
      go_wp2_with fail
      refine (fail_calls _ _ _ _).mono ?_
      rintro e w8 ⟨rfl, rfl⟩
      go_wp2
      exact And.intro rfl (by rw [← HRES.out, ← HFF.out]; exact ⟨rfl, HM.out.trans HM6.out⟩)
    rw [if_neg hbig] at hF
    go_wp2_with fail
    refine (number_yes _ 255 w6 (by omega) (by omega) (by rw [extract_size hd]; omega) HA.out (by unfold cut at hbig; omega)).mono ?_
    rintro e w7 ⟨rfl, rfl⟩
    rw [show (s.extract q1 r).data.toList = cut s q1 r from rfl]
    have hcu : IntKind.u8.wrap (numOf (cut s q1 r) : Int) = (((numOf (cut s q1 r)).toUInt8).toNat : Int) := by
      rw [IntWalk.u8_in _ (by omega)]
      have : (numOf (cut s q1 r)).toUInt8.toNat = numOf (cut s q1 r) % 256 := by simp
      omega
    generalize (numOf (cut s q1 r)).toUInt8 = x at *
    generalize numOf (cut s q1 r) = V at *
    have HFF := Lib.hid hF; clear hF hbig
    have hskr := skip_le hd
    have hgr := le_skip s r
    have hss := skip_skip s r
    generalize hQ : skip s r = r1 at *
    have HSK2 := Lib.hid hQ; clear hQ
    have HSS := Lib.hid hss; clear hss
    go_wp2_with (at_builtin; refine wpList_append_own _ rfl _ _ 91 rfl w.heap.size 5 i0 (.int .u8 0) 1 1 Tryz.underlying91 hi hz0 hz1 hz2 rfl (by decide) _ _ _ rfl (World.ownsRow.alloc (HO.out.mv HM6.out (by have := hr.lt; omega)) _) ⟨w7.heap.size, 0, none⟩ 1 1 [.int .u8 (x.toNat : Int)] rfl rfl ?c1 ?c2 ?c3 ?c4 ?c5 ?_)
    case c1 => exact new_list _ [_] _ _ (by simp)
    case c2 => intro u hu; simp at hu; subst hu; rfl
    case c3 => unfold maxLen; omega
    case c4 => omega
    case c5 => simp; have := (HM.out.trans HM6.out).size; omega
    intro v' w8 hown' hgrow _
    have hge := HO.out.own_ge
    have hr8 := (hr6.alloc _).grown hgrow hge (by have := hr.lt; omega)
    have hm8 := ((HM.out.trans HM6.out).alloc _).grown hgrow hge
    have HOW : Hid (OwnB w.heap.size w8 v' (l ++ [x])) := by
      show w8.ownsRow _ _ _ _ _ _
      rw [byteCells_append, List.length_append]; exact hown'
    clear hown' hgrow hge
    have HM8 := Lib.hid hm8; clear hm8
    go_wp2_with fail
    refine (blanks_calls b s r w8 hr8 hd (by omega)).mono ?_
    rw [HSK2.out]
    rintro e w9 ⟨rfl, hr9, hm9⟩
    have HO9 := Lib.hid (HOW.out.mv hm9 (by have := hr.lt; omega))
    have HM9 := Lib.hid (HM8.out.trans hm9); clear hm9
    go_wp2_with fail
    refine (next_calls b _).mono ?_
    rintro e w10 ⟨rfl, rfl⟩
    go_wp2_with fail
    by_cases hcm : at? s r1 = some 44
    · have hF := HFF.out
      rw [if_pos hcm] at hF
      obtain ⟨hclt, -⟩ := at?_some hcm
      have HF2 := Lib.hid hF; clear hF
      refine (next1_yes b w9.heap.size s ⟨#[44]⟩ r1 _ (hr9.alloc _) hskr (by omega) (by simp) (by rw [starts_one]; exact decide_eq_true hcm)).mono ?_
      rintro e w11 ⟨rfl, hr11, hm11⟩
      have HO11 := Lib.hid (OwnB.mv (w := w9) HO9.out (((Mv.refl _ _).alloc _).trans hm11) (by have := hr.lt; omega))
      have HM11 := Lib.hid ((HM9.out.alloc _).trans hm11); clear hm11
      clear hcm
      have HR11 := Lib.hid hr11; clear hr11
      go_wp2
      go_roundw
      case rel => exact ⟨r1 + 1, k, l ++ [x], by omega, by simp; omega, by omega, HF2.out, HO11.out, HR11.out, HM11.out⟩
      case measure =>
        have e := HR11.out.c1
        simp only [show ({ data := #[44] } : ByteArray).size = 1 from rfl] at e
        rw [e, HC1.out]; simp [intOf]; omega
    · have hF := HFF.out
      rw [if_neg hcm] at hF
      have hcm' : starts s r1 [44] = false := by rw [starts_one]; exact decide_eq_false hcm
      have HCM := Lib.hid hcm'; clear hcm' hcm
      refine (next1_no b w9.heap.size s ⟨#[44]⟩ r1 _ (hr9.alloc _) hskr (by omega) (by simp) HCM.out).mono ?_
      rintro e w11 ⟨rfl, hr11, hm11⟩
      have HO11 := Lib.hid (OwnB.mv (w := w9) HO9.out (((Mv.refl _ _).alloc _).trans hm11) (by have := hr.lt; omega))
      have HM11 := Lib.hid ((HM9.out.alloc _).trans hm11); clear hm11
      unfold want at hF
      rw [HSS.out] at hF
      go_wp2_with fail
      cases hst : starts s r1 [62, 62] with
      | false =>
        rw [hst] at hF
        simp only [Bool.false_eq_true, if_false] at hF
        have HF2 := Lib.hid hF; clear hF
        have HST := Lib.hid hst; clear hst
        refine (want_no b s ⟨#[62, 62]⟩ r1 _ hr11 hskr (by omega) (by decide) (by rw [HSS.out]; exact HST.out)).mono ?_
        rw [HSS.out]
        rintro e w12 ⟨rfl, hm12⟩
        have HM12 := Lib.hid (HM11.out.trans hm12); clear hm12
        go_wp2
        exact And.intro rfl (by rw [← HRES.out, ← HF2.out]; exact ⟨rfl, HM12.out⟩)
      | true =>
        rw [hst] at hF
        simp only [if_true] at hF
        have HST := Lib.hid hst; clear hst
        refine (want_yes b s ⟨#[62, 62]⟩ r1 _ hr11 hskr (by omega) (by rw [HSS.out]; exact HST.out)).mono ?_
        rw [HSS.out]
        rintro e w12 ⟨rfl, hr12, hm12⟩
        have ho12 := HO11.out.mv hm12 (by have := hr.lt; omega)
        have HM12 := Lib.hid (HM11.out.trans hm12); clear hm12
        have hRE := HRES.out
        rw [← hF, binEnd] at hRE
        clear hF
        have hcv := conv_own ho12
        have hlen : ∃ A cap, v' = .slice A (l.length + 1) cap := by
          obtain ⟨-, ⟨rfl, h0⟩ | ⟨g, cap, cur, rfl, -⟩⟩ := ho12
          · simp at h0
          · exact ⟨_, _, by rw [List.length_append]; rfl⟩
        obtain ⟨A, cap, rfl⟩ := hlen
        rw [List.length_append, List.length_singleton] at hRE
        by_cases hbig : 1024 < l.length + 1
        · rw [if_pos hbig] at hRE
          have HRE' := Lib.hid hRE; clear hRE
          go_wp2_with fail
          rw [Exit.noGoto_normal]
          go_wp2_with fail
          refine (fail_calls _ _ _ _).mono ?_
          rintro e w13 ⟨rfl, rfl⟩
          go_wp2
          exact And.intro rfl (by rw [← HRE'.out]; exact ⟨rfl, HM12.out⟩)
        · rw [if_neg hbig] at hRE
          have HRE' := Lib.hid hRE; clear hRE
          generalize (l ++ [x]) = L at *
          go_wp2_with fail
          rw [Exit.noGoto_normal]
          go_wp2
          go_ret
          rw [← HRE'.out]
          exact ⟨_, rfl, OwnT.one w12 ⟨8, 0, Txt.bytes L⟩ _ HM12.out.size, hr12.alloc _, HM12.out.alloc _⟩

theorem binary_calls (b : Nat) (s : ByteArray) (start p : Nat) (w : World) (hr : Rd b s p w) (hp : p ≤ s.size) (hs : s.size ≤ 1099511627776) :
    Calls Tryz.prog 132 #[.pointer (some ⟨b, 0, none⟩), .int .i64 (start : Int)] w (ParseR b s w (binary s start p)) := by
  by_cases h34 : at? s (skip s p) = some 34
  · exact binary_quoted b s start p w hr hp hs h34
  · cases hst : starts s (skip s p) [62, 62] with
    | true => exact binary_none b s start p w hr hp hs hst
    | false => exact binary_loop b s start p w hr hp hs h34 hst
end Go.Proofs.YtejpdfenejbjdaaGreatDoor
