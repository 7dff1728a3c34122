/- Walks: a text in quotes. -/
import Derived.Test.YtebdikbngnolbaaDoorRd3
import Derived.Test.YtebdikbngnolbaaDoorCells
namespace Go.Proofs.YtebdikbngnolbaaDoor
open Go.RowKit Txt
set_option linter.unusedVariables false
set_option linter.unusedSimpArgs false

/-- A string in the place of the cells. -/
def ParseS (b : Nat) (s : ByteArray) (w : World) (r : PR (List UInt8)) (e : Ending) (w' : World) : Prop :=
  match r with
  | .ok l q => e = .returned (.string (Txt.bytes l)) ∧ Rd b s q w' ∧ Mv b w w'
  | .bad c a => e = .panicked (thrown c a) ∧ Mv b w w'

theorem ne_byte (c : UInt8) (n : Nat) (hn : n < 256) (h : c ≠ UInt8.ofNat n) : ((c.toNat : Int) == (n : Int)) = false := by
  rw [beq_eq_false_iff_ne]
  intro e
  apply h
  apply UInt8.toNat_inj.1
  simp
  omega

theorem Rd.grown {b : Nat} {s : ByteArray} {p base : Nat} {u u' : World} {x : Value} (h : Rd b s p u) (hg : u.grownBy u' x.ownBlock) (hx : ∀ g, x.ownBlock = some g → base ≤ g) (hb : b < base) : Rd b s p u' :=
  h.keep hg.size (hg.block b h.lt (fun e => by have := hx b e.symm; omega))
theorem Rd.alloc {b : Nat} {s : ByteArray} {p : Nat} {u : World} (h : Rd b s p u) (o : Obj) : Rd b s p (u.alloc o) := h.below ((Below.refl _ _).alloc (Nat.le_refl _) _)

set_option maxHeartbeats 2000000 in
set_option maxRecDepth 100000 in
theorem quoted_calls (b : Nat) (s : ByteArray) (p : Nat) (w : World) (hr : Rd b s p w) (hp : p < s.size) (hs : s.size ≤ 1099511627776) :
    Calls Tryd.prog 29 #[.pointer (some ⟨b, 0, none⟩)] w (ParseS b s w (Txt.quoted s p)) := by
  unfold Txt.quoted
  generalize hR : quotedF s (s.size - p) (p + 1) [] = R
  have HRR := Lib.hid hR; clear hR
  have HR := Lib.hid hr
  obtain ⟨lt, c0, c1, f0, f1⟩ := hr
  obtain ⟨i0, hi, hz0, hz1, hz2⟩ := info_parts info_u8
  go_enter Tryd.func29, Tryd.ntmps29
  go_wp2_with fail
  clear c0 c1 f0 f1
  go_loopw [3, 4] (fun v u4 wr => ∃ (q k : Nat) (l : List UInt8), q ≤ s.size ∧ l.length ≤ q ∧ s.size ≤ q + k ∧ quotedF s k q l = R ∧ OwnB w.heap.size wr v l ∧ Rd b s q wr ∧ Mv b w wr) (fun _ _ wr => s.size - (intOf ((wr.cell? ⟨b, 1, none⟩).getD undef)).toNat)
  case atStart => exact ⟨p + 1, s.size - p, [], by omega, by simp, by omega, HRR.out, OwnB.nil _ _, HR.out.go 0 (p + 1) ((p : Int) + 1) (by omega), (Mv.refl b w).setAt 1 _⟩
  case round =>
    obtain ⟨q, k, l, hq, hl, hk, hf, ho, hrd, hmv⟩ := hrel
    have HF := Lib.hid hf; clear hf
    have HO := Lib.hid ho; clear ho
    have HM := Lib.hid hmv; clear hmv
    have HRq := Lib.hid hrd
    obtain ⟨lt', c0, c1, f0, f1⟩ := hrd
    by_cases hlt : q < s.size
    · cases k with
      | zero => omega
      | succ k =>
      have hF := HF.out
      rw [quotedF, at?_lt hlt] at hF
      simp only at hF
      by_cases h34 : s[q] = 34
      · rw [if_pos h34] at hF
        have hc34 : ((s[q].toNat : Int) == 34) = true := by rw [h34]; rfl
        have HFF := Lib.hid hF; clear hF h34
        go_wp2_with fail
        go_quiet (fail)
        go_wp2_with fail
        go_quiet (fail)
        have hconv := fun n (v : Int) => conv_own (((HO.out.below ((Below.refl _ _))).keep (w' := (wr.drewN n).setCell ⟨b, 1, none⟩ (.int .i64 v)) (fun g hg _ _ => Below.heap_setCell _ _ _ _ (by simp; omega))))
        go_wp2
        go_ret
        rw [← HFF.out]
        exact ⟨rfl, HRq.out.go _ _ _ (by omega), (HM.out.drewN _).setAt _ _⟩
      · rw [if_neg h34] at hF
        have hc34 : ((s[q].toNat : Int) == 34) = false := ne_byte _ 34 (by omega) h34
        by_cases h92 : s[q] = 92
        · rw [if_pos h92] at hF
          have hc92 : ((s[q].toNat : Int) == 92) = true := by rw [h92]; rfl
          clear h34 h92
          by_cases hlt1 : q + 1 < s.size
          · rw [at?_lt hlt1] at hF
            simp only at hF
            have hw1 : IntKind.i64.wrap ((q : Int) + 1) = (q : Int) + 1 := IntWalk.i64_in _ (by omega)
            have hw2 : 0 ≤ (q : Int) + 1 := by omega
            have hw3 : ((q : Int) + 1).toNat = q + 1 := by omega
            by_cases hd : s[q + 1] = 34 ∨ s[q + 1] = 92
            · rw [if_pos hd] at hF
              have HFF := Lib.hid hF; clear hF
              have HD := Lib.hid hd; clear hd
              have hwalk : ∀ t1 t2 : Bool, ((s[q + 1].toNat : Int) != 34) = t1 → ((s[q + 1].toNat : Int) != 92) = t2 → (t1 && t2) = false := by
                intro t1 t2 e1 e2
                rcases HD.out with h | h
                · rw [← e1, h]; rfl
                · rw [← e2, h]; simp
              cases he1 : ((s[q + 1].toNat : Int) == 34)
              · have he1' : ((s[q + 1].toNat : Int) != 34) = true := by rw [bne, he1]; rfl
                cases he2 : ((s[q + 1].toNat : Int) == 92)
                · have he2' : ((s[q + 1].toNat : Int) != 92) = true := by rw [bne, he2]; rfl
                  have := hwalk _ _ he1' he2'
                  cases this
                · have he2' : ((s[q + 1].toNat : Int) != 92) = false := by rw [bne, he2]; rfl
                  clear hwalk
                  go_wp2_with fail
                  go_quiet (fail)
                  go_wp2_with fail
                  go_quiet (fail)
                  go_wp2_with fail
                  go_quiet (fail)
                  go_wp2_with fail
                  go_quiet (fail)
                  go_wp2_with fail
                  go_quiet (fail)
                  go_wp2_with (at_builtin; refine wpList_append_own _ rfl _ _ 53 rfl w.heap.size 5 i0 (.int .u8 0) 1 1 Tryd.underlying53 hi hz0 hz1 hz2 rfl (by decide) _ _ _ rfl (World.ownsRow.alloc (OwnB.mv (w := wr.drewN _) HO.out ((Mv.refl b _).setAt 1 _) (by omega)) _) ⟨wr.heap.size, 0, none⟩ 1 1 [.int .u8 (s[q + 1].toNat : Int)] rfl rfl ?c1 ?c2 ?c3 ?c4 ?c5 ?_)
                  case c1 => exact new_list _ [_] _ _ (by simp)
                  case c2 => intro u hu; simp at hu; subst hu; rfl
                  case c3 => unfold maxLen; omega
                  case c4 => omega
                  case c5 => simp; have := HM.out.size; omega
                  intro v' w1 hown' hgrow _
                  have hge := HO.out.own_ge
                  have hr1 := (((HRq.out.go _ (q + 1) ((q : Int) + 1) (by omega)).drewN _).alloc _).grown hgrow hge (by omega)
                  have hm1 := ((((HM.out.drewN _).setAt 1 _).drewN _).alloc _).grown hgrow hge
                  have HOW : Hid (OwnB w.heap.size w1 v' (l ++ [s[q + 1]])) := by
                    show w1.ownsRow _ _ _ _ _ _
                    rw [byteCells_append, List.length_append]; exact hown'
                  clear hown' hgrow hge
                  have HM1 := Lib.hid hm1; clear hm1
                  have HR1 := Lib.hid hr1
                  obtain ⟨lt1, d0, d1, g0, g1⟩ := hr1
                  go_wp2
                  go_roundw
                  case rel => exact ⟨q + 2, k, l ++ [s[q + 1]], by omega, by simp; omega, by omega, HFF.out, HOW.out.mv (((Mv.refl b _).setAt 1 _)) (by omega), HR1.out.go 0 _ _ (by omega), HM1.out.setAt 1 _⟩
                  case measure =>
                    have e := (HR1.out.go 0 (q + 2) ((q : Int) + 1 + 1) (by omega)).c1
                    rw [show w1.drewN 0 = w1 from rfl] at e
                    rw [e, c1]; simp [intOf]; omega
              · have he1' : ((s[q + 1].toNat : Int) != 34) = false := by rw [bne, he1]; rfl
                clear hwalk
                go_wp2_with fail
                go_quiet (fail)
                go_wp2_with fail
                go_quiet (fail)
                go_wp2_with fail
                go_quiet (fail)
                go_wp2_with fail
                go_quiet (fail)
                go_wp2_with fail
                go_quiet (fail)
                go_wp2_with (at_builtin; refine wpList_append_own _ rfl _ _ 53 rfl w.heap.size 5 i0 (.int .u8 0) 1 1 Tryd.underlying53 hi hz0 hz1 hz2 rfl (by decide) _ _ _ rfl (World.ownsRow.alloc (OwnB.mv (w := wr.drewN _) HO.out ((Mv.refl b _).setAt 1 _) (by omega)) _) ⟨wr.heap.size, 0, none⟩ 1 1 [.int .u8 (s[q + 1].toNat : Int)] rfl rfl ?c1 ?c2 ?c3 ?c4 ?c5 ?_)
                case c1 => exact new_list _ [_] _ _ (by simp)
                case c2 => intro u hu; simp at hu; subst hu; rfl
                case c3 => unfold maxLen; omega
                case c4 => omega
                case c5 => simp; have := HM.out.size; omega
                intro v' w1 hown' hgrow _
                have hge := HO.out.own_ge
                have hr1 := (((HRq.out.go _ (q + 1) ((q : Int) + 1) (by omega)).drewN _).alloc _).grown hgrow hge (by omega)
                have hm1 := ((((HM.out.drewN _).setAt 1 _).drewN _).alloc _).grown hgrow hge
                have HOW : Hid (OwnB w.heap.size w1 v' (l ++ [s[q + 1]])) := by
                  show w1.ownsRow _ _ _ _ _ _
                  rw [byteCells_append, List.length_append]; exact hown'
                clear hown' hgrow hge
                have HM1 := Lib.hid hm1; clear hm1
                have HR1 := Lib.hid hr1
                obtain ⟨lt1, d0, d1, g0, g1⟩ := hr1
                go_wp2
                go_roundw
                case rel => exact ⟨q + 2, k, l ++ [s[q + 1]], by omega, by simp; omega, by omega, HFF.out, HOW.out.mv (((Mv.refl b _).setAt 1 _)) (by omega), HR1.out.go 0 _ _ (by omega), HM1.out.setAt 1 _⟩
                case measure =>
                  have e := (HR1.out.go 0 (q + 2) ((q : Int) + 1 + 1) (by omega)).c1
                  rw [show w1.drewN 0 = w1 from rfl] at e
                  rw [e, c1]; simp [intOf]; omega
            · rw [if_neg hd] at hF
              have he1 : ((s[q + 1].toNat : Int) == 34) = false := ne_byte _ 34 (by omega) (fun h => hd (.inl h))
              have he2 : ((s[q + 1].toNat : Int) == 92) = false := ne_byte _ 92 (by omega) (fun h => hd (.inr h))
              have he1' : ((s[q + 1].toNat : Int) != 34) = true := by rw [bne, he1]; rfl
              have he2' : ((s[q + 1].toNat : Int) != 92) = true := by rw [bne, he2]; rfl
              clear hd
              have HFF := Lib.hid hF; clear hF
              go_wp2_with fail
              go_quiet (fail)
              go_wp2_with fail
              go_quiet (fail)
              go_wp2_with fail
              go_quiet (fail)
              go_wp2_with fail
              go_quiet (fail)
              go_wp2_with fail
              refine (fail_calls _ _ _ _).mono ?_
              rintro e w6 ⟨rfl, rfl⟩
              go_wp2
              rw [← HFF.out]
              exact ⟨rfl, rfl, HM.out.drewN _⟩
          · rw [at?_ge (by omega)] at hF
            simp only at hF
            have HFF := Lib.hid hF; clear hF
            go_wp2_with fail
            go_quiet (fail)
            go_wp2_with fail
            go_quiet (fail)
            go_wp2_with fail
            go_quiet (fail)
            go_wp2_with fail
            refine (fail_calls _ _ _ _).mono ?_
            rintro e w6 ⟨rfl, rfl⟩
            go_wp2
            rw [← HFF.out]
            exact ⟨rfl, rfl, HM.out.drewN _⟩
        · rw [if_neg h92] at hF
          have hc92 : ((s[q].toNat : Int) == 92) = false := ne_byte _ 92 (by omega) h92
          clear h34 h92
          have HFF := Lib.hid hF; clear hF
          go_wp2_with fail
          go_quiet (fail)
          go_wp2_with fail
          go_quiet (fail)
          go_wp2_with (at_builtin; refine wpList_append_own _ rfl _ _ 53 rfl w.heap.size 5 i0 (.int .u8 0) 1 1 Tryd.underlying53 hi hz0 hz1 hz2 rfl (by decide) _ _ _ rfl (World.ownsRow.alloc (HO.out) _) ⟨wr.heap.size, 0, none⟩ 1 1 [.int .u8 (s[q].toNat : Int)] rfl rfl ?c1 ?c2 ?c3 ?c4 ?c5 ?_)
          case c1 => exact new_list _ [_] _ _ (by simp)
          case c2 => intro u hu; simp at hu; subst hu; rfl
          case c3 => unfold maxLen; omega
          case c4 => omega
          case c5 => simp; have := HM.out.size; omega
          intro v' w1 hown' hgrow _
          have hge := HO.out.own_ge
          have hr1 := ((HRq.out.drewN _).alloc _).grown hgrow hge (by omega)
          have hm1 := ((HM.out.drewN _).alloc _).grown hgrow hge
          have HOW : Hid (OwnB w.heap.size w1 v' (l ++ [s[q]])) := by
            show w1.ownsRow _ _ _ _ _ _
            rw [byteCells_append, List.length_append]; exact hown'
          clear hown' hgrow hge
          have HM1 := Lib.hid hm1; clear hm1
          have HR1 := Lib.hid hr1
          obtain ⟨lt1, d0, d1, g0, g1⟩ := hr1
          go_wp2
          go_roundw
          case rel => exact ⟨q + 1, k, l ++ [s[q]], by omega, by simp; omega, by omega, HFF.out, HOW.out.mv (((Mv.refl b _).setAt 1 _)) (by omega), HR1.out.go 0 _ _ (by omega), HM1.out.setAt 1 _⟩
          case measure =>
            have e := (HR1.out.go 0 (q + 1) ((q : Int) + 1) (by omega)).c1
            rw [show w1.drewN 0 = w1 from rfl] at e
            rw [e, c1]; simp [intOf]; omega
    · have hF : R = .bad 70 s.size := by
        rw [← HF.out]
        cases k with
        | zero => rfl
        | succ k => rw [quotedF, at?_ge (by omega)]
      subst hF
      go_wp2_with fail
      go_quiet (fail)
      go_wp2_with fail
      refine (fail_calls _ _ _ _).mono ?_
      rintro e w6 ⟨rfl, rfl⟩
      go_wp2
      exact ⟨rfl, rfl, HM.out.drewN _⟩
end Go.Proofs.YtebdikbngnolbaaDoor
