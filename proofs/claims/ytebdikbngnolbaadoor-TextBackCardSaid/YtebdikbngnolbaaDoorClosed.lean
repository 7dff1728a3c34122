/- Walks: one term has been written: what stands around it goes on, or ends. -/
import Derived.Test.YtebdikbngnolbaaDoorStack
import Derived.Test.YtebdikbngnolbaaDoorShown
import Derived.OwnWalk
import Derived.Outline
namespace Go.Proofs.YtebdikbngnolbaaDoor
open Go.RowKit Txt
set_option linter.unusedVariables false
set_option linter.unusedSimpArgs false

def lenOf : Value → Nat
  | .slice _ n _ => n
  | _ => 0
/-- What comes of it. -/
def ClosedOut (base : Nat) (w : World) (bs : List UInt8) (st : List Opn) (e : Ending) (w' : World) : Prop :=
  ∃ bv sv, e = .returned (.tuple #[bv, sv]) ∧ PS base w' bv sv bs st ∧ Below base w w'
theorem PS.slices {base : Nat} {w : World} {bv sv : Value} {bs : List UInt8} {st : List Opn} (h : PS base w bv sv bs st) : (∃ A c, bv = .slice A bs.length c) ∧ (∃ A c, sv = .slice A st.length c) := by
  refine ⟨?_, ?_⟩
  · obtain ⟨-, ⟨rfl, h0⟩ | ⟨g, cap, cur, rfl, -⟩⟩ := h.b
    · exact ⟨none, 0, by rw [h0]⟩
    · exact ⟨_, _, rfl⟩
  · obtain ⟨-, ⟨rfl, h0⟩ | ⟨g, cap, cur, rfl, -⟩⟩ := h.s
    · exact ⟨none, 0, by rw [h0]⟩
    · exact ⟨_, _, rfl⟩

set_option maxHeartbeats 2000000 in
set_option maxRecDepth 100000 in
theorem closed_calls (base : Nat) (bv sv : Value) (bs : List UInt8) (st : List Opn) (w : World) (h : PS base w bv sv bs st) (hB : base ≤ w.heap.size) (hl : bs.length + st.length ≤ 1099511627776) :
    Calls Tryd.prog 21 #[bv, sv] w (ClosedOut base w (bs ++ (closed st).1) (closed st).2) := by
  obtain ⟨i0, hi, hz0, hz1, hz2⟩ := info_parts info_u8
  obtain ⟨⟨A, ca, rfl⟩, ⟨D, da, rfl⟩⟩ := h.slices
  have HP := Lib.hid h; clear h
  generalize hR1 : bs ++ (closed st).1 = R1
  generalize hR2 : (closed st).2 = R2
  have HR1 := Lib.hid hR1; clear hR1
  have HR2 := Lib.hid hR2; clear hR2
  go_enter Tryd.func21, Tryd.ntmps21
  go_wp2_with fail
  go_loopw [0, 1] (fun b s wr => ∃ bs' st', PS base wr b s bs' st' ∧ bs' ++ (closed st').1 = R1 ∧ (closed st').2 = R2 ∧ Below base w wr ∧ bs'.length + st'.length ≤ 1099511627776) (fun _ s _ => lenOf s)
  case atStart => exact ⟨bs, st, HP.out, HR1.out, HR2.out, Below.refl _ _, hl⟩
  case round =>
    obtain ⟨bs', st', hp, hr1, hr2, hb, hl'⟩ := hrel
    have HPP := Lib.hid hp; clear hp
    have HS1 := Lib.hid hr1; clear hr1
    have HS2 := Lib.hid hr2; clear hr2
    have HB := Lib.hid hb; clear hb
    have hsz : base ≤ wr.heap.size := by have := HB.out.size; omega
    cases st' with
    | nil =>
      obtain ⟨⟨A1, c1, rfl⟩, ⟨A2, c2, rfl⟩⟩ := HPP.out.slices
      have hn : decide ((0 : Int) < (([] : List Opn).length : Int)) = false := rfl
      have hfin : PS base wr (.slice A1 bs'.length c1) (.slice A2 ([] : List Opn).length c2) R1 R2 := by
        rw [← HS1.out, ← HS2.out]
        have := HPP.out
        simp only [closed, List.append_nil]
        exact this
      have HF := Lib.hid hfin; clear hfin
      go_wp2_with fail
      go_ret2
      exact ⟨_, _, rfl, HF.out, HB.out⟩
    | cons o r =>
      obtain ⟨g, cap, rfl, hgb, hglt, hncap, hcapm, c0, c1, c2, hfz, hset, hpop⟩ := HPP.out.top
      obtain ⟨⟨A1, ca1, rfl⟩, -⟩ := HPP.out.slices
      have hsm := HPP.out.small o (by simp)
      have HSET := Lib.hid hset; clear hset
      have HPOP := Lib.hid hpop; clear hpop
      unfold maxLen at hcapm
      simp only [List.length_cons] at hl'
      obtain ⟨ol, oli, ot⟩ := o
      simp only at c0 c1 c2 hsm
      cases oli with
      | true =>
        cases ot with
        | false =>
          obtain ⟨hps, hgr⟩ := HSET.out 2 (.bool true) ⟨ol, true, true⟩ rfl (by omega) hsm
          have hfin : PS base (wr.setCell ⟨g, r.length * 3 + 2, none⟩ (.bool true)) (.slice A1 bs'.length ca1) (.slice (some ⟨g, 0, none⟩) (r.length + 1) cap) R1 R2 := by
            rw [← HS1.out, ← HS2.out]
            simp only [closed, Bool.not_false, Bool.and_self, if_true, List.append_nil]
            exact hps
          have HF := Lib.hid hfin
          have HBF := Lib.hid (HB.out.grown hgr hsz (by rintro k ⟨⟩; exact hgb))
          clear hfin hps hgr
          go_wp2_with fail
          go_ret2
          exact ⟨_, _, rfl, HF.out, HBF.out⟩
        | true =>
          go_wp2_with (at_builtin; refine wpList_append_own_at _ rfl _ _ 53 rfl base 5 i0 (.int .u8 0) 1 1 Tryd.underlying53 hi hz0 hz1 hz2 rfl (by decide) _ _ _ rfl (World.ownsRow.alloc HPP.out.b _) ⟨wr.heap.size, 0, none⟩ 1 1 (Lib.byteCells [93]) rfl rfl ?a1 (byteCells_oneCell _) ?a3 ?a4 ?a5 ?_)
          case a1 => exact new_list _ (Lib.byteCells [93]) _ _ (by first | rfl | simp)
          case a3 => unfold maxLen; omega
          case a4 => omega
          case a5 => first | omega | (simp; omega)
          intro bv1 w1 hown' hgrow _ hlies
          have hps1 : PS base w1 bv1 (.slice (some ⟨g, 0, none⟩) (r.length + 1) cap) (bs' ++ [93]) (⟨ol, true, true⟩ :: r) := (HPP.out.alloc _).put (OwnB.appended (u := [93]) hown' (by simp)) hgrow (by simpa using hlies)
          have hge := HPP.out.b.own_ge
          have hb1 : Below base w w1 := ((HB.out.alloc hsz _).grown hgrow (by simp; omega) hge)
          obtain ⟨g', cap', he, hgb', hglt', hncap', hcapm', -, -, -, -, -, hpop1⟩ := hps1.top
          obtain ⟨rfl, rfl⟩ : g' = g ∧ cap' = cap := by simp at he; exact ⟨he.1.symm, he.2.symm⟩
          have HPS := Lib.hid hpop1
          have HB1 := Lib.hid hb1
          clear hps1 hb1 hpop1 he hown' hgrow hlies hge hgb' hglt' hncap' hcapm'
          have hr1 : bs' ++ [93] ++ (closed r).1 = R1 := by
            rw [← HS1.out]; simp [closed]
          have hr2 : (closed r).2 = R2 := by
            rw [← HS2.out]; simp [closed]
          have HQ1 := Lib.hid hr1; clear hr1
          have HQ2 := Lib.hid hr2; clear hr2
          go_wp2
          go_roundw
          case rel => exact ⟨_, _, HPS.out, HQ1.out, HQ2.out, HB1.out, by simp only [List.length_append, List.length_cons, List.length_nil]; omega⟩
          case measure => simp [lenOf]
      | false =>
        by_cases hgt : 1 < ol
        · have hd : decide ((1 : Int) < ol) = true := by simpa using hgt
          obtain ⟨hps, hgr⟩ := HSET.out 0 (.int .i64 (ol - 1)) ⟨ol - 1, false, ot⟩ rfl (by omega) (by simp only; omega)
          rw [Nat.add_zero] at hps hgr
          have HPS := Lib.hid hps
          have HBF := Lib.hid (HB.out.grown hgr hsz (by rintro k ⟨⟩; exact hgb))
          clear hps hgr
          go_wp2_with (at_builtin; refine wpList_append_own_at _ rfl _ _ 53 rfl base 5 i0 (.int .u8 0) 1 1 Tryd.underlying53 hi hz0 hz1 hz2 rfl (by decide) _ _ _ rfl (World.ownsRow.alloc HPS.out.b _) ⟨wr.heap.size, 0, none⟩ 1 1 (Lib.byteCells [44]) rfl rfl ?b1 (byteCells_oneCell _) ?b3 ?b4 ?b5 ?_)
          case b1 => exact new_list _ (Lib.byteCells [44]) _ _ (by first | rfl | simp)
          case b3 => unfold maxLen; omega
          case b4 => omega
          case b5 => first | omega | (simp; omega)
          intro bv1 w1 hown' hgrow _ hlies
          have hps1 : PS base w1 bv1 (.slice (some ⟨g, 0, none⟩) (r.length + 1) cap) (bs' ++ [44]) (⟨ol - 1, false, ot⟩ :: r) := (HPS.out.alloc _).put (OwnB.appended (u := [44]) hown' (by simp)) hgrow (by simpa using hlies)
          have hge := HPS.out.b.own_ge
          have hb1 : Below base w w1 := ((HBF.out.alloc (by simpa using hsz) _).grown hgrow (by simp; omega) hge)
          have hfin : PS base w1 bv1 (.slice (some ⟨g, 0, none⟩) (r.length + 1) cap) R1 R2 := by
            rw [← HS1.out, ← HS2.out]
            have e : closed (⟨ol, false, ot⟩ :: r) = ([44], ⟨ol - 1, false, ot⟩ :: r) := by rw [closed]; simp [hgt]
            rw [e]; exact hps1
          have HF := Lib.hid hfin
          have HB1 := Lib.hid hb1
          obtain ⟨⟨A3, ca3, rfl⟩, -⟩ := hps1.slices
          clear hps1 hb1 hown' hgrow hlies hge hfin
          go_wp2
          go_ret2
          exact ⟨_, _, rfl, HF.out, HB1.out⟩
        · have hd : decide ((1 : Int) < ol) = false := by simpa using hgt
          go_wp2_with (at_builtin; refine wpList_append_own_at _ rfl _ _ 53 rfl base 5 i0 (.int .u8 0) 1 1 Tryd.underlying53 hi hz0 hz1 hz2 rfl (by decide) _ _ _ rfl (World.ownsRow.alloc HPP.out.b _) ⟨wr.heap.size, 0, none⟩ 1 1 (Lib.byteCells [125]) rfl rfl ?d1 (byteCells_oneCell _) ?d3 ?d4 ?d5 ?_)
          case d1 => exact fun j u h => h
          case d3 => unfold maxLen; omega
          case d4 => omega
          case d5 => first | omega | (simp; omega)
          intro bv1 w1 hown' hgrow _ hlies
          have hps1 : PS base w1 bv1 (.slice (some ⟨g, 0, none⟩) (r.length + 1) cap) (bs' ++ [125]) (⟨ol, false, ot⟩ :: r) := (HPP.out.alloc _).put (OwnB.appended (u := [125]) hown' (by simp)) hgrow (by simpa using hlies)
          have hge := HPP.out.b.own_ge
          have hb1 : Below base w w1 := ((HB.out.alloc hsz _).grown hgrow (by simp; omega) hge)
          obtain ⟨g', cap', he, hgb', hglt', hncap', hcapm', -, -, -, -, -, hpop1⟩ := hps1.top
          obtain ⟨rfl, rfl⟩ : g' = g ∧ cap' = cap := by simp at he; exact ⟨he.1.symm, he.2.symm⟩
          have HPS := Lib.hid hpop1
          have HB1 := Lib.hid hb1
          clear hps1 hb1 hpop1 he hown' hgrow hlies hge hgb' hglt' hncap' hcapm'
          have e : closed (⟨ol, false, ot⟩ :: r) = (125 :: (closed r).1, (closed r).2) := by rw [closed]; simp [hgt]
          have hr1 : bs' ++ [125] ++ (closed r).1 = R1 := by
            rw [← HS1.out, e]; simp
          have hr2 : (closed r).2 = R2 := by
            rw [← HS2.out, e]
          have HQ1 := Lib.hid hr1; clear hr1
          have HQ2 := Lib.hid hr2; clear hr2 e
          go_wp2
          go_roundw
          case rel => exact ⟨_, _, HPS.out, HQ1.out, HQ2.out, HB1.out, by simp only [List.length_append, List.length_cons, List.length_nil]; omega⟩
          case measure => simp [lenOf]
end Go.Proofs.YtebdikbngnolbaaDoor
