/- The printer's state in memory: the bytes written, and the stack of what is open. -/
import Derived.Test.YtejpdfenejbjdaaGreatDoorCells
import Derived.Test.YtejpdfenejbjdaaGreatDoorPModel
import Derived.WalkSmall
import Derived.Laws.OwnMore
import Derived.Maps.AppendAt
import Derived.Deep.AppendLies
import Derived.Test.YtejpdfenejbjdaaGreatDoorShown
import Derived.OwnWalk
import Derived.Outline
namespace Go.Proofs.YtejpdfenejbjdaaGreatDoor
open Go.RowKit Txt
set_option linter.unusedVariables false
set_option linter.unusedSimpArgs false

theorem info_open : (Tryz.prog.info? 107).map (fun i => (i.zero, i.size, i.bytes)) = some (some (.agg #[.int .i64 0, .bool false, .bool false]), 3, 16) := by kernel_rfl
def ov (o : Opn) : List Value := [.int .i64 o.left, .bool o.list, .bool o.tail]
def ovs (st : List Opn) : List Value := st.flatMap ov
theorem ovs_append (t u : List Opn) : ovs (t ++ u) = ovs t ++ ovs u := by simp [ovs]
theorem ovs_one (o : Opn) : ovs [o] = ov o := by simp [ovs]
theorem ovs_length (t : List Opn) : (ovs t).length = t.length * 3 := by
  induction t with
  | nil => rfl
  | cons c t ih =>
    have : ovs (c :: t) = ov c ++ ovs t := rfl
    rw [this, List.length_append, ih]; simp [ov]; omega
theorem ov_oneCell (o : Opn) : ∀ u ∈ ov o, u.oneCell' = true := by
  intro u hu
  simp only [ov, List.mem_cons, List.not_mem_nil, or_false] at hu
  rcases hu with rfl | rfl | rfl <;> rfl
/-- The stack, its top last. -/
def OwnS (base : Nat) (w : World) (x : Value) (st : List Opn) : Prop := w.ownsRow base 107 3 x st.length (ovs st.reverse)

/-- Both rows, apart from each other. -/
structure PS (base : Nat) (w : World) (bv sv : Value) (bs : List UInt8) (st : List Opn) : Prop where
  b : OwnB base w bv bs
  s : OwnS base w sv st
  apart : bv.ownBlock = none ∨ bv.ownBlock ≠ sv.ownBlock
  small : ∀ o ∈ st, 0 ≤ o.left ∧ o.left ≤ 255
theorem PS.nil (base : Nat) (w : World) : PS base w (.slice none 0 0) (.slice none 0 0) [] [] := ⟨OwnB.nil _ _, World.ownsRow_nil w base _ 3, .inl rfl, fun o h => by cases h⟩
theorem PS.keep {base : Nat} {w w' : World} {bv sv : Value} {bs : List UInt8} {st : List Opn} (h : PS base w bv sv bs st) (hb : Below w.heap.size w w') : PS base w' bv sv bs st := by
  have hg : w.grownBy w' none := ⟨hb.os, hb.tape, hb.output, hb.size, fun k hk _ => hb.block k hk⟩
  refine ⟨h.b.below hb, ?_, h.apart, h.small⟩
  refine World.ownsRow.kept h.s hg ?_
  cases hs : sv.ownBlock with
  | none => exact .inl rfl
  | some g => exact .inr (by simp)
theorem PS.alloc {base : Nat} {w : World} {bv sv : Value} {bs : List UInt8} {st : List Opn} (h : PS base w bv sv bs st) (o : Obj) : PS base (w.alloc o) bv sv bs st := h.keep ((Below.refl _ _).alloc (Nat.le_refl _) _)
theorem PS.drewN {base : Nat} {w : World} {bv sv : Value} {bs : List UInt8} {st : List Opn} (h : PS base w bv sv bs st) (n : Nat) : PS base (w.drewN n) bv sv bs st := ⟨h.b, h.s, h.apart, h.small⟩
/-- Bytes were appended. -/
theorem PS.put {base : Nat} {w w' : World} {bv bv' sv : Value} {bs bs' : List UInt8} {st : List Opn} (h : PS base w bv sv bs st) (hb : OwnB base w' bv' bs') (hg : w.grownBy w' bv.ownBlock) (hl : bv'.ownBlock = bv.ownBlock ∨ bv'.ownBlock = some w.heap.size) : PS base w' bv' sv bs' st := by
  have hlt := World.ownsRow.lt h.s
  refine ⟨hb, World.ownsRow.kept h.s hg ?_, ?_, h.small⟩
  · cases hs : sv.ownBlock with
    | none => exact .inl rfl
    | some g =>
      right
      rcases h.apart with h1 | h1
      · rw [h1]; simp
      · rw [hs] at h1; exact fun e => h1 e.symm
  · rcases hl with hl | hl
    · rw [hl]; exact h.apart
    · right
      rw [hl]
      intro e
      have := (hlt _ e.symm).2
      omega
/-- The stack grew. -/
theorem PS.push {base : Nat} {w w' : World} {bv sv sv' : Value} {bs : List UInt8} {st : List Opn} {o : Opn} (h : PS base w bv sv bs st) (hs : OwnS base w' sv' (o :: st)) (ho : 0 ≤ o.left ∧ o.left ≤ 255) (hg : w.grownBy w' sv.ownBlock) (hl : sv'.ownBlock = sv.ownBlock ∨ sv'.ownBlock = some w.heap.size) : PS base w' bv sv' bs (o :: st) := by
  have hlt := World.ownsRow.lt h.b
  refine ⟨World.ownsRow.kept h.b hg ?_, hs, ?_, fun p hp => ?_⟩
  · exact h.apart
  · rcases hl with hl | hl
    · rw [hl]; exact h.apart
    · rcases h.apart with h1 | h1
      · exact .inl h1
      · right
        rw [hl]
        intro e
        have := (hlt _ e).2
        omega
  · rw [List.mem_cons] at hp
    rcases hp with rfl | hp
    · exact ho
    · exact h.small p hp
/-- The top of the stack, in memory. -/
theorem PS.top {base : Nat} {w : World} {bv sv : Value} {bs : List UInt8} {st : List Opn} {o : Opn} (h : PS base w bv sv bs (o :: st)) :
    ∃ g cap, sv = .slice (some ⟨g, 0, none⟩) (st.length + 1) cap ∧ base ≤ g ∧ g < w.heap.size ∧ st.length + 1 ≤ cap ∧ cap ≤ maxLen
      ∧ w.cell? ⟨g, st.length * 3, none⟩ = some (.int .i64 o.left) ∧ w.cell? ⟨g, st.length * 3 + 1, none⟩ = some (.bool o.list) ∧ w.cell? ⟨g, st.length * 3 + 2, none⟩ = some (.bool o.tail)
      ∧ (∀ j, w.frozen? ⟨g, j, none⟩ = false)
      ∧ (∀ (j : Nat) (u : Value) (o' : Opn), (ov o).set j u = ov o' → j < 3 → (0 ≤ o'.left ∧ o'.left ≤ 255) → PS base (w.setCell ⟨g, st.length * 3 + j, none⟩ u) bv sv bs (o' :: st) ∧ w.grownBy (w.setCell ⟨g, st.length * 3 + j, none⟩ u) (some g))
      ∧ PS base w bv (.slice (some ⟨g, 0, none⟩) st.length cap) bs st := by
  have hs : w.ownsRow base 107 3 sv (st.length + 1) (ovs st.reverse ++ ov o) := by
    have := h.s
    unfold OwnS at this
    rw [List.reverse_cons, ovs_append, ovs_one, List.length_cons] at this
    exact this
  have hap := h.apart
  have hbm := h.b
  have hsm := h.small
  have hl := ovs_length st.reverse
  rw [List.length_reverse] at hl
  obtain ⟨hlen, ⟨-, h0⟩ | ⟨g, cap, cur, rfl, hg, hh, hn, hm, hsz, ht⟩⟩ := id hs
  · omega
  have hcl := fun j (hj : j < 3) => World.ownsRow.cellAt hs (st.length * 3 + j) (by omega)
  have hat : ∀ j, j < 3 → (ovs st.reverse ++ ov o)[st.length * 3 + j]? = (ov o)[j]? := by
    intro j hj
    rw [List.getElem?_append_right (by omega), hl]
    congr 1; omega
  have hlt : g < w.heap.size := by
    rcases Nat.lt_or_ge g w.heap.size with h' | h'
    · exact h'
    · rw [Array.getElem?_eq_none h'] at hh; cases hh
  refine ⟨g, cap, rfl, hg, hlt, hn, hm, ?_, ?_, ?_, World.ownsRow.frozenAt hs, ?_, ?_⟩
  · have := hcl 0 (by omega); rw [hat 0 (by omega)] at this; exact this
  · rw [hcl 1 (by omega), hat 1 (by omega)]; rfl
  · rw [hcl 2 (by omega), hat 2 (by omega)]; rfl
  · intro j u o' he hj ho
    obtain ⟨h1, h2⟩ := World.ownsRow.stored hs (st.length * 3 + j) u
    refine ⟨⟨World.ownsRow.kept hbm h2 hap, ?_, hap, fun p hp => ?_⟩, h2⟩
    · unfold OwnS
      rw [List.reverse_cons, ovs_append, ovs_one, List.length_cons, ← he]
      rw [List.set_append_right _ _ (by omega), hl, show st.length * 3 + j - st.length * 3 = j by omega] at h1
      exact h1
    · rw [List.mem_cons] at hp
      rcases hp with rfl | hp
      · exact ho
      · exact hsm p (by simp [hp])
  · exact ⟨hbm, ownsRow_pop (by rw [hl]) hs, hap, fun p hp => hsm p (by simp [hp])⟩
end Go.Proofs.YtejpdfenejbjdaaGreatDoor

namespace Go.Proofs.YtejpdfenejbjdaaGreatDoor
open Go.RowKit Txt
set_option linter.unusedVariables false
set_option linter.unusedSimpArgs false

def lenOf : Value → Nat
  | .slice _ n _ => n
  | _ => 0
/-- What comes of it. -/
def ClosedOut (base : Nat) (w : World) (bs : List UInt8) (st : List Opn) (e : Ending) (w' : World) : Prop :=
  ∃ bv sv, e = .returned (.tuple #[bv, sv]) ∧ PS base w' bv sv bs st ∧ Below base w w'
theorem PS.slices {base : Nat} {w : World} {bv sv : Value} {bs : List UInt8} {st : List Opn} (h : PS base w bv sv bs st) : (∃ A c, bv = .slice A bs.length c) ∧ (∃ A c, sv = .slice A st.length c) := by
  refine ⟨?_, ?_⟩
  · obtain ⟨-, ⟨rfl, h0⟩ | ⟨g, cap, cur, rfl, -⟩⟩ := h.b
    · exact ⟨none, 0, by rw [h0]⟩
    · exact ⟨_, _, rfl⟩
  · obtain ⟨-, ⟨rfl, h0⟩ | ⟨g, cap, cur, rfl, -⟩⟩ := h.s
    · exact ⟨none, 0, by rw [h0]⟩
    · exact ⟨_, _, rfl⟩

set_option maxHeartbeats 2000000 in
set_option maxRecDepth 100000 in
theorem closed_calls (base : Nat) (bv sv : Value) (bs : List UInt8) (st : List Opn) (w : World) (h : PS base w bv sv bs st) (hB : base ≤ w.heap.size) (hl : bs.length + st.length ≤ 1099511627776) :
    Calls Tryz.prog 79 #[bv, sv] w (ClosedOut base w (bs ++ (closed st).1) (closed st).2) := by
  obtain ⟨i0, hi, hz0, hz1, hz2⟩ := info_parts info_u8
  obtain ⟨⟨A, ca, rfl⟩, ⟨D, da, rfl⟩⟩ := h.slices
  have HP := Lib.hid h; clear h
  generalize hR1 : bs ++ (closed st).1 = R1
  generalize hR2 : (closed st).2 = R2
  have HR1 := Lib.hid hR1; clear hR1
  have HR2 := Lib.hid hR2; clear hR2
  go_enter Tryz.func79, Tryz.ntmps79
  go_wp2_with fail
  go_loopw [0, 1] (fun b s wr => ∃ bs' st', PS base wr b s bs' st' ∧ bs' ++ (closed st').1 = R1 ∧ (closed st').2 = R2 ∧ Below base w wr ∧ bs'.length + st'.length ≤ 1099511627776) (fun _ s _ => lenOf s)
  case atStart => exact ⟨bs, st, HP.out, HR1.out, HR2.out, Below.refl _ _, hl⟩
  case round =>
    obtain ⟨bs', st', hp, hr1, hr2, hb, hl'⟩ := hrel
    have HPP := Lib.hid hp; clear hp
    have HS1 := Lib.hid hr1; clear hr1
    have HS2 := Lib.hid hr2; clear hr2
    have HB := Lib.hid hb; clear hb
    have hsz : base ≤ wr.heap.size := by have := HB.out.size; omega
    cases st' with
    | nil =>
      obtain ⟨⟨A1, c1, rfl⟩, ⟨A2, c2, rfl⟩⟩ := HPP.out.slices
      have hn : decide ((0 : Int) < (([] : List Opn).length : Int)) = false := rfl
      have hfin : PS base wr (.slice A1 bs'.length c1) (.slice A2 ([] : List Opn).length c2) R1 R2 := by
        rw [← HS1.out, ← HS2.out]
        have := HPP.out
        simp only [closed, List.append_nil]
        exact this
      have HF := Lib.hid hfin; clear hfin
      go_wp2_with fail
      go_ret2
      exact ⟨_, _, rfl, HF.out, HB.out⟩
    | cons o r =>
      obtain ⟨g, cap, rfl, hgb, hglt, hncap, hcapm, c0, c1, c2, hfz, hset, hpop⟩ := HPP.out.top
      obtain ⟨⟨A1, ca1, rfl⟩, -⟩ := HPP.out.slices
      have hsm := HPP.out.small o (by simp)
      have HSET := Lib.hid hset; clear hset
      have HPOP := Lib.hid hpop; clear hpop
      unfold maxLen at hcapm
      simp only [List.length_cons] at hl'
      obtain ⟨ol, oli, ot⟩ := o
      simp only at c0 c1 c2 hsm
      cases oli with
      | true =>
        cases ot with
        | false =>
          obtain ⟨hps, hgr⟩ := HSET.out 2 (.bool true) ⟨ol, true, true⟩ rfl (by omega) hsm
          have hfin : PS base (wr.setCell ⟨g, r.length * 3 + 2, none⟩ (.bool true)) (.slice A1 bs'.length ca1) (.slice (some ⟨g, 0, none⟩) (r.length + 1) cap) R1 R2 := by
            rw [← HS1.out, ← HS2.out]
            simp only [closed, Bool.not_false, Bool.and_self, if_true, List.append_nil]
            exact hps
          have HF := Lib.hid hfin
          have HBF := Lib.hid (HB.out.grown hgr hsz (by rintro k ⟨⟩; exact hgb))
          clear hfin hps hgr
          go_wp2_with fail
          go_ret2
          exact ⟨_, _, rfl, HF.out, HBF.out⟩
        | true =>
          go_wp2_with (at_builtin; refine wpList_append_own_at _ rfl _ _ 91 rfl base 5 i0 (.int .u8 0) 1 1 Tryz.underlying91 hi hz0 hz1 hz2 rfl (by decide) _ _ _ rfl (World.ownsRow.alloc HPP.out.b _) ⟨wr.heap.size, 0, none⟩ 1 1 (Lib.byteCells [93]) rfl rfl ?a1 (byteCells_oneCell _) ?a3 ?a4 ?a5 ?_)
          case a1 => exact new_list _ (Lib.byteCells [93]) _ _ (by first | rfl | simp)
          case a3 => unfold maxLen; omega
          case a4 => omega
          case a5 => first | omega | (simp; omega)
          intro bv1 w1 hown' hgrow _ hlies
          have hps1 : PS base w1 bv1 (.slice (some ⟨g, 0, none⟩) (r.length + 1) cap) (bs' ++ [93]) (⟨ol, true, true⟩ :: r) := (HPP.out.alloc _).put (OwnB.appended (u := [93]) hown' (by simp)) hgrow (by simpa using hlies)
          have hge := HPP.out.b.own_ge
          have hb1 : Below base w w1 := ((HB.out.alloc hsz _).grown hgrow (by simp; omega) hge)
          obtain ⟨g', cap', he, hgb', hglt', hncap', hcapm', -, -, -, -, -, hpop1⟩ := hps1.top
          obtain ⟨rfl, rfl⟩ : g' = g ∧ cap' = cap := by simp at he; exact ⟨he.1.symm, he.2.symm⟩
          have HPS := Lib.hid hpop1
          have HB1 := Lib.hid hb1
          clear hps1 hb1 hpop1 he hown' hgrow hlies hge hgb' hglt' hncap' hcapm'
          have hr1 : bs' ++ [93] ++ (closed r).1 = R1 := by
            rw [← HS1.out]; simp [closed]
          have hr2 : (closed r).2 = R2 := by
            rw [← HS2.out]; simp [closed]
          have HQ1 := Lib.hid hr1; clear hr1
          have HQ2 := Lib.hid hr2; clear hr2
          go_wp2
          go_roundw
          case rel => exact ⟨_, _, HPS.out, HQ1.out, HQ2.out, HB1.out, by simp only [List.length_append, List.length_cons, List.length_nil]; omega⟩
          case measure => simp [lenOf]
      | false =>
        by_cases hgt : 1 < ol
        · have hd : decide ((1 : Int) < ol) = true := by simpa using hgt
          obtain ⟨hps, hgr⟩ := HSET.out 0 (.int .i64 (ol - 1)) ⟨ol - 1, false, ot⟩ rfl (by omega) (by simp only; omega)
          rw [Nat.add_zero] at hps hgr
          have HPS := Lib.hid hps
          have HBF := Lib.hid (HB.out.grown hgr hsz (by rintro k ⟨⟩; exact hgb))
          clear hps hgr
          go_wp2_with (at_builtin; refine wpList_append_own_at _ rfl _ _ 91 rfl base 5 i0 (.int .u8 0) 1 1 Tryz.underlying91 hi hz0 hz1 hz2 rfl (by decide) _ _ _ rfl (World.ownsRow.alloc HPS.out.b _) ⟨wr.heap.size, 0, none⟩ 1 1 (Lib.byteCells [44]) rfl rfl ?b1 (byteCells_oneCell _) ?b3 ?b4 ?b5 ?_)
          case b1 => exact new_list _ (Lib.byteCells [44]) _ _ (by first | rfl | simp)
          case b3 => unfold maxLen; omega
          case b4 => omega
          case b5 => first | omega | (simp; omega)
          intro bv1 w1 hown' hgrow _ hlies
          have hps1 : PS base w1 bv1 (.slice (some ⟨g, 0, none⟩) (r.length + 1) cap) (bs' ++ [44]) (⟨ol - 1, false, ot⟩ :: r) := (HPS.out.alloc _).put (OwnB.appended (u := [44]) hown' (by simp)) hgrow (by simpa using hlies)
          have hge := HPS.out.b.own_ge
          have hb1 : Below base w w1 := ((HBF.out.alloc (by simpa using hsz) _).grown hgrow (by simp; omega) hge)
          have hfin : PS base w1 bv1 (.slice (some ⟨g, 0, none⟩) (r.length + 1) cap) R1 R2 := by
            rw [← HS1.out, ← HS2.out]
            have e : closed (⟨ol, false, ot⟩ :: r) = ([44], ⟨ol - 1, false, ot⟩ :: r) := by rw [closed]; simp [hgt]
            rw [e]; exact hps1
          have HF := Lib.hid hfin
          have HB1 := Lib.hid hb1
          obtain ⟨⟨A3, ca3, rfl⟩, -⟩ := hps1.slices
          clear hps1 hb1 hown' hgrow hlies hge hfin
          go_wp2
          go_ret2
          exact ⟨_, _, rfl, HF.out, HB1.out⟩
        · have hd : decide ((1 : Int) < ol) = false := by simpa using hgt
          go_wp2_with (at_builtin; refine wpList_append_own_at _ rfl _ _ 91 rfl base 5 i0 (.int .u8 0) 1 1 Tryz.underlying91 hi hz0 hz1 hz2 rfl (by decide) _ _ _ rfl (World.ownsRow.alloc HPP.out.b _) ⟨wr.heap.size, 0, none⟩ 1 1 (Lib.byteCells [125]) rfl rfl ?d1 (byteCells_oneCell _) ?d3 ?d4 ?d5 ?_)
          case d1 => exact fun j u h => h
          case d3 => unfold maxLen; omega
          case d4 => omega
          case d5 => first | omega | (simp; omega)
          intro bv1 w1 hown' hgrow _ hlies
          have hps1 : PS base w1 bv1 (.slice (some ⟨g, 0, none⟩) (r.length + 1) cap) (bs' ++ [125]) (⟨ol, false, ot⟩ :: r) := (HPP.out.alloc _).put (OwnB.appended (u := [125]) hown' (by simp)) hgrow (by simpa using hlies)
          have hge := HPP.out.b.own_ge
          have hb1 : Below base w w1 := ((HB.out.alloc hsz _).grown hgrow (by simp; omega) hge)
          obtain ⟨g', cap', he, hgb', hglt', hncap', hcapm', -, -, -, -, -, hpop1⟩ := hps1.top
          obtain ⟨rfl, rfl⟩ : g' = g ∧ cap' = cap := by simp at he; exact ⟨he.1.symm, he.2.symm⟩
          have HPS := Lib.hid hpop1
          have HB1 := Lib.hid hb1
          clear hps1 hb1 hpop1 he hown' hgrow hlies hge hgb' hglt' hncap' hcapm'
          have e : closed (⟨ol, false, ot⟩ :: r) = (125 :: (closed r).1, (closed r).2) := by rw [closed]; simp [hgt]
          have hr1 : bs' ++ [125] ++ (closed r).1 = R1 := by
            rw [← HS1.out, e]; simp
          have hr2 : (closed r).2 = R2 := by
            rw [← HS2.out, e]
          have HQ1 := Lib.hid hr1; clear hr1
          have HQ2 := Lib.hid hr2; clear hr2 e
          go_wp2
          go_roundw
          case rel => exact ⟨_, _, HPS.out, HQ1.out, HQ2.out, HB1.out, by simp only [List.length_append, List.length_cons, List.length_nil]; omega⟩
          case measure => simp [lenOf]
end Go.Proofs.YtejpdfenejbjdaaGreatDoor
