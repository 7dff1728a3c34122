/- The printer's state in memory: the bytes written, and the stack of what is open. -/
import Derived.Test.YtebdikbngnolbaaDoorCells
import Derived.Test.YtebdikbngnolbaaDoorPModel
import Derived.WalkSmall
import Derived.Laws.OwnMore
import Derived.Maps.AppendAt
import Derived.Deep.AppendLies
namespace Go.Proofs.YtebdikbngnolbaaDoor
open Go.RowKit Txt
set_option linter.unusedVariables false
set_option linter.unusedSimpArgs false

theorem info_open : (Tryd.prog.info? 56).map (fun i => (i.zero, i.size, i.bytes)) = some (some (.agg #[.int .i64 0, .bool false, .bool false]), 3, 16) := by kernel_rfl
def ov (o : Opn) : List Value := [.int .i64 o.left, .bool o.list, .bool o.tail]
def ovs (st : List Opn) : List Value := st.flatMap ov
theorem ovs_append (t u : List Opn) : ovs (t ++ u) = ovs t ++ ovs u := by simp [ovs]
theorem ovs_one (o : Opn) : ovs [o] = ov o := by simp [ovs]
theorem ovs_length (t : List Opn) : (ovs t).length = t.length * 3 := by
  induction t with
  | nil => rfl
  | cons c t ih =>
    have : ovs (c :: t) = ov c ++ ovs t := rfl
    rw [this, List.length_append, ih]; simp [ov]; omega
theorem ov_oneCell (o : Opn) : ∀ u ∈ ov o, u.oneCell' = true := by
  intro u hu
  simp only [ov, List.mem_cons, List.not_mem_nil, or_false] at hu
  rcases hu with rfl | rfl | rfl <;> rfl
/-- The stack, its top last. -/
def OwnS (base : Nat) (w : World) (x : Value) (st : List Opn) : Prop := w.ownsRow base 56 3 x st.length (ovs st.reverse)

/-- Both rows, apart from each other. -/
structure PS (base : Nat) (w : World) (bv sv : Value) (bs : List UInt8) (st : List Opn) : Prop where
  b : OwnB base w bv bs
  s : OwnS base w sv st
  apart : bv.ownBlock = none ∨ bv.ownBlock ≠ sv.ownBlock
  small : ∀ o ∈ st, 0 ≤ o.left ∧ o.left ≤ 255
theorem PS.nil (base : Nat) (w : World) : PS base w (.slice none 0 0) (.slice none 0 0) [] [] := ⟨OwnB.nil _ _, World.ownsRow_nil w base _ 3, .inl rfl, fun o h => by cases h⟩
theorem PS.keep {base : Nat} {w w' : World} {bv sv : Value} {bs : List UInt8} {st : List Opn} (h : PS base w bv sv bs st) (hb : Below w.heap.size w w') : PS base w' bv sv bs st := by
  have hg : w.grownBy w' none := ⟨hb.os, hb.tape, hb.output, hb.size, fun k hk _ => hb.block k hk⟩
  refine ⟨h.b.below hb, ?_, h.apart, h.small⟩
  refine World.ownsRow.kept h.s hg ?_
  cases hs : sv.ownBlock with
  | none => exact .inl rfl
  | some g => exact .inr (by simp)
theorem PS.alloc {base : Nat} {w : World} {bv sv : Value} {bs : List UInt8} {st : List Opn} (h : PS base w bv sv bs st) (o : Obj) : PS base (w.alloc o) bv sv bs st := h.keep ((Below.refl _ _).alloc (Nat.le_refl _) _)
theorem PS.drewN {base : Nat} {w : World} {bv sv : Value} {bs : List UInt8} {st : List Opn} (h : PS base w bv sv bs st) (n : Nat) : PS base (w.drewN n) bv sv bs st := ⟨h.b, h.s, h.apart, h.small⟩
/-- Bytes were appended. -/
theorem PS.put {base : Nat} {w w' : World} {bv bv' sv : Value} {bs bs' : List UInt8} {st : List Opn} (h : PS base w bv sv bs st) (hb : OwnB base w' bv' bs') (hg : w.grownBy w' bv.ownBlock) (hl : bv'.ownBlock = bv.ownBlock ∨ bv'.ownBlock = some w.heap.size) : PS base w' bv' sv bs' st := by
  have hlt := World.ownsRow.lt h.s
  refine ⟨hb, World.ownsRow.kept h.s hg ?_, ?_, h.small⟩
  · cases hs : sv.ownBlock with
    | none => exact .inl rfl
    | some g =>
      right
      rcases h.apart with h1 | h1
      · rw [h1]; simp
      · rw [hs] at h1; exact fun e => h1 e.symm
  · rcases hl with hl | hl
    · rw [hl]; exact h.apart
    · right
      rw [hl]
      intro e
      have := (hlt _ e.symm).2
      omega
/-- The stack grew. -/
theorem PS.push {base : Nat} {w w' : World} {bv sv sv' : Value} {bs : List UInt8} {st : List Opn} {o : Opn} (h : PS base w bv sv bs st) (hs : OwnS base w' sv' (o :: st)) (ho : 0 ≤ o.left ∧ o.left ≤ 255) (hg : w.grownBy w' sv.ownBlock) (hl : sv'.ownBlock = sv.ownBlock ∨ sv'.ownBlock = some w.heap.size) : PS base w' bv sv' bs (o :: st) := by
  have hlt := World.ownsRow.lt h.b
  refine ⟨World.ownsRow.kept h.b hg ?_, hs, ?_, fun p hp => ?_⟩
  · exact h.apart
  · rcases hl with hl | hl
    · rw [hl]; exact h.apart
    · rcases h.apart with h1 | h1
      · exact .inl h1
      · right
        rw [hl]
        intro e
        have := (hlt _ e).2
        omega
  · rw [List.mem_cons] at hp
    rcases hp with rfl | hp
    · exact ho
    · exact h.small p hp
/-- The top of the stack, in memory. -/
theorem PS.top {base : Nat} {w : World} {bv sv : Value} {bs : List UInt8} {st : List Opn} {o : Opn} (h : PS base w bv sv bs (o :: st)) :
    ∃ g cap, sv = .slice (some ⟨g, 0, none⟩) (st.length + 1) cap ∧ base ≤ g ∧ g < w.heap.size ∧ st.length + 1 ≤ cap ∧ cap ≤ maxLen
      ∧ w.cell? ⟨g, st.length * 3, none⟩ = some (.int .i64 o.left) ∧ w.cell? ⟨g, st.length * 3 + 1, none⟩ = some (.bool o.list) ∧ w.cell? ⟨g, st.length * 3 + 2, none⟩ = some (.bool o.tail)
      ∧ (∀ j, w.frozen? ⟨g, j, none⟩ = false)
      ∧ (∀ (j : Nat) (u : Value) (o' : Opn), (ov o).set j u = ov o' → j < 3 → (0 ≤ o'.left ∧ o'.left ≤ 255) → PS base (w.setCell ⟨g, st.length * 3 + j, none⟩ u) bv sv bs (o' :: st) ∧ w.grownBy (w.setCell ⟨g, st.length * 3 + j, none⟩ u) (some g))
      ∧ PS base w bv (.slice (some ⟨g, 0, none⟩) st.length cap) bs st := by
  have hs : w.ownsRow base 56 3 sv (st.length + 1) (ovs st.reverse ++ ov o) := by
    have := h.s
    unfold OwnS at this
    rw [List.reverse_cons, ovs_append, ovs_one, List.length_cons] at this
    exact this
  have hap := h.apart
  have hbm := h.b
  have hsm := h.small
  have hl := ovs_length st.reverse
  rw [List.length_reverse] at hl
  obtain ⟨hlen, ⟨-, h0⟩ | ⟨g, cap, cur, rfl, hg, hh, hn, hm, hsz, ht⟩⟩ := id hs
  · omega
  have hcl := fun j (hj : j < 3) => World.ownsRow.cellAt hs (st.length * 3 + j) (by omega)
  have hat : ∀ j, j < 3 → (ovs st.reverse ++ ov o)[st.length * 3 + j]? = (ov o)[j]? := by
    intro j hj
    rw [List.getElem?_append_right (by omega), hl]
    congr 1; omega
  have hlt : g < w.heap.size := by
    rcases Nat.lt_or_ge g w.heap.size with h' | h'
    · exact h'
    · rw [Array.getElem?_eq_none h'] at hh; cases hh
  refine ⟨g, cap, rfl, hg, hlt, hn, hm, ?_, ?_, ?_, World.ownsRow.frozenAt hs, ?_, ?_⟩
  · have := hcl 0 (by omega); rw [hat 0 (by omega)] at this; exact this
  · rw [hcl 1 (by omega), hat 1 (by omega)]; rfl
  · rw [hcl 2 (by omega), hat 2 (by omega)]; rfl
  · intro j u o' he hj ho
    obtain ⟨h1, h2⟩ := World.ownsRow.stored hs (st.length * 3 + j) u
    refine ⟨⟨World.ownsRow.kept hbm h2 hap, ?_, hap, fun p hp => ?_⟩, h2⟩
    · unfold OwnS
      rw [List.reverse_cons, ovs_append, ovs_one, List.length_cons, ← he]
      rw [List.set_append_right _ _ (by omega), hl, show st.length * 3 + j - st.length * 3 = j by omega] at h1
      exact h1
    · rw [List.mem_cons] at hp
      rcases hp with rfl | hp
      · exact ho
      · exact hsm p (by simp [hp])
  · exact ⟨hbm, ownsRow_pop (by rw [hl]) hs, hap, fun p hp => hsm p (by simp [hp])⟩
end Go.Proofs.YtebdikbngnolbaaDoor
