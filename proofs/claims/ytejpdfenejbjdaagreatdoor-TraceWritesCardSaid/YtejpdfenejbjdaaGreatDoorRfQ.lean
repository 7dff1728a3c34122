/- Walks: the reference: a copy of cells with a mark behind it; is it as it was? -/
import Derived.Test.YtejpdfenejbjdaaGreatDoorRfO
import Derived.Test.YtejpdfenejbjdaaGreatDoorTrE
import Derived.Deep.RegionHeld3
import Derived.Test.YtejpdfenejbjdaaGreatDoorTrK
import Derived.Test.YtejpdfenejbjdaaGreatDoorTrO
import Derived.Test.YtejpdfenejbjdaaGreatDoorTrF
import Derived.Test.YtejpdfenejbjdaaGreatDoorTrD
namespace Go.Proofs.YtejpdfenejbjdaaGreatDoor
open Go.RowKit Txt
set_option linter.unusedVariables false
set_option linter.unusedSimpArgs false

def mark : ByteArray := ⟨#[98, 101, 104, 105, 110, 100, 32, 119, 104, 97, 116, 32, 119, 97, 115, 32, 104, 97, 110, 100, 101, 100, 32, 105, 110]⟩
/-- A lent copy. -/
structure LentT (w : World) (v : Value) (t : List Cl) (g cap : Nat) : Prop where
  form : v = .slice (some ⟨g, 0, none⟩) t.length cap
  cap : t.length + 1 ≤ cap
  ty : ∃ hh cc, w.heap[g]? = some (.cells hh 74 cc)
  cells : ∀ j u, (cvs t)[j]? = some u → w.cell? ⟨g, j, none⟩ = some u
  mrk : w.cell? ⟨g, t.length * 3 + 2, none⟩ = some (.string mark)
theorem LentT.lt {w : World} {v : Value} {t : List Cl} {g cap : Nat} (h : LentT w v t g cap) : g < w.heap.size := by
  obtain ⟨hh, cc, e⟩ := h.ty
  exact (Array.getElem?_eq_some_iff.1 e).1
theorem LentT.keep {w w' : World} {v : Value} {t : List Cl} {g cap : Nat} (h : LentT w v t g cap) (hk : w'.heap[g]? = w.heap[g]?) : LentT w' v t g cap := by
  obtain ⟨hh, cc, e⟩ := h.ty
  exact ⟨h.form, h.cap, ⟨hh, cc, hk.trans e⟩, fun j u hj => (World.cell?_of_block (w := w) hk).trans (h.cells j u hj), (World.cell?_of_block (w := w) hk).trans h.mrk⟩
theorem LentT.below {w w' : World} {v : Value} {t : List Cl} {g cap : Nat} (h : LentT w v t g cap) (hb : Below w.heap.size w w') : LentT w' v t g cap := h.keep (hb.block g h.lt)
theorem LentT.sees {w : World} {v : Value} {t : List Cl} {g cap : Nat} (h : LentT w v t g cap) : SeesT w v t := by
  refine ⟨_, _, h.form, by have := h.cap; omega, fun _ => ⟨_, rfl, fun j u hj => ?_⟩⟩
  have := h.cells j u hj
  unfold Addr.add
  split
  · subst_vars; exact this
  · simpa using this
theorem lent_of {base : Nat} {w : World} {v : Value} {t : List Cl} (h : OwnT base w v (t ++ [⟨0, 0, mark⟩])) : ∃ g cap, v = .slice (some ⟨g, 0, none⟩) (t.length + 1) cap ∧ base ≤ g ∧ LentT w (.slice (some ⟨g, 0, none⟩) t.length cap) t g cap := by
  have h' : w.ownsRow base 74 3 v (t ++ [(⟨0, 0, mark⟩ : Cl)]).length (cvs (t ++ [(⟨0, 0, mark⟩ : Cl)])) := h
  obtain ⟨-, ⟨rfl, h0⟩ | ⟨g, cap, cur, rfl, hb, hg, hc, -⟩⟩ := id h'
  · simp at h0
  · have hl : (t ++ [(⟨0, 0, mark⟩ : Cl)]).length = t.length + 1 := by simp
    rw [hl] at hc
    refine ⟨g, cap, by rw [hl], hb, rfl, hc, ⟨_, _, hg⟩, fun j u hj => ?_, ?_⟩
    · have hjl := (List.getElem?_eq_some_iff.1 hj).1
      rw [cvs_length] at hjl
      rw [World.ownsRow.cellAt h' j (by rw [hl]; omega), cvs_append, List.getElem?_append_left (by rw [cvs_length]; omega)]
      exact hj
    · rw [World.ownsRow.cellAt h' (t.length * 3 + 2) (by rw [hl]; omega), cvs_append, List.getElem?_append_right (by rw [cvs_length]; omega), cvs_length]
      simp [cvs, cv]
set_option maxHeartbeats 2000000 in
set_option maxRecDepth 100000 in
theorem rlent_calls (x : Value) (t : List Cl) (w : World) (hx : SeesT w x t) (hl : t.length * 32 ≤ 140737488351232) :
    Calls Tryz.prog 40 #[x] w fun e w' => ∃ g cap, e = .returned (.slice (some ⟨g, 0, none⟩) t.length cap) ∧ w.heap.size ≤ g ∧ LentT w' (.slice (some ⟨g, 0, none⟩) t.length cap) t g cap ∧ Below w.heap.size w w' := by
  obtain ⟨i0, hi, hz0, hz1, hz2⟩ := info_parts info_cell
  have hstep : ∀ (v : Value) (W : World), OwnT w.heap.size W v t → Below w.heap.size w W → ∃ A n c, v = .slice A n c ∧ Hid (OwnT w.heap.size W (.slice A n c) t) ∧ Hid (Below w.heap.size w W) := by
    intro v W ho hb
    obtain ⟨A, n, c, rfl⟩ := own_sliceL ho
    exact ⟨A, n, c, rfl, Lib.hid ho, Lib.hid hb⟩
  have HX := Lib.hid hx
  obtain ⟨A, cap, rfl, hcap, hA⟩ := hx
  have hlz : t.length + 1 ≤ 4398046511104 := by omega
  rcases A with _ | ad
  · have hte : t = [] := by
      refine Decidable.byContradiction fun h => ?_
      obtain ⟨ad, e, -⟩ := hA h
      cases e
    subst hte
    clear hA
    have HS := Lib.hid hstep; clear hstep
    have s0 : (0 : Int) ≤ (cap : Int) := by omega
    have ho0 : OwnT w.heap.size w (.slice none 0 0) [] := OwnT.nil _ _
    have HO0 := Lib.hid ho0; clear ho0
    go_enter Tryz.func40, Tryz.ntmps40
    go_wp2_with (at_builtin; refine wpList_append_own _ rfl _ _ 22 rfl w.heap.size 74 i0 (.agg #[.int .i64 0, .int .i64 0, .string .empty]) 3 32 Tryz.underlying22 hi hz0 hz1 hz2 rfl (by decide) _ _ _ rfl (World.ownsRow.alloc HO0.out _) ⟨w.heap.size, 0, none⟩ 1 1 (cvs [⟨0, 0, mark⟩]) rfl rfl ?b1 (cvs_oneCell _) ?b3 ?b4 ?b5 ?_)
    case b1 => exact new_list w (cvs [⟨0, 0, mark⟩]) _ _ rfl
    case b3 => unfold maxLen; simp
    case b4 => simp
    case b5 => simp
    intro v2 w2 hown hgrow _
    have hb2 : Below w.heap.size w w2 := ((Below.refl w.heap.size w).alloc (Nat.le_refl _) _).trans (below_grown hgrow (fun g hg => by simp [Value.ownBlock] at hg) (by simp))
    obtain ⟨g, c2, rfl, hgl, hlt⟩ := lent_of (t := []) (OwnT.appended hown (by simp))
    have HB2 := Lib.hid hb2
    have HL := Lib.hid hlt
    have hc2 := hlt.cap
    have s1 : (0 : Int) ≤ (c2 : Int) := by omega
    clear hown hgrow hb2 hlt
    go_wp2
    go_ret
    exact ⟨g, c2, rfl, hgl, HL.out, HB2.out⟩
  · have hcells : ∀ j u, (cvs t)[j]? = some u → w.cell? (ad.add j) = some u := by
      intro j u hj
      have hne : t ≠ [] := by rintro rfl; simp [cvs] at hj
      obtain ⟨ad', e, h⟩ := hA hne
      obtain rfl := Option.some.inj e
      exact h j u hj
    have HC := Lib.hid hcells; clear hcells hA
    have HS := Lib.hid hstep; clear hstep
    go_enter Tryz.func40, Tryz.ntmps40
    go_wp2_with (at_builtin; refine wpList_append_own _ rfl _ _ 22 rfl w.heap.size 74 i0 (.agg #[.int .i64 0, .int .i64 0, .string .empty]) 3 32 Tryz.underlying22 hi hz0 hz1 hz2 rfl (by decide) _ _ _ rfl (OwnT.nil _ _) ad t.length cap (cvs t) rfl (cvs_length t) HC.out (cvs_oneCell t) ?a1 ?a2 ?a3 ?_)
    case a1 => unfold maxLen; simp; omega
    case a2 => simp; omega
    case a3 => exact Nat.le_refl _
    intro v1 w1 hown hgrow _
    have ho1 : OwnT w.heap.size w1 v1 t := by
      have := OwnT.appended (t := []) hown (by simp)
      simpa using this
    obtain ⟨A1, n1, c1, rfl, HO1, HB1⟩ := HS.out v1 w1 ho1 (below_grown hgrow (fun g hg => by simp [Value.ownBlock] at hg) (Nat.le_refl _))
    clear hown hgrow ho1
    have hge1 := Lib.hid HO1.out.own_ge
    go_wp2_with (at_builtin; refine wpList_append_own _ rfl _ _ 22 rfl w.heap.size 74 i0 (.agg #[.int .i64 0, .int .i64 0, .string .empty]) 3 32 Tryz.underlying22 hi hz0 hz1 hz2 rfl (by decide) _ _ _ rfl (World.ownsRow.alloc HO1.out _) ⟨w1.heap.size, 0, none⟩ 1 1 (cvs [⟨0, 0, mark⟩]) rfl rfl ?b1 (cvs_oneCell _) ?b3 ?b4 ?b5 ?_)
    case b1 => exact new_list w1 (cvs [⟨0, 0, mark⟩]) _ _ rfl
    case b3 => unfold maxLen; omega
    case b4 => omega
    case b5 => have := HB1.out.size; simp; omega
    intro v2 w2 hown hgrow _
    have hsz1 := HB1.out.size
    have hb2 : Below w.heap.size w w2 := (HB1.out.alloc hsz1 _).trans (below_grown hgrow hge1.out (by simp; omega))
    obtain ⟨g, c2, rfl, hgl, hlt⟩ := lent_of (OwnT.appended hown (by simp))
    have HB2 := Lib.hid hb2
    have HL := Lib.hid hlt
    have hc2 := hlt.cap
    have s1 : (t.length : Int) ≤ (c2 : Int) := by omega
    clear hown hgrow hb2 hlt hge1 hsz1
    go_wp2
    go_ret
    exact ⟨g, c2, rfl, hgl, HL.out, HB2.out⟩
end Go.Proofs.YtejpdfenejbjdaaGreatDoor

namespace Go.Proofs.YtejpdfenejbjdaaGreatDoor
open Go.RowKit Txt
set_option linter.unusedVariables false
set_option linter.unusedSimpArgs false

theorem sameL_self (t : List Cl) : sameL t t = true := by
  induction t with
  | nil => rfl
  | cons c t ih => simp [sameL, sameC, ih]
theorem evSame_self (e : Ev) : evSame e e = true := by unfold evSame; simp [sameL_self]
set_option maxHeartbeats 2000000 in
set_option maxRecDepth 100000 in
theorem rkept_calls (x y : Value) (t : List Cl) (g cap : Nat) (w : World) (hx : LentT w x t g cap) (hy : SeesT w y t) (hl : t.length ≤ 4398046511104) :
    Calls Tryz.prog 53 #[x, y] w fun e w' => e = .returned (.bool true) ∧ ∃ n, w' = w.drewN n := by
  have hc := same42_calls x y t t w hx.sees hy hl
  rw [sameL_self] at hc
  have HC := Lib.hid hc; clear hc
  have HX := Lib.hid hx
  have hf := hx.form
  have hcap := hx.cap
  subst hf
  obtain ⟨A, c, rfl, -, -⟩ := hy
  have s1 : (t.length : Int) + 1 ≤ (cap : Int) := by omega
  clear hx
  go_enter Tryz.func53, Tryz.ntmps53
  go_wp2_with fail
  refine HC.out.mono ?_
  rintro e w1 ⟨rfl, n, rfl⟩
  have hm : (w.drewN n).cell? ⟨g, t.length * 3 + 2, none⟩ = some (.string mark) := HX.out.mrk
  unfold mark at hm
  go_wp2
  go_ret
  exact ⟨rfl, n, rfl⟩
end Go.Proofs.YtejpdfenejbjdaaGreatDoor

namespace Go.Proofs.YtejpdfenejbjdaaGreatDoor
open Go.RowKit Txt
set_option linter.unusedVariables false
set_option linter.unusedSimpArgs false

/-- Their terms are lent. -/
def LentAll (w : World) (base : Nat) (qs : List (Ev × Value)) : Prop := ∀ q ∈ qs, ∃ g cap, LentT w q.2 q.1.term g cap ∧ base ≤ g
theorem LentAll.below {w w' : World} {base : Nat} {qs : List (Ev × Value)} (h : LentAll w base qs) (hb : Below w.heap.size w w') : LentAll w' base qs := fun q hq => by
  obtain ⟨g, cap, h1, h2⟩ := h q hq
  exact ⟨g, cap, h1.below hb, h2⟩
theorem LentAll.grown {w w' : World} {base b n : Nat} {v : Value} {xs : List Value} {qs : List (Ev × Value)} (h : LentAll w base qs) (ho : w.ownsRow b 24 5 v n xs) (hg : w.grownBy w' v.ownBlock) : LentAll w' base qs := fun q hq => by
  obtain ⟨g, cap, h1, h2⟩ := h q hq
  refine ⟨g, cap, h1.keep (hg.block g h1.lt fun e => ?_), h2⟩
  obtain ⟨hh, cc, ht⟩ := h1.ty
  obtain ⟨-, ⟨rfl, -⟩ | ⟨g', cap', cur, rfl, -, hg', -⟩⟩ := ho
  · simp [Value.ownBlock] at e
  · simp only [Value.ownBlock] at e
    obtain rfl : g = g' := Option.some.inj e
    rw [hg'] at ht
    simp at ht
theorem LentAll.more {w : World} {base g cap : Nat} {qs : List (Ev × Value)} {e : Ev} {u : Value} (h : LentAll w base qs) (hu : LentT w u e.term g cap) (hb : base ≤ g) : LentAll w base (qs ++ [(e, u)]) := fun q hq => by
  rcases List.mem_append.1 hq with h' | h'
  · exact h q h'
  · simp only [List.mem_singleton] at h'
    subst h'; exact ⟨g, cap, hu, hb⟩
/-- A lent copy of events. -/
structure LentE (w : World) (v : Value) (qs : List (Ev × Value)) (g cap : Nat) : Prop where
  form : v = .slice (some ⟨g, 0, none⟩) qs.length cap
  cap : qs.length + 1 ≤ cap
  ty : ∃ hh cc, w.heap[g]? = some (.cells hh 24 cc)
  cells : ∀ j u, (ecs qs)[j]? = some u → w.cell? ⟨g, j, none⟩ = some u
  mrk : w.cell? ⟨g, qs.length * 5, none⟩ = some (.int .i64 4321)
theorem LentE.lt {w : World} {v : Value} {t : List (Ev × Value)} {g cap : Nat} (h : LentE w v t g cap) : g < w.heap.size := by
  obtain ⟨hh, cc, e⟩ := h.ty
  exact (Array.getElem?_eq_some_iff.1 e).1
theorem LentE.below {w w' : World} {v : Value} {t : List (Ev × Value)} {g cap : Nat} (h : LentE w v t g cap) (hb : Below w.heap.size w w') : LentE w' v t g cap := by
  have hk := hb.block g h.lt
  obtain ⟨hh, cc, e⟩ := h.ty
  exact ⟨h.form, h.cap, ⟨hh, cc, hk.trans e⟩, fun j u hj => (World.cell?_of_block (w := w) hk).trans (h.cells j u hj), (World.cell?_of_block (w := w) hk).trans h.mrk⟩
theorem LentE.sees {w : World} {v : Value} {t : List (Ev × Value)} {g cap : Nat} (h : LentE w v t g cap) : SeesE w v t := by
  refine ⟨_, _, h.form, by have := h.cap; omega, fun _ => ⟨_, rfl, fun j u hj => ?_⟩⟩
  have := h.cells j u hj
  unfold Addr.add
  split
  · subst_vars; exact this
  · simpa using this
theorem lentE_of {base : Nat} {w : World} {v : Value} {t : List (Ev × Value)} (h : w.ownsRow base 24 5 v (t.length + 1) (ecs t ++ ec ⟨4321, 0, 0, 0, []⟩ (.slice none 0 0))) :
    ∃ g cap, v = .slice (some ⟨g, 0, none⟩) (t.length + 1) cap ∧ base ≤ g ∧ LentE w (.slice (some ⟨g, 0, none⟩) t.length cap) t g cap := by
  obtain ⟨-, ⟨rfl, h0⟩ | ⟨g, cap, cur, rfl, hb, hg, hc, -⟩⟩ := id h
  · simp at h0
  · refine ⟨g, cap, rfl, hb, rfl, hc, ⟨_, _, hg⟩, fun j u hj => ?_, ?_⟩
    · have hjl := (List.getElem?_eq_some_iff.1 hj).1
      rw [ecs_length] at hjl
      rw [World.ownsRow.cellAt h j (by omega), List.getElem?_append_left (by rw [ecs_length]; omega)]
      exact hj
    · rw [World.ownsRow.cellAt h (t.length * 5) (by omega), List.getElem?_append_right (by rw [ecs_length]; omega), ecs_length]
      simp [ec]
end Go.Proofs.YtejpdfenejbjdaaGreatDoor

namespace Go.Proofs.YtejpdfenejbjdaaGreatDoor
open Go.RowKit Txt
set_option linter.unusedVariables false
set_option linter.unusedSimpArgs false

/-- What holds at a round of 'lent'. -/
structure LR (w : World) (ps qs : List (Ev × Value)) (v : Value) (wr : World) : Prop where
  fst : qs.map (·.1) = (ps.take qs.length).map (·.1)
  own : wr.ownsRow w.heap.size 24 5 v qs.length (ecs qs)
  all : LentAll wr w.heap.size qs
  be : Below w.heap.size w wr
/-- Behind the copy of one term, which is put into the event's variable. -/
theorem LR.put {w wr w1 : World} {ps qs : List (Ev × Value)} {v u' : Value} {e : Ev} {x : Value} {g1 c1 : Nat} (h : LR w ps qs v wr)
    (hb : Below (wr.alloc (.cells #[.int .i64 e.kind, .int .i64 e.tick, .int .i64 e.pid, .int .i64 e.by_, x] 24)).heap.size (wr.alloc (.cells #[.int .i64 e.kind, .int .i64 e.tick, .int .i64 e.pid, .int .i64 e.by_, x] 24)) w1)
    (hg : (wr.alloc (.cells #[.int .i64 e.kind, .int .i64 e.tick, .int .i64 e.pid, .int .i64 e.by_, x] 24)).heap.size ≤ g1) (hl : LentT w1 u' e.term g1 c1) :
    LR w ps qs v (w1.setCell ⟨wr.heap.size, 4, none⟩ u') ∧ LentT (w1.setCell ⟨wr.heap.size, 4, none⟩ u') u' e.term g1 c1 ∧ w.heap.size ≤ g1 ∧ w1.frozen? ⟨wr.heap.size, 4, none⟩ = false ∧ EvAt w1 wr.heap.size e x := by
  have hsz : (wr.alloc (.cells #[.int .i64 e.kind, .int .i64 e.tick, .int .i64 e.pid, .int .i64 e.by_, x] 24)).heap.size = wr.heap.size + 1 := by simp
  have hw := h.be.size
  have hs1 := hb.size
  rw [hsz] at hs1 hg
  have hbox : w1.heap[wr.heap.size]? = some (.cells #[.int .i64 e.kind, .int .i64 e.tick, .int .i64 e.pid, .int .i64 e.by_, x] 24) := by
    rw [hb.block _ (by omega)]; exact Array.getElem?_push_size
  have hk : ∀ g, g ≠ wr.heap.size → (w1.setCell ⟨wr.heap.size, 4, none⟩ u').heap[g]? = w1.heap[g]? := fun g hg => Below.heap_setCell _ _ _ _ hg
  have hkr : ∀ g, g < wr.heap.size → (w1.setCell ⟨wr.heap.size, 4, none⟩ u').heap[g]? = wr.heap[g]? := fun g hg =>
    (hk g (by omega)).trans ((hb.block g (by omega)).trans (Below.heap_alloc _ _ _ hg))
  refine ⟨⟨h.fst, own_keepE h.own fun g _ _ hlt => hkr g hlt, fun q hq => ?_, ?_⟩, hl.keep (hk g1 (by omega)), by omega, ?_, ⟨by omega, ?_, ?_, ?_, ?_, ?_⟩⟩
  · obtain ⟨g, c, h1, h2⟩ := h.all q hq
    exact ⟨g, c, h1.keep (hkr g h1.lt), h2⟩
  · exact (h.be.trans (((Below.refl _ _).alloc (Nat.le_refl _) _).mono hw)).trans (hb.mono (by omega)) |>.setCell (p := ⟨wr.heap.size, 4, none⟩) (by simpa using hw) _
  · simp only [World.frozen?, hbox]; rfl
  all_goals (simp only [World.cell?, hbox]; rfl)
/-- Behind the append. -/
theorem LR.push {w W w3 : World} {ps qs : List (Ev × Value)} {v v3 u' : Value} {e : Ev} {g1 c1 : Nat} {o : Obj} (h : LR w ps qs v W) (hl : LentT W u' e.term g1 c1) (hg1 : w.heap.size ≤ g1) (hlt : qs.length < ps.length) (he : e = ps[qs.length].1)
    (hown : w3.ownsRow w.heap.size 24 5 v3 (qs.length + 1) (ecs qs ++ ec e u')) (hgrow : (W.alloc o).grownBy w3 v.ownBlock) : LR w ps (qs ++ [(e, u')]) v3 w3 := by
  have ha : W.heap.size ≤ W.heap.size := Nat.le_refl _
  have hal := (Below.refl W.heap.size W).alloc ha o
  refine ⟨?_, ?_, ?_, ?_⟩
  · have e1 : ps.take (qs.length + 1) = ps.take qs.length ++ [ps[qs.length]] := by rw [List.take_succ_eq_append_getElem hlt]
    rw [List.map_append, h.fst, List.length_append, List.length_singleton, e1, List.map_append]
    simp only [List.map_cons, List.map_nil, he]
  · have e1 : ecs (qs ++ [(e, u')]) = ecs qs ++ ec e u' := by rw [ecs_append]; simp [ecs]
    rw [e1, List.length_append, List.length_singleton]; exact hown
  · exact ((h.all.more hl hg1).below hal).grown (World.ownsRow.alloc h.own o) hgrow
  · exact (h.be.trans (hal.mono h.be.size)).trans (below_grown hgrow (fun g hg => (World.ownsRow.lt h.own g hg).1) (by have := h.be.size; simp; omega))
set_option maxHeartbeats 4000000 in
set_option maxRecDepth 100000 in
theorem elent_calls (x : Value) (ps : List (Ev × Value)) (w : World) (hx : SeesE w x ps) (hs : ∀ p ∈ ps, SeesT w p.2 p.1.term) (hl : ∀ p ∈ ps, p.1.term.length * 32 ≤ 140737488351232) (hn : (ps.length + 1) * 56 ≤ 140737488355328) :
    Calls Tryz.prog 9 #[x] w fun e w' => ∃ g cap qs, e = .returned (.slice (some ⟨g, 0, none⟩) ps.length cap) ∧ w.heap.size ≤ g ∧ qs.length = ps.length ∧ LentE w' (.slice (some ⟨g, 0, none⟩) ps.length cap) qs g cap ∧ LentAll w' w.heap.size qs ∧ qs.map (·.1) = ps.map (·.1) ∧ Below w.heap.size w w' := by
  obtain ⟨i0, hi, hz0, hz1, hz2⟩ := info_parts info_ev
  have HX := Lib.hid hx
  have HS := Lib.hid hs; clear hs
  have HL := Lib.hid hl; clear hl
  obtain ⟨A, cap, rfl, hcap, -⟩ := hx
  have hr0 : LR w ps [] (.slice none 0 0) w := ⟨rfl, World.ownsRow_nil w _ _ 5, fun q hq => by simp at hq, Below.refl _ _⟩
  have HR0 := Lib.hid hr0; clear hr0
  have s0 : (ps.length : Int) ≤ (cap : Int) := by omega
  go_enter Tryz.func9, Tryz.ntmps9
  go_wp2_with fail
  go_loopw [3, 8] (fun v i wr => ∃ qs : List (Ev × Value), i = .int .i64 (qs.length : Int) ∧ qs.length ≤ ps.length ∧ Hid (LR w ps qs v wr)) (fun _ i _ => ps.length - (intOf i).toNat)
  case atStart => exact ⟨[], rfl, Nat.zero_le _, HR0⟩
  case round =>
    obtain ⟨qs, rfl, hqn, HR⟩ := hrel
    clear HR0
    obtain ⟨k, hk⟩ : ∃ k, qs.length = k := ⟨_, rfl⟩
    have HK := Lib.hid hk
    rw [hk] at hqn ⊢
    clear hk
    obtain ⟨A0, n0, cc0, rfl⟩ := own_sliceL HR.out.own
    by_cases hlt : k < ps.length
    · have t0 : decide ((k : Int) < (ps.length : Int)) = true := decide_eq_true (by omega)
      have t0' : decide (k < ps.length) = true := decide_eq_true hlt
      have hki : (k : Int) < (ps.length : Int) := by omega
      obtain ⟨ad, cap', he, hcap', hblk, c0, c1, c2, c3, c4⟩ := (HX.out.below HR.out.be).at k hlt
      simp only [Value.slice.injEq] at he
      obtain ⟨rfl, -, rfl⟩ := he
      have hmem : ps[k] ∈ ps := List.getElem_mem hlt
      have hst := HS.out _ hmem
      have hlt2 := HL.out _ hmem
      have hpk : ps[k].1 = ps[k].1 := rfl
      generalize hpp : ps[k] = p at *
      have HPP := Lib.hid hpp; clear hpp hmem hpk
      obtain ⟨⟨ek, tick, pid, bb, t⟩, u⟩ := p
      dsimp only at *
      have HST := Lib.hid hst
      obtain ⟨UA, uc, rfl, -, -⟩ := hst
      have hal : Below wr.heap.size wr (wr.alloc (.cells #[.int .i64 ek, .int .i64 tick, .int .i64 pid, .int .i64 bb, .slice UA t.length uc] 24)) := (Below.refl _ _).alloc (Nat.le_refl _) _
      have hlc := rlent_calls (.slice UA t.length uc) t _ (((HST.out).below HR.out.be).below hal) hlt2
      have HLC := Lib.hid hlc; clear hlc hal hlt2
      go_wp2_with fail
      refine HLC.out.mono ?_
      rintro e1 w1 ⟨g1, k1, rfl, hg1, hlt1, hb1⟩
      have hput := HR.out.put (e := ⟨ek, tick, pid, bb, t⟩) hb1 hg1 hlt1
      obtain ⟨hr2, hl2, hg2, hfz, hev⟩ := hput
      have HR2 := Lib.hid hr2
      have HL2 := Lib.hid hl2
      obtain ⟨-, d0, d1, d2, d3, d4⟩ := hev
      dsimp only at d0 d1 d2 d3 d4
      clear hr2 hl2 hb1 hlt1 HLC c0 c1 c2 c3 c4
      go_wp2_with (at_builtin; refine wpList_append_own _ rfl _ _ 25 rfl w.heap.size 24 i0 (.agg #[.int .i64 0, .int .i64 0, .int .i64 0, .int .i64 0, .slice none 0 0]) 5 56 Tryz.underlying25 hi hz0 hz1 hz2 rfl (by decide) _ _ _ rfl (World.ownsRow.alloc HR2.out.own _) ⟨_, 0, none⟩ 1 1 (ec ⟨ek, tick, pid, bb, t⟩ (.slice (some ⟨g1, 0, none⟩) t.length k1)) rfl rfl ?b1 (ec_oneCell _ _ _ _) ?b3 ?b4 ?b5 ?_)
      case b1 => exact new_list _ (ec ⟨ek, tick, pid, bb, t⟩ (.slice (some ⟨g1, 0, none⟩) t.length k1)) _ _ (by first | rfl | simp)
      case b3 => have := HK.out; unfold maxLen; omega
      case b4 => have := HK.out; omega
      case b5 => have := HR2.out.be.size; simp at this ⊢ <;> omega
      intro v3 w3 hown hgrow _
      have hr3 := HR2.out.push HL2.out hg2 (by rw [HK.out]; exact hlt) (by simp only [HK.out, HPP.out]) hown hgrow
      have HR3 := Lib.hid hr3; clear hr3
      obtain ⟨A3, n3, cc3, rfl⟩ := own_sliceL hown
      clear hown hgrow
      go_wp2_with fail
      go_roundw
      case rel => exact ⟨_, by simp [HK.out], by simp [HK.out]; omega, HR3⟩
      case measure => simp [intOf]; omega
    · have t0 : decide ((k : Int) < (ps.length : Int)) = false := decide_eq_false (by omega)
      have t0' : decide (k < ps.length) = false := decide_eq_false hlt
      have hke : qs.length = ps.length := by have := HK.out; omega
      have HKE := Lib.hid hke; clear hke
      go_wp2_with (at_builtin; refine wpList_append_own _ rfl _ _ 25 rfl w.heap.size 24 i0 (.agg #[.int .i64 0, .int .i64 0, .int .i64 0, .int .i64 0, .slice none 0 0]) 5 56 Tryz.underlying25 hi hz0 hz1 hz2 rfl (by decide) _ _ _ rfl (World.ownsRow.alloc HR.out.own _) ⟨_, 0, none⟩ 1 1 (ec ⟨4321, 0, 0, 0, []⟩ (.slice none 0 0)) rfl rfl ?b1 (ec_oneCell _ _ _ _) ?b3 ?b4 ?b5 ?_)
      case b1 => exact new_list _ (ec ⟨4321, 0, 0, 0, []⟩ (.slice none 0 0)) _ _ (by first | rfl | simp)
      case b3 => have := HK.out; unfold maxLen; omega
      case b4 => have := HK.out; omega
      case b5 => have := HR.out.be.size; simp at this ⊢ <;> omega
      intro v3 w3 hown hgrow _
      have hal : Below wr.heap.size wr (wr.alloc (.cells #[.int .i64 4321, .int .i64 0, .int .i64 0, .int .i64 0, .slice none 0 0] 24)) := (Below.refl _ _).alloc (Nat.le_refl _) _
      have hall := (HR.out.all.below hal).grown (World.ownsRow.alloc HR.out.own _) hgrow
      have hbe := (HR.out.be.trans (hal.mono HR.out.be.size)).trans (below_grown hgrow (fun g hg => (World.ownsRow.lt HR.out.own g hg).1) (by have := HR.out.be.size; simp; omega))
      obtain ⟨g, c3, rfl, hgl, hle⟩ := lentE_of hown
      have HALL := Lib.hid hall
      have HBE := Lib.hid hbe
      have hcc := hle.cap
      rw [HKE.out] at hle hcc ⊢
      have HLE := Lib.hid hle
      have s1 : (ps.length : Int) ≤ (c3 : Int) := by omega
      clear hown hgrow hall hbe hle hal
      go_wp2
      go_ret
      exact ⟨g, c3, qs, rfl, hgl, HKE.out, HLE.out, HALL.out, by have := HR.out.fst; rw [HKE.out, List.take_length] at this; exact this, HBE.out⟩
end Go.Proofs.YtejpdfenejbjdaaGreatDoor

namespace Go.Proofs.YtejpdfenejbjdaaGreatDoor
open Go.RowKit Txt
set_option linter.unusedVariables false
set_option linter.unusedSimpArgs false

/-- An event's five cells. -/
def At5 (w : World) (a : Addr) (e : Ev) (x : Value) : Prop :=
  w.cell? a = some (.int .i64 e.kind) ∧ w.cell? ⟨a.block, a.off + 1, none⟩ = some (.int .i64 e.tick) ∧ w.cell? ⟨a.block, a.off + 2, none⟩ = some (.int .i64 e.pid) ∧ w.cell? ⟨a.block, a.off + 3, none⟩ = some (.int .i64 e.by_) ∧ w.cell? ⟨a.block, a.off + 4, none⟩ = some x
theorem SeesE.at5 {w : World} {x : Value} {t : List (Ev × Value)} (h : SeesE w x t) (i : Nat) (hi : i < t.length) : ∃ ad cap, x = .slice (some ad) t.length cap ∧ t.length ≤ cap ∧ At5 w (ad.add (i * 5)) t[i].1 t[i].2 := by
  obtain ⟨ad, cap, h1, h2, -, c0, c1, c2, c3, c4⟩ := h.at i hi
  exact ⟨ad, cap, h1, h2, c0, c1, c2, c3, c4⟩
theorem At5.below {w w' : World} {a : Addr} {e : Ev} {x : Value} (h : At5 w a e x) (hb : Below w.heap.size w w') : At5 w' a e x := by
  obtain ⟨c0, c1, c2, c3, c4⟩ := h
  have hl := cell_lt c0
  exact ⟨(hb.cell (p := a) hl).trans c0, (hb.cell (p := ⟨a.block, a.off + 1, none⟩) hl).trans c1, (hb.cell (p := ⟨a.block, a.off + 2, none⟩) hl).trans c2, (hb.cell (p := ⟨a.block, a.off + 3, none⟩) hl).trans c3, (hb.cell (p := ⟨a.block, a.off + 4, none⟩) hl).trans c4⟩
theorem below_dN {B : Nat} {a w : World} (h : Below B a w) (n : Nat) : Below B a (w.drewN n) := ⟨h.os, h.tape, h.output, h.size, h.block⟩
theorem fst_at {ps qs : List (Ev × Value)} (h : ps.map (·.1) = qs.map (·.1)) (k : Nat) (hk : k < ps.length) (hk' : k < qs.length) : qs[k].1 = ps[k].1 := by
  have h1 : (ps.map (·.1))[k]? = (qs.map (·.1))[k]? := by rw [h]
  simp only [List.getElem?_map, List.getElem?_eq_getElem hk, List.getElem?_eq_getElem hk', Option.map_some, Option.some.injEq] at h1
  exact h1.symm
set_option maxHeartbeats 4000000 in
set_option maxRecDepth 100000 in
theorem rsameAllE_calls (x y : Value) (ps qs : List (Ev × Value)) (w : World) (hx : SeesE w x ps) (hy : SeesE w y qs) (hxs : ∀ p ∈ ps, SeesT w p.2 p.1.term) (hys : ∀ p ∈ qs, SeesT w p.2 p.1.term) (hl : ∀ p ∈ ps, p.1.term.length ≤ 4398046511104) (he : ps.map (·.1) = qs.map (·.1)) (hnl : ps.length ≤ 140737488355328) :
    Calls Tryz.prog 23 #[x, y] w fun e w' => e = .returned (.bool true) ∧ Below w.heap.size w w' := by
  have hlen : qs.length = ps.length := by have := congrArg List.length he; simpa using this.symm
  have HX := Lib.hid hx
  have HY := Lib.hid hy
  obtain ⟨A, ca, rfl, hca, -⟩ := hx
  obtain ⟨B, cb, rfl, hcb, -⟩ := hy
  rw [hlen] at hcb HY ⊢
  have HXS := Lib.hid hxs; clear hxs
  have HYS := Lib.hid hys; clear hys
  have HL := Lib.hid hl; clear hl
  have HE := Lib.hid he; clear he
  have HLEN := Lib.hid hlen; clear hlen
  obtain ⟨n, hn⟩ : ∃ n, ps.length = n := ⟨_, rfl⟩
  rw [hn] at hca hcb HX HY HLEN hnl ⊢
  have HN := Lib.hid hn; clear hn
  go_enter Tryz.func23, Tryz.ntmps23
  go_wp2_with fail
  go_loopw [13] (fun i wr => ∃ k : Nat, k ≤ n ∧ i = .int .i64 k ∧ Hid (Below w.heap.size w wr)) (fun i _ => n - (intOf i).toNat)
  case atStart => exact ⟨0, Nat.zero_le _, rfl, Lib.hid (Below.refl _ _)⟩
  case round =>
    obtain ⟨k, hk, rfl, HB⟩ := hrel
    by_cases hlt : k < n
    · have hp : k < ps.length := by have := HN.out; omega
      have hq : k < qs.length := by have := HLEN.out; omega
      obtain ⟨ad, _, hxe, -, ha⟩ := HX.out.at5 k hp
      obtain rfl : A = some ad := by injection hxe
      obtain ⟨bd, _, hye, -, hb⟩ := HY.out.at5 k hq
      obtain rfl : B = some bd := by injection hye
      clear hxe hye
      rw [fst_at HE.out k hp hq] at hb
      have hs1 := HXS.out _ (List.getElem_mem hp)
      have hs2 := HYS.out _ (List.getElem_mem hq)
      rw [fst_at HE.out k hp hq] at hs2
      have hl1 := HL.out _ (List.getElem_mem hp)
      generalize ps[k].1 = ev at *
      generalize ps[k].2 = u at *
      generalize qs[k].2 = v at *
      clear hp hq
      have hsame : ∀ W, Below w.heap.size w W → Calls Tryz.prog 13 #[evV ev u, evV ev v] W fun e w' => e = .returned (.bool true) ∧ Below W.heap.size W w' := by
        intro W hW
        have h := rsame_calls ev ev u v W (hs1.below hW) (hs2.below hW) hl1
        rw [evSame_self] at h; exact h
      have HS1 := Lib.hid hs1
      have HS2 := Lib.hid hs2
      obtain ⟨U, uc, rfl, -, -⟩ := hs1
      obtain ⟨V, vc, rfl, -, -⟩ := hs2
      obtain ⟨ek, tick, pid, bb, t⟩ := ev
      unfold evV at hsame
      dsimp only at *
      have hkeep : ∀ W, Below w.heap.size w W → At5 W (ad.add (k * 5)) ⟨ek, tick, pid, bb, t⟩ (.slice U t.length uc) ∧ At5 W (bd.add (k * 5)) ⟨ek, tick, pid, bb, t⟩ (.slice V t.length vc) ∧ Below w.heap.size w W := fun W hW => ⟨ha.below hW, hb.below hW, hW⟩
      have hh := hkeep _ HB.out
      unfold At5 at hkeep hh
      dsimp only at hkeep hh
      have HC := Lib.hid hsame; clear hsame ha hb
      have HK := Lib.hid hkeep; clear hkeep
      have hki : (k : Int) < (n : Int) := by omega
      clear hh
      go_wp2_with fail
      have HLT := Lib.hid hlt
      have hb0 : Below w.heap.size w wr.drew := HB.out.trans ((Below.refl wr.heap.size wr).drew.mono HB.out.size)
      go_region_held3 (fun w' => (w'.cell? (ad.add (k * 5)) = some (.int .i64 ek) ∧ w'.cell? ⟨(ad.add (k * 5)).block, (ad.add (k * 5)).off + 1, none⟩ = some (.int .i64 tick) ∧ w'.cell? ⟨(ad.add (k * 5)).block, (ad.add (k * 5)).off + 2, none⟩ = some (.int .i64 pid) ∧ w'.cell? ⟨(ad.add (k * 5)).block, (ad.add (k * 5)).off + 3, none⟩ = some (.int .i64 bb) ∧ w'.cell? ⟨(ad.add (k * 5)).block, (ad.add (k * 5)).off + 4, none⟩ = some (.slice U t.length uc)) ∧ (w'.cell? (bd.add (k * 5)) = some (.int .i64 ek) ∧ w'.cell? ⟨(bd.add (k * 5)).block, (bd.add (k * 5)).off + 1, none⟩ = some (.int .i64 tick) ∧ w'.cell? ⟨(bd.add (k * 5)).block, (bd.add (k * 5)).off + 2, none⟩ = some (.int .i64 pid) ∧ w'.cell? ⟨(bd.add (k * 5)).block, (bd.add (k * 5)).off + 3, none⟩ = some (.int .i64 bb) ∧ w'.cell? ⟨(bd.add (k * 5)).block, (bd.add (k * 5)).off + 4, none⟩ = some (.slice V t.length vc)) ∧ Below w.heap.size w w')
        (exact HK.out _ (by assumption))
        (first | (go_at_call 13; have hz := (by assumption : _ ∧ _ ∧ Below w.heap.size w _).2.2; refine (HC.out _ hz).mono ?_; rintro e w1 ⟨rfl, hb1⟩; have hz1 : Below w.heap.size w w1 := hz.trans (hb1.mono hz.size); clear hb1 hz))
      have hz := (by assumption : Below w.heap.size w w1)
      have HZ := Lib.hid hz; clear hz
      go_wp2
      go_roundw
      case rel => exact ⟨k + 1, by have := HLT.out; omega, by go_num, HZ⟩
      case measure => have := HLT.out; simp [intOf]; omega
    · go_wp2_with fail
      go_ret
      exact ⟨rfl, HB.out⟩
set_option maxHeartbeats 4000000 in
set_option maxRecDepth 100000 in
theorem kept28_calls (x y : Value) (qs ps : List (Ev × Value)) (g cap base : Nat) (w : World) (hx : LentE w x qs g cap) (hy : SeesE w y ps) (hxs : LentAll w base qs) (hys : ∀ p ∈ ps, SeesT w p.2 p.1.term) (hl : ∀ p ∈ qs, p.1.term.length ≤ 4398046511104) (he : qs.map (·.1) = ps.map (·.1)) (hnl : qs.length ≤ 140737488355328) :
    Calls Tryz.prog 16 #[x, y] w fun e w' => e = .returned (.bool true) ∧ Below w.heap.size w w' := by
  have hlen : ps.length = qs.length := by have := congrArg List.length he; simpa using this.symm
  have HX := Lib.hid hx
  have HY := Lib.hid hy
  have hsa := fun m => rsameAllE_calls x y qs ps (w.drewN m) hx.sees hy (fun p hp => by obtain ⟨g, c, h1, -⟩ := hxs p hp; exact h1.sees) hys hl he hnl
  have HSA := Lib.hid hsa; clear hsa
  obtain ⟨B, cb, rfl, hcb, -⟩ := hy
  have hf := hx.form
  have hcap := hx.cap
  have hm : w.cell? ((⟨g, 0, none⟩ : Addr).add (qs.length * 5)) = some (.int .i64 4321) := by
    have := hx.mrk
    unfold Addr.add
    split
    · rename_i h0; rw [h0] at this; exact this
    · simpa using this
  have hgl : (⟨g, 0, none⟩ : Addr).block < w.heap.size := hx.lt
  have HXE := Lib.hid hx.sees
  subst hf
  obtain ⟨G, hG⟩ : ∃ G : Addr, (⟨g, 0, none⟩ : Addr) = G := ⟨_, rfl⟩
  rw [hlen] at hcb HY HSA ⊢
  have HXS := Lib.hid hxs; clear hxs
  have HYS := Lib.hid hys; clear hys
  have HL := Lib.hid hl; clear hl
  have HE := Lib.hid he; clear he
  have HLEN := Lib.hid hlen; clear hlen hx
  obtain ⟨n, hn⟩ : ∃ n, qs.length = n := ⟨_, rfl⟩
  rw [hn] at hcb HX HY HLEN hcap hm HSA HXE hnl ⊢
  rw [hG] at hm HSA HXE hgl ⊢
  have HN := Lib.hid hn; clear hn HX hG
  have s1 : (n : Int) + 1 ≤ (cap : Int) := by omega
  have HM := Lib.hid hm; clear hm
  go_enter Tryz.func16, Tryz.ntmps16
  go_wp2_with fail
  go_loopw [8] (fun i wr => ∃ k : Nat, k ≤ n ∧ i = .int .i64 k ∧ ∃ m, wr = w.drewN m) (fun i _ => n - (intOf i).toNat)
  case atStart => exact ⟨0, Nat.zero_le _, rfl, 0, rfl⟩
  case round =>
    obtain ⟨k, hk, rfl, m, rfl⟩ := hrel
    by_cases hlt : k < n
    · have hp : k < ps.length := by have := HLEN.out; omega
      have hq : k < qs.length := by have := HN.out; omega
      obtain ⟨ad, _, hxe, -, -, -, -, -, d4⟩ := HXE.out.at5 k hq
      simp only [Value.slice.injEq, Option.some.injEq] at hxe
      obtain ⟨hG2, -⟩ := hxe
      subst hG2
      obtain ⟨bd, _, hye, -, -, -, -, -, e4⟩ := HY.out.at5 k hp
      obtain rfl : B = some bd := by injection hye
      clear hye
      obtain ⟨g1, c1, hlt1, -⟩ := HXS.out _ (List.getElem_mem hq)
      have hs2 := HYS.out _ (List.getElem_mem hp)
      rw [fst_at HE.out k hq hp] at hs2
      have hl1 := HL.out _ (List.getElem_mem hq)
      generalize qs[k].1 = ev at *
      generalize qs[k].2 = u at *
      generalize ps[k].2 = v at *
      clear hp hq
      obtain ⟨t, ht⟩ : ∃ t, ev.term = t := ⟨_, rfl⟩
      rw [ht] at hlt1 hs2 hl1
      have hkc : ∀ j, Calls Tryz.prog 53 #[u, v] ((w.drewN m).drewN j) fun e w' => e = .returned (.bool true) ∧ ∃ i, w' = (w.drewN m).drewN i := by
        intro j
        have h := rkept_calls u v t g1 c1 ((w.drewN m).drewN j) (hlt1.below (below_dN (below_dN (Below.refl _ _) _) _)) hs2 hl1
        exact Calls.quiet_of h
      have HC := Lib.hid hkc; clear hkc
      have hform := hlt1.form
      subst hform
      obtain ⟨V, vc, rfl, -, -⟩ := hs2
      have hki : (k : Int) < (n : Int) := by omega
      have d4' : (w.drewN m).cell? ⟨(G.add (k * 5)).block, (G.add (k * 5)).off + 4, none⟩ = some (.slice (some ⟨g1, 0, none⟩) t.length c1) := d4
      have e4' : (w.drewN m).cell? ⟨(bd.add (k * 5)).block, (bd.add (k * 5)).off + 4, none⟩ = some (.slice V t.length vc) := e4
      clear d4 e4 hlt1 ht
      generalize hW : w.drewN m = wr at *
      have HW := Lib.hid hW; clear hW
      go_wp2_with fail
      go_quiet ((go_at_call 53; exact HC.out _))
      go_wp2
      go_roundw
      case rel => exact ⟨k + 1, by omega, by go_num, m + nq, by rw [← HW.out, World.drewN_drewN]⟩
      case measure => simp [intOf]; omega
    · have t0 : decide ((k : Int) < (n : Int)) = false := decide_eq_false (by omega)
      go_wp2_with fail
      refine (HSA.out m).mono ?_
      rintro e w1 ⟨rfl, hb⟩
      have hb1 : Below w.heap.size w w1 := (below_dN (Below.refl w.heap.size w) m).trans hb
      have hm1 : w1.cell? (G.add (n * 5)) = some (.int .i64 4321) := (hb1.cell (p := G.add (n * 5)) (by rw [add_block]; exact hgl)).trans HM.out
      have HB1 := Lib.hid hb1; clear hb hb1
      go_wp2
      go_ret
      exact ⟨rfl, HB1.out⟩
end Go.Proofs.YtejpdfenejbjdaaGreatDoor

namespace Go.Proofs.YtejpdfenejbjdaaGreatDoor
open Go.RowKit Txt
set_option linter.unusedVariables false
set_option linter.unusedSimpArgs false

theorem cells_two {w : World} {g : Nat} {ps : List (Ev × Value)} (h : ∀ j u, (ecs ps)[j]? = some u → w.cell? ⟨g, j, none⟩ = some u) {a b : Ev} {u v : Value} (hp : ps = [(a, u), (b, v)]) :
    (w.cell? ⟨g, 0, none⟩ = some (.int .i64 a.kind) ∧ w.cell? ⟨g, 1, none⟩ = some (.int .i64 a.tick) ∧ w.cell? ⟨g, 2, none⟩ = some (.int .i64 a.pid) ∧ w.cell? ⟨g, 3, none⟩ = some (.int .i64 a.by_) ∧ w.cell? ⟨g, 4, none⟩ = some u)
    ∧ (w.cell? ⟨g, 5, none⟩ = some (.int .i64 b.kind) ∧ w.cell? ⟨g, 6, none⟩ = some (.int .i64 b.tick) ∧ w.cell? ⟨g, 7, none⟩ = some (.int .i64 b.pid) ∧ w.cell? ⟨g, 8, none⟩ = some (.int .i64 b.by_) ∧ w.cell? ⟨g, 9, none⟩ = some v) := by
  subst hp
  exact ⟨⟨h 0 _ rfl, h 1 _ rfl, h 2 _ rfl, h 3 _ rfl, h 4 _ rfl⟩, ⟨h 5 _ rfl, h 6 _ rfl, h 7 _ rfl, h 8 _ rfl, h 9 _ rfl⟩⟩
theorem two_of {ps : List (Ev × Value)} {a b : Ev} {u v : Value} (h : ps.map (·.1) = ([(a, u), (b, v)] : List (Ev × Value)).map (·.1)) : ∃ u' v', ps = [(a, u'), (b, v')] := by
  match ps, h with
  | [(x, u'), (y, v')], h =>
    simp only [List.map_cons, List.map_nil, List.cons.injEq, and_true] at h
    obtain ⟨rfl, rfl⟩ := h
    exact ⟨u', v', rfl⟩
theorem sees_two (W : World) (a b : Ev) (u v : Value) : SeesE (W.alloc (.cells #[.int .i64 a.kind, .int .i64 a.tick, .int .i64 a.pid, .int .i64 a.by_, u, .int .i64 b.kind, .int .i64 b.tick, .int .i64 b.pid, .int .i64 b.by_, v] 24)) (.slice (some ⟨W.heap.size, 0, none⟩) 2 2) [(a, u), (b, v)] :=
  ⟨_, _, rfl, Nat.le_refl _, fun _ => ⟨_, rfl, new_list W [.int .i64 a.kind, .int .i64 a.tick, .int .i64 a.pid, .int .i64 a.by_, u, .int .i64 b.kind, .int .i64 b.tick, .int .i64 b.pid, .int .i64 b.by_, v] _ _ rfl⟩⟩
set_option maxHeartbeats 16000000 in
set_option maxRecDepth 100000 in
theorem trights_calls (a b : Ev) (A1 A2 : Option Addr) (c1 c2 : Nat) (w : World) (ha : EvIn w a A1 c1) (hb : EvIn w b A2 c2) (ht : TabsT w) :
    Calls Tryz.prog 3 #[evV a (.slice A1 a.term.length c1), evV b (.slice A2 b.term.length c2)] w fun e w' => e = .returned (.bool true) ∧ Below w.heap.size w w' := by
  have HT := Lib.hid ht; clear ht
  obtain ⟨W2, hW2⟩ : ∃ W2, ((w.alloc (.cells #[.int .i64 a.kind, .int .i64 a.tick, .int .i64 a.pid, .int .i64 a.by_, .slice A1 a.term.length c1] 24)).alloc (.cells #[.int .i64 b.kind, .int .i64 b.tick, .int .i64 b.pid, .int .i64 b.by_, .slice A2 b.term.length c2] 24)) = W2 := ⟨_, rfl⟩
  have hal1 := (Below.refl w.heap.size w).alloc (Nat.le_refl _) (.cells #[.int .i64 a.kind, .int .i64 a.tick, .int .i64 a.pid, .int .i64 a.by_, .slice A1 a.term.length c1] 24)
  have hb2 : Below w.heap.size w W2 := by rw [← hW2]; exact hal1.alloc (by simp) _
  have hsz2 : W2.heap.size = w.heap.size + 2 := by rw [← hW2]; simp
  have hev1 : EvAt W2 w.heap.size a (.slice A1 a.term.length c1) := by
    rw [← hW2]
    exact (evAt_new w a _).below ((Below.refl _ _).alloc (Nat.le_refl _) _)
  have hev2 : EvAt W2 (w.heap.size + 1) b (.slice A2 b.term.length c2) := by
    have := evAt_new (w.alloc (.cells #[.int .i64 a.kind, .int .i64 a.tick, .int .i64 a.pid, .int .i64 a.by_, .slice A1 a.term.length c1] 24)) b (.slice A2 b.term.length c2)
    rw [hW2] at this
    simpa using this
  obtain ⟨W3, hW3⟩ : ∃ W3, W2.alloc (.cells #[.int .i64 a.kind, .int .i64 a.tick, .int .i64 a.pid, .int .i64 a.by_, .slice A1 a.term.length c1, .int .i64 b.kind, .int .i64 b.tick, .int .i64 b.pid, .int .i64 b.by_, .slice A2 b.term.length c2] 24) = W3 := ⟨_, rfl⟩
  have hb23 : Below W2.heap.size W2 W3 := by rw [← hW3]; exact (Below.refl _ _).alloc (Nat.le_refl _) _
  have hb3 := hb2.trans (hb23.mono hb2.size)
  have hle := elent_calls (.slice (some ⟨W2.heap.size, 0, none⟩) 2 2) [(a, .slice A1 a.term.length c1), (b, .slice A2 b.term.length c2)] W3 (by rw [← hW3]; exact sees_two W2 a b _ _)
    (fun p hp => by
                     simp only [List.mem_cons, List.not_mem_nil, or_false] at hp
                     rcases hp with rfl | rfl
                     · exact ha.sees.below hb3
                     · exact hb.sees.below hb3)
    (fun p hp => by
                     simp only [List.mem_cons, List.not_mem_nil, or_false] at hp
                     rcases hp with rfl | rfl
                     · exact ha.len
                     · exact hb.len) (by simp)
  have HLE := Lib.hid hle; clear hle
  have HEV1 := Lib.hid (hev1.below hb23); clear hev1
  have HEV2 := Lib.hid (hev2.below hb23); clear hev2
  have HB3 := Lib.hid hb3; clear hb3 hb23 hb2 hal1
  have HIA := Lib.hid ha; clear ha
  have HIB := Lib.hid hb; clear hb
  have HSZ := Lib.hid hsz2; clear hsz2
  have HW2 := Lib.hid hW2; clear hW2
  have HW3 := Lib.hid hW3; clear hW3
  obtain ⟨k1, q1, p1, b1, l1⟩ := a
  obtain ⟨k2, q2, p2, b2, l2⟩ := b
  unfold evV
  dsimp only at *
  go_enter Tryz.func3, Tryz.ntmps3
  go_wp2_with fail
  have hs2 : w.heap.size + 1 + 1 = W2.heap.size := by have := HSZ.out; omega
  rw [HW2.out, HW3.out, hs2]
  refine HLE.out.mono ?_
  rintro e w4 ⟨g, cap, qs, rfl, hgl, hql, hlen, hall, hfst, hb4⟩
  obtain ⟨u, v, rfl⟩ := two_of hfst
  obtain ⟨m1, m2⟩ := cells_two hlen.cells rfl
  obtain ⟨g1, e1, ht1, hg1⟩ := hall (⟨k1, q1, p1, b1, l1⟩, u) (by simp)
  obtain ⟨g2, e2, ht2, hg2⟩ := hall (⟨k2, q2, p2, b2, l2⟩, v) (by simp)
  have hf1 := ht1.form
  have hf2 := ht2.form
  dsimp only at hf1 hf2 ht1 ht2 m1 m2
  subst hf1 hf2
  have HLN := Lib.hid hlen; clear hlen
  have HALL := Lib.hid hall; clear hall
  have HB4 := Lib.hid (HB3.out.trans (hb4.mono HB3.out.size))
  have hx1 := HEV1.out.below hb4
  have hx2 := HEV2.out.below hb4
  have hgl4 := HLN.out.lt
  have hkeep : ∀ W, Below w4.heap.size w4 W → W.cell? ⟨w.heap.size, 0, none⟩ = some (.int .i64 k1) ∧ W.cell? ⟨w.heap.size, 1, none⟩ = some (.int .i64 q1) ∧ W.cell? ⟨w.heap.size, 2, none⟩ = some (.int .i64 p1) ∧ W.cell? ⟨w.heap.size, 3, none⟩ = some (.int .i64 b1) ∧ W.cell? ⟨w.heap.size, 4, none⟩ = some (.slice A1 l1.length c1) ∧ W.cell? ⟨w.heap.size + 1, 0, none⟩ = some (.int .i64 k2) ∧ W.cell? ⟨w.heap.size + 1, 1, none⟩ = some (.int .i64 q2) ∧ W.cell? ⟨w.heap.size + 1, 2, none⟩ = some (.int .i64 p2) ∧ W.cell? ⟨w.heap.size + 1, 3, none⟩ = some (.int .i64 b2) ∧ W.cell? ⟨w.heap.size + 1, 4, none⟩ = some (.slice A2 l2.length c2) ∧ W.cell? ⟨g, 0, none⟩ = some (.int .i64 k1) ∧ W.cell? ⟨g, 1, none⟩ = some (.int .i64 q1) ∧ W.cell? ⟨g, 2, none⟩ = some (.int .i64 p1) ∧ W.cell? ⟨g, 3, none⟩ = some (.int .i64 b1) ∧ W.cell? ⟨g, 4, none⟩ = some (.slice (some ⟨g1, 0, none⟩) l1.length e1) ∧ W.cell? ⟨g, 5, none⟩ = some (.int .i64 k2) ∧ W.cell? ⟨g, 6, none⟩ = some (.int .i64 q2) ∧ W.cell? ⟨g, 7, none⟩ = some (.int .i64 p2) ∧ W.cell? ⟨g, 8, none⟩ = some (.int .i64 b2) ∧ W.cell? ⟨g, 9, none⟩ = some (.slice (some ⟨g2, 0, none⟩) l2.length e2) ∧ Below w4.heap.size w4 W := by
    intro W hW
    have y1 := hx1.below hW
    have y2 := hx2.below hW
    obtain ⟨n0, n1, n2, n3, n4⟩ := m1
    obtain ⟨n5, n6, n7, n8, n9⟩ := m2
    exact ⟨y1.c0, y1.c1, y1.c2, y1.c3, y1.c4, y2.c0, y2.c1, y2.c2, y2.c3, y2.c4,
      (hW.cell (p := ⟨g, 0, none⟩) hgl4).trans n0, (hW.cell (p := ⟨g, 1, none⟩) hgl4).trans n1, (hW.cell (p := ⟨g, 2, none⟩) hgl4).trans n2, (hW.cell (p := ⟨g, 3, none⟩) hgl4).trans n3, (hW.cell (p := ⟨g, 4, none⟩) hgl4).trans n4,
      (hW.cell (p := ⟨g, 5, none⟩) hgl4).trans n5, (hW.cell (p := ⟨g, 6, none⟩) hgl4).trans n6, (hW.cell (p := ⟨g, 7, none⟩) hgl4).trans n7, (hW.cell (p := ⟨g, 8, none⟩) hgl4).trans n8, (hW.cell (p := ⟨g, 9, none⟩) hgl4).trans n9, hW⟩
  have HK := Lib.hid hkeep; clear hkeep hx1 hx2 m1 m2 hfst hql
  have hba : ∀ W, Below w4.heap.size w4 W → Below w.heap.size w W := fun W hW => HB4.out.trans (hW.mono HB4.out.size)
  have hbt := fun W hW => HT.out.tabs.below (hba W hW)
  obtain ⟨R, hR⟩ : ∃ R, evRight ⟨k1, q1, p1, b1, l1⟩ = R := ⟨_, rfl⟩
  obtain ⟨D, hD⟩ : ∃ D, evSame ⟨k1, q1, p1, b1, l1⟩ ⟨k2, q2, p2, b2, l2⟩ = D := ⟨_, rfl⟩
  have h1 := fun W hW => tright_calls ⟨k1, q1, p1, b1, l1⟩ (.slice (some ⟨g1, 0, none⟩) l1.length e1) W (ht1.below hW).sees HIA.out.texts (hbt W hW)
  have h2 := fun W hW => revr_calls ⟨k1, q1, p1, b1, l1⟩ (.slice A1 l1.length c1) W (HIA.out.sees.below (hba W hW)) HIA.out.texts (hbt W hW)
  have h3 := fun W hW => tsame_calls ⟨k1, q1, p1, b1, l1⟩ ⟨k2, q2, p2, b2, l2⟩ (.slice (some ⟨g1, 0, none⟩) l1.length e1) (.slice (some ⟨g2, 0, none⟩) l2.length e2) W (ht1.below hW).sees (ht2.below hW).sees (by have := HIB.out.len; dsimp only at this ⊢; omega)
  have h4 := fun W hW => rsame_calls ⟨k1, q1, p1, b1, l1⟩ ⟨k2, q2, p2, b2, l2⟩ (.slice A1 l1.length c1) (.slice A2 l2.length c2) W (HIA.out.sees.below (hba W hW)) (HIB.out.sees.below (hba W hW)) (by have := HIB.out.len; dsimp only at this ⊢; omega)
  have h5 := fun W hW => tsame_calls ⟨k1, q1, p1, b1, l1⟩ ⟨k1, q1, p1, b1, l1⟩ (.slice A1 l1.length c1) (.slice A1 l1.length c1) W (HIA.out.sees.below (hba W hW)) (HIA.out.sees.below (hba W hW)) (by have := HIA.out.len; dsimp only at this ⊢; omega)
  rw [evSame_self] at h5
  rw [hR] at h1 h2
  rw [hD] at h3 h4
  unfold evV at h1 h2 h3 h4 h5
  dsimp only at h1 h2 h3 h4 h5
  have HC1 := Lib.hid h1; clear h1
  have HC2 := Lib.hid h2; clear h2
  have HC3 := Lib.hid h3; clear h3
  have HC4 := Lib.hid h4; clear h4
  have HC5 := Lib.hid h5; clear h5 hR hD
  have HT1 := Lib.hid ht1; clear ht1
  have HT2 := Lib.hid ht2; clear ht2
  have HBT := Lib.hid hbt; clear hbt
  have HBA := Lib.hid hba; clear hba hb4 hg1 hg2 hgl hgl4
  have hk0 := HK.out w4 (Below.refl _ _)
  have hb0 : Below w4.heap.size w4 w4.drew := (Below.refl _ _).drew
  go_wp2_with fail
  go_region_held3 (fun w' => w'.cell? ⟨w.heap.size, 0, none⟩ = some (.int .i64 k1) ∧ w'.cell? ⟨w.heap.size, 1, none⟩ = some (.int .i64 q1) ∧ w'.cell? ⟨w.heap.size, 2, none⟩ = some (.int .i64 p1) ∧ w'.cell? ⟨w.heap.size, 3, none⟩ = some (.int .i64 b1) ∧ w'.cell? ⟨w.heap.size, 4, none⟩ = some (.slice A1 l1.length c1) ∧ w'.cell? ⟨w.heap.size + 1, 0, none⟩ = some (.int .i64 k2) ∧ w'.cell? ⟨w.heap.size + 1, 1, none⟩ = some (.int .i64 q2) ∧ w'.cell? ⟨w.heap.size + 1, 2, none⟩ = some (.int .i64 p2) ∧ w'.cell? ⟨w.heap.size + 1, 3, none⟩ = some (.int .i64 b2) ∧ w'.cell? ⟨w.heap.size + 1, 4, none⟩ = some (.slice A2 l2.length c2) ∧ w'.cell? ⟨g, 0, none⟩ = some (.int .i64 k1) ∧ w'.cell? ⟨g, 1, none⟩ = some (.int .i64 q1) ∧ w'.cell? ⟨g, 2, none⟩ = some (.int .i64 p1) ∧ w'.cell? ⟨g, 3, none⟩ = some (.int .i64 b1) ∧ w'.cell? ⟨g, 4, none⟩ = some (.slice (some ⟨g1, 0, none⟩) l1.length e1) ∧ w'.cell? ⟨g, 5, none⟩ = some (.int .i64 k2) ∧ w'.cell? ⟨g, 6, none⟩ = some (.int .i64 q2) ∧ w'.cell? ⟨g, 7, none⟩ = some (.int .i64 p2) ∧ w'.cell? ⟨g, 8, none⟩ = some (.int .i64 b2) ∧ w'.cell? ⟨g, 9, none⟩ = some (.slice (some ⟨g2, 0, none⟩) l2.length e2) ∧ Below w4.heap.size w4 w')
    (exact HK.out _ (by assumption))
    (first
      | (go_at_call 10; have hz := (by assumption : Below w4.heap.size w4 _); with_reducible refine (HC1.out _ hz).mono ?_; rintro e w1 ⟨rfl, hb1⟩; have hz1 : Below w4.heap.size w4 w1 := hz.trans (hb1.mono hz.size); clear hb1 hz)
      | (go_at_call 11; have hz := (by assumption : Below w4.heap.size w4 _); with_reducible refine (HC2.out _ hz).mono ?_; rintro e w1 ⟨rfl, hb1⟩; have hz1 : Below w4.heap.size w4 w1 := hz.trans (hb1.mono hz.size); clear hb1 hz)
      | (go_at_call 12; have hz := (by assumption : Below w4.heap.size w4 _); with_reducible refine (HC3.out _ hz).mono ?_; rintro e w1 ⟨rfl, hb1⟩; have hz1 : Below w4.heap.size w4 w1 := hz.trans (hb1.mono hz.size); clear hb1 hz)
      | (go_at_call 13; have hz := (by assumption : Below w4.heap.size w4 _); with_reducible refine (HC4.out _ hz).mono ?_; rintro e w1 ⟨rfl, hb1⟩; have hz1 : Below w4.heap.size w4 w1 := hz.trans (hb1.mono hz.size); clear hb1 hz)
      | (go_at_call 12; have hz := (by assumption : Below w4.heap.size w4 _); with_reducible refine (HC5.out _ hz).mono ?_; rintro e w1 ⟨rfl, hb1⟩; have hz1 : Below w4.heap.size w4 w1 := hz.trans (hb1.mono hz.size); clear hb1 hz))
  have hz := (by assumption : Below w4.heap.size w4 w1)
  have HZ := Lib.hid hz
  obtain ⟨PR, hPR⟩ : ∃ PR, evPrint ⟨k1, q1, p1, b1, l1⟩ = PR := ⟨_, rfl⟩
  have hp1 := fun W hW => tprint_calls ⟨k1, q1, p1, b1, l1⟩ (.slice (some ⟨g1, 0, none⟩) l1.length e1) W (HT1.out.below hW).sees HIA.out.texts HIA.out.fits HIA.out.tick HIA.out.pid HIA.out.by_ (HBT.out W hW)
  have hp2 := fun W hW => rvprint_calls ⟨k1, q1, p1, b1, l1⟩ (.slice A1 l1.length c1) W (HIA.out.sees.below (HBA.out W hW)) HIA.out.texts HIA.out.fits HIA.out.tick HIA.out.pid HIA.out.by_ (HBT.out W hW)
  rw [hPR] at hp1 hp2
  obtain ⟨PT, PE⟩ := PR
  unfold evV at hp1 hp2
  dsimp only at hp1 hp2
  obtain ⟨PB, hPB⟩ : ∃ PB, Txt.bytes PT = PB := ⟨_, rfl⟩
  rw [hPB] at hp1 hp2
  have HP1 := Lib.hid hp1; clear hp1
  have HP2 := Lib.hid hp2; clear hp2 hPR hPB hz
  have hk1 := HK.out w1 HZ.out
  obtain ⟨f0, f1, f2, f3, f4, f5, f6, f7, f8, f9, f10, f11, f12, f13, f14, f15, f16, f17, f18, f19, -⟩ := hk1
  clear HC1 HC2 HC3 HC4 HC5
  go_wp2_with fail
  refine (HP1.out _ HZ.out).mono ?_
  rintro e w5 ⟨rfl, hb⟩
  have HZ5 := Lib.hid (HZ.out.trans (hb.mono HZ.out.size)); clear hb f0 f1 f2 f3 f4 f5 f6 f7 f8 f9 f10 f11 f12 f13 f14 f15 f16 f17 f18 f19
  have hk1 := HK.out w5 HZ5.out
  obtain ⟨f0, f1, f2, f3, f4, f5, f6, f7, f8, f9, f10, f11, f12, f13, f14, f15, f16, f17, f18, f19, -⟩ := hk1
  go_wp2_with fail
  refine (HP2.out _ HZ5.out).mono ?_
  rintro e w6 ⟨rfl, hb⟩
  have HZ6 := Lib.hid (HZ5.out.trans (hb.mono HZ5.out.size)); clear hb f0 f1 f2 f3 f4 f5 f6 f7 f8 f9 f10 f11 f12 f13 f14 f15 f16 f17 f18 f19
  have hk1 := HK.out w6 HZ6.out
  obtain ⟨f0, f1, f2, f3, f4, f5, f6, f7, f8, f9, f10, f11, f12, f13, f14, f15, f16, f17, f18, f19, -⟩ := hk1
  go_wp2_with fail
  have hal7 : Below w6.heap.size w6 (w6.alloc (.cells #[.int .i64 k1, .int .i64 q1, .int .i64 p1, .int .i64 b1, .slice A1 l1.length c1, .int .i64 k2, .int .i64 q2, .int .i64 p2, .int .i64 b2, .slice A2 l2.length c2] 24)) := (Below.refl _ _).alloc (Nat.le_refl _) _
  have hk7 := HZ6.out.trans (hal7.mono HZ6.out.size)
  have hkp := kept28_calls (.slice (some ⟨g, 0, none⟩) 2 cap) (.slice (some ⟨w6.heap.size, 0, none⟩) 2 2) [(⟨k1, q1, p1, b1, l1⟩, .slice (some ⟨g1, 0, none⟩) l1.length e1), (⟨k2, q2, p2, b2, l2⟩, .slice (some ⟨g2, 0, none⟩) l2.length e2)] [(⟨k1, q1, p1, b1, l1⟩, .slice A1 l1.length c1), (⟨k2, q2, p2, b2, l2⟩, .slice A2 l2.length c2)] g cap W3.heap.size _ (HLN.out.below hk7) (sees_two w6 ⟨k1, q1, p1, b1, l1⟩ ⟨k2, q2, p2, b2, l2⟩ _ _) (HALL.out.below hk7)
    (fun p hp => by
      simp only [List.mem_cons, List.not_mem_nil, or_false] at hp
      rcases hp with rfl | rfl
      · exact HIA.out.sees.below (HBA.out _ hk7)
      · exact HIB.out.sees.below (HBA.out _ hk7))
    (fun p hp => by
      simp only [List.mem_cons, List.not_mem_nil, or_false] at hp
      rcases hp with rfl | rfl
      · have := HIA.out.len; dsimp only at this ⊢; omega
      · have := HIB.out.len; dsimp only at this ⊢; omega) rfl (by simp)
  refine hkp.mono ?_
  rintro e w8 ⟨rfl, hb8⟩
  have HZ8 := Lib.hid (hk7.trans (hb8.mono hk7.size)); clear hb8 hk7 hal7 hkp
  go_wp2_with fail
  refine (awake_calls _ (HT.out.below (HBA.out _ HZ8.out))).mono ?_
  rintro e w9 ⟨rfl, hb9⟩
  have HZ9 := Lib.hid (HZ8.out.trans (hb9.mono HZ8.out.size)); clear hb9
  go_wp2
  go_ret
  exact ⟨rfl, HBA.out _ HZ9.out⟩
end Go.Proofs.YtejpdfenejbjdaaGreatDoor
