/- Walks: trace: an event in new memory; one more in the ring. -/
import Derived.Test.YtejpdfenejbjdaaGreatDoorEc
import Derived.Test.YtejpdfenejbjdaaGreatDoorTrK
import Derived.Deep.RegionHeld3
import Derived.Deep.RegionLawGrows
namespace Go.Proofs.YtejpdfenejbjdaaGreatDoor
open Go.RowKit Txt
set_option linter.unusedVariables false
set_option linter.unusedSimpArgs false

/-- A term, in memory from a block on. -/
def TermAt (base : Nat) (w : World) (v : Value) (t : List Cl) : Prop :=
  SeesT w v t ∧ ∀ ad n c, v = .slice (some ad) n c → base ≤ ad.block ∧ ∃ hh cc, w.heap[ad.block]? = some (.cells hh 74 cc)
theorem TermAt.keep {base : Nat} {w w' : World} {v : Value} {t : List Cl} (h : TermAt base w v t) (hk : ∀ ad n c, v = .slice (some ad) n c → ad.block < w.heap.size → w'.heap[ad.block]? = w.heap[ad.block]?) : TermAt base w' v t := by
  refine ⟨h.1.keep fun ad ⟨n, c, e⟩ hl => hk ad n c e hl, fun ad n c e => ?_⟩
  obtain ⟨h1, hh, cc, h2⟩ := h.2 ad n c e
  exact ⟨h1, hh, cc, (hk ad n c e (Array.getElem?_eq_some_iff.1 h2).1).trans h2⟩
theorem TermAt.mono {base base' : Nat} {w : World} {v : Value} {t : List Cl} (h : TermAt base w v t) (hb : base' ≤ base) : TermAt base' w v t := ⟨h.1, fun ad n c e => ⟨Nat.le_trans hb (h.2 ad n c e).1, (h.2 ad n c e).2⟩⟩
theorem TermAt.below {base : Nat} {w w' : World} {v : Value} {t : List Cl} (h : TermAt base w v t) (hb : Below w.heap.size w w') : TermAt base w' v t := h.keep fun ad _ _ _ hl => hb.block _ hl
theorem TermAt.own {base : Nat} {w : World} {v : Value} {t : List Cl} (h : OwnT base w v t) : TermAt base w v t := by
  refine ⟨h.sees, fun ad n c e => ?_⟩
  obtain ⟨-, ⟨e0, -⟩ | ⟨g, cap, cur, e0, hg, hh, -⟩⟩ := h
  · rw [e0] at e; cases e
  · rw [e0] at e; cases e; exact ⟨hg, _, _, hh⟩

set_option maxHeartbeats 2000000 in
set_option maxRecDepth 100000 in
theorem cloneT_calls (x : Value) (t : List Cl) (w : World) (hx : SeesT w x t) (hl : t.length * 32 ≤ 140737488351232) :
    Calls Tryz.prog 149 #[x] w fun e w' => ∃ A c, e = .returned (.slice A t.length c) ∧ TermAt w.heap.size w' (.slice A t.length c) t ∧ Below w.heap.size w w' := by
  obtain ⟨i0, hi, hz0, hz1, hz2⟩ := info_parts info_cell
  have q22 : ∀ (w : World) (a : Option Addr) (n c n' c' : Nat), (binOp .eql 22 (.slice a n c) (.slice none n' c')).run Tryz.prog w = .ok (.bool a.isNone) w := fun w a n c n' c' => Lib.run_eql_slice_nil w _ _ a n c n' c' Tryz.underlying22
  obtain ⟨A, cap, rfl, hcap, hA⟩ := hx
  rcases A with _ | ad
  · have hte : t = [] := by
      refine Decidable.byContradiction fun h => ?_
      obtain ⟨ad, e, -⟩ := hA h
      cases e
    subst hte
    clear hA
    go_enter Tryz.func149, Tryz.ntmps149
    go_wp2
    go_ret
    exact ⟨none, 0, rfl, TermAt.own (OwnT.nil _ _), Below.refl _ _⟩
  · have hcells : ∀ j u, (cvs t)[j]? = some u → w.cell? (ad.add j) = some u := by
      intro j u hj
      have hne : t ≠ [] := by rintro rfl; simp [cvs] at hj
      obtain ⟨ad', e, h⟩ := hA hne
      obtain rfl := Option.some.inj e
      exact h j u hj
    have hb1 := (Below.refl w.heap.size w).alloc (Nat.le_refl _) (.cells #[] 74)
    have hc1 : ∀ j u, (cvs t)[j]? = some u → (w.alloc (.cells #[] 74)).cell? (ad.add j) = some u := fun j u hj => (hb1.cell (cell_lt (hcells j u hj))).trans (hcells j u hj)
    have ho1 : OwnT w.heap.size (w.alloc (.cells #[] 74)) (.slice (some ⟨w.heap.size, 0, none⟩) 0 0) [] := ⟨rfl, .inr ⟨_, 0, _, rfl, Nat.le_refl _, heap_alloc_new _ _, Nat.le_refl _, by decide, rfl, rfl⟩⟩
    have HC := Lib.hid hc1; have HO := Lib.hid ho1; have HB := Lib.hid hb1; clear hcells hA hc1 ho1 hb1
    go_enter Tryz.func149, Tryz.ntmps149
    go_wp2_with (at_builtin; refine wpList_append_own _ rfl _ _ 22 rfl w.heap.size 74 i0 (.agg #[.int .i64 0, .int .i64 0, .string .empty]) 3 32 Tryz.underlying22 hi hz0 hz1 hz2 rfl (by decide) _ _ _ rfl HO.out ad t.length cap (cvs t) rfl (cvs_length t) HC.out (cvs_oneCell t) ?a1 ?a2 ?a3 ?_)
    case a1 => unfold maxLen; simp; omega
    case a2 => simp; omega
    case a3 => simp
    intro v2 w2 hown hgrow _
    have hb2 : Below w.heap.size w w2 := HB.out.grown hgrow HB.out.size HO.out.own_ge
    have ho2 : OwnT w.heap.size w2 v2 t := OwnT.appended (t := []) hown (by simp)
    obtain ⟨A2, n2, c2, rfl⟩ := own_slice ho2
    have HT := Lib.hid (TermAt.own ho2); have HB2 := Lib.hid hb2
    obtain ⟨A', c', e', -, -⟩ := ho2.sees
    cases e'
    clear hown hgrow hb2 ho2
    go_wp2
    go_ret
    exact ⟨_, _, rfl, HT.out, HB2.out⟩

theorem blk5 {w : World} {g : Nat} {v0 v1 v2 v3 v4 : Value} {T : TypeId} (h : w.heap[g]? = some (.cells #[v0, v1, v2, v3, v4] T (0, 0))) :
    w.cell? ⟨g, 0, none⟩ = some v0 ∧ w.cell? ⟨g, 1, none⟩ = some v1 ∧ w.cell? ⟨g, 2, none⟩ = some v2 ∧ w.cell? ⟨g, 3, none⟩ = some v3 ∧ w.cell? ⟨g, 4, none⟩ = some v4 ∧
    w.frozen? ⟨g, 0, none⟩ = false ∧ w.frozen? ⟨g, 1, none⟩ = false ∧ w.frozen? ⟨g, 2, none⟩ = false ∧ w.frozen? ⟨g, 3, none⟩ = false ∧ w.frozen? ⟨g, 4, none⟩ = false := by
  refine ⟨?_, ?_, ?_, ?_, ?_, ?_, ?_, ?_, ?_, ?_⟩
  all_goals (simp only [World.cell?, World.frozen?, h]; rfl)
theorem results_own (gt : Nat) (k t p q : Int) (x : Value) (tmps : Array Value) (w : World) (hp : tmps[2]?.getD undef = .pointer (some ⟨gt, 0, none⟩)) (hb : w.heap[gt]? = some (.cells #[.int .i64 k, .int .i64 t, .int .i64 p, .int .i64 q, x] 24 (0, 0))) :
    (results Tryz.f99 tmps).run Tryz.prog w = .ok (.agg #[.int .i64 k, .int .i64 t, .int .i64 p, .int .i64 q, x]) w := by
  obtain ⟨h0, h1, h2, h3, h4, -⟩ := blk5 hb
  simp [results, Tryz.results99, hp, h0, h1, h2, h3, h4, go_sem]
set_option maxHeartbeats 2000000 in
set_option maxRecDepth 100000 in
theorem own_calls (e : Ev) (x : Value) (w : World) (hx : SeesT w x e.term) (hl : e.term.length * 32 ≤ 140737488351232) :
    Calls Tryz.prog 99 #[evV e x] w fun r w' => ∃ A c, r = .returned (evV e (.slice A e.term.length c)) ∧ TermAt w.heap.size w' (.slice A e.term.length c) e.term ∧ Below w.heap.size w w' := by
  obtain ⟨W, hW⟩ : ∃ W, ((w.alloc (.cells #[.int .i64 e.kind, .int .i64 e.tick, .int .i64 e.pid, .int .i64 e.by_, x] 24)).alloc (.cells #[.int .i64 0, .int .i64 0, .int .i64 0, .int .i64 0, .slice none 0 0] 24)) = W := ⟨_, rfl⟩
  have hal1 := (Below.refl w.heap.size w).alloc (Nat.le_refl _) (.cells #[.int .i64 e.kind, .int .i64 e.tick, .int .i64 e.pid, .int .i64 e.by_, x] 24)
  have hb2 : Below w.heap.size w W := by rw [← hW]; exact hal1.alloc (by simp) _
  have hsz : W.heap.size = w.heap.size + 2 := by rw [← hW]; simp
  have hn2 : W.heap[w.heap.size + 1]? = some (.cells #[.int .i64 0, .int .i64 0, .int .i64 0, .int .i64 0, .slice none 0 0] 24 (0, 0)) := by
    rw [← hW]
    have := heap_alloc_new (w.alloc (.cells #[.int .i64 e.kind, .int .i64 e.tick, .int .i64 e.pid, .int .i64 e.by_, x] 24)) (.cells #[.int .i64 0, .int .i64 0, .int .i64 0, .int .i64 0, .slice none 0 0] 24)
    rwa [World.size_alloc] at this
  have hn1 : W.heap[w.heap.size]? = some (.cells #[.int .i64 e.kind, .int .i64 e.tick, .int .i64 e.pid, .int .i64 e.by_, x] 24 (0, 0)) := by
    rw [← hW]
    exact (Below.heap_alloc _ _ _ (by simp)).trans (heap_alloc_new _ _)
  have hcl := cloneT_calls x e.term W (hx.below hb2) hl
  obtain ⟨a0, a1, a2, a3, a4, z0, z1, z2, z3, z4⟩ := blk5 hn1
  have HCL := Lib.hid hcl; have HW := Lib.hid hW; have HB2 := Lib.hid hb2; have HS := Lib.hid hsz; have HN1 := Lib.hid hn1; have HN2 := Lib.hid hn2
  clear hcl hW hb2 hsz hal1 hn1 hn2 hx
  obtain ⟨k, q, p, b, l⟩ := e
  unfold evV
  dsimp only at *
  go_enter Tryz.func99, Tryz.ntmps99
  go_wp2_with fail
  rw [HW.out]
  go_wp2_with fail
  refine (HCL.out).mono ?_
  rintro r w3 ⟨A, c, rfl, ht, hb⟩
  clear a0 a1 a2 a3 a4 z0 z1 z2 z3 z4
  have m1 := (hb.block w.heap.size (by rw [HS.out]; omega)).trans HN1.out
  have m2 := (hb.block (w.heap.size + 1) (by rw [HS.out]; omega)).trans HN2.out
  obtain ⟨a0, a1, a2, a3, a4, z0, z1, z2, z3, z4⟩ := blk5 m1
  obtain ⟨b0, b1, b2, b3, b4, y0, y1, y2, y3, y4⟩ := blk5 m2
  have HT := Lib.hid ht; have HB := Lib.hid hb; have M2 := Lib.hid m2; clear ht hb m1 m2
  go_wp2_with fail
  refine bodyPost_ret (results_own (w.heap.size + 1) k q p b _ _ _ rfl (blk_set (blk_set (blk_set (blk_set (blk_set ((Below.heap_setCell _ _ _ _ (by show w.heap.size + 1 ≠ w.heap.size; omega)).trans M2.out) _) _) _) _) _)) rfl ?_
  have hsz := HS.out
  refine ⟨A, c, rfl, ?_, ?_⟩
  · refine (HT.out.mono (by omega)).keep fun ad n c' e hl => ?_
    have h1 := (HT.out.2 ad n c' e).1
    iterate 5 (refine (Below.heap_setCell _ _ _ _ (by show ad.block ≠ w.heap.size + 1; omega)).trans ?_)
    exact Below.heap_setCell _ _ _ _ (by show ad.block ≠ w.heap.size; omega)
  · exact ((((((HB2.out.trans (HB.out.mono HB2.out.size)).setCell (p := ⟨w.heap.size, 4, none⟩) (Nat.le_refl _) _).setCell (p := ⟨w.heap.size + 1, 0, none⟩) (Nat.le_succ _) _).setCell (p := ⟨w.heap.size + 1, 1, none⟩) (Nat.le_succ _) _).setCell (p := ⟨w.heap.size + 1, 2, none⟩) (Nat.le_succ _) _).setCell (p := ⟨w.heap.size + 1, 3, none⟩) (Nat.le_succ _) _).setCell (p := ⟨w.heap.size + 1, 4, none⟩) (Nat.le_succ _) _
end Go.Proofs.YtejpdfenejbjdaaGreatDoor
