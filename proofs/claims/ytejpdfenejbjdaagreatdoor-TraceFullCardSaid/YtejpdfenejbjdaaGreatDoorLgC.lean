/- Walks: trace: a log: new, how many, one more. -/
import Derived.Test.YtejpdfenejbjdaaGreatDoorLgB
namespace Go.Proofs.YtejpdfenejbjdaaGreatDoor
open Go.RowKit Txt
set_option linter.unusedVariables false
set_option linter.unusedSimpArgs false

/-- A log and its ring. -/
structure LogAt (w : World) (lb rb : Nat) (room lost : Int) (es : List (Ev × Value)) (A : Option Addr) (c : Nat) (G : Option Nat) : Prop where
  lg : w.heap[lb]? = some (.cells #[.pointer (some ⟨rb, 0, none⟩)] 96 (0, 0))
  ring : Ring w rb room lost es A c G
theorem LogAt.lt {w : World} {lb rb : Nat} {room lost : Int} {es : List (Ev × Value)} {A : Option Addr} {c : Nat} {G : Option Nat} (h : LogAt w lb rb room lost es A c G) : lb < w.heap.size := (Array.getElem?_eq_some_iff.1 h.lg).1
theorem LogAt.below {w w' : World} {lb rb : Nat} {room lost : Int} {es : List (Ev × Value)} {A : Option Addr} {c : Nat} {G : Option Nat} (h : LogAt w lb rb room lost es A c G) (hb : Below w.heap.size w w') : LogAt w' lb rb room lost es A c G :=
  ⟨(hb.block _ h.lt).trans h.lg, h.ring.below hb⟩
theorem LogAt.ne {w : World} {lb rb : Nat} {room lost : Int} {es : List (Ev × Value)} {A : Option Addr} {c : Nat} {G : Option Nat} (h : LogAt w lb rb room lost es A c G) : lb ≠ rb ∧ some lb ≠ G := by
  refine ⟨fun e => ?_, fun e => ?_⟩
  · have h1 := h.lg
    rw [e, h.ring.blk] at h1
    simp at h1
  · obtain ⟨-, cs, h1⟩ := h.ring.row.lt lb e.symm
    rw [h.lg] at h1
    simp at h1
theorem blk1 {w : World} {g : Nat} {v0 : Value} {T : TypeId} (h : w.heap[g]? = some (.cells #[v0] T (0, 0))) : w.cell? ⟨g, 0, none⟩ = some v0 ∧ w.frozen? ⟨g, 0, none⟩ = false := by
  refine ⟨?_, ?_⟩
  all_goals (simp only [World.cell?, World.frozen?, h]; rfl)
theorem logNew_calls (room : Int) (w : World) (h1 : 1 ≤ room) (h2 : room ≤ 4096) :
    Calls Tryz.prog 29 #[.int .i64 room] w fun e w' => ∃ lb rb, e = .returned (.pointer (some ⟨lb, 0, none⟩)) ∧ w.heap.size ≤ lb ∧ w.heap.size ≤ rb ∧ LogAt w' lb rb room 0 [] none 0 none ∧ Below w.heap.size w w' := by
  have d1 : decide (room < 1) = false := by simp; omega
  have d2 : decide (4096 < room) = false := by simp; omega
  go_enter Tryz.func29, Tryz.ntmps29
  go_wp2
  go_ret
  refine ⟨w.heap.size + 1, w.heap.size, rfl, by omega, by omega, ⟨?_, ?_, .inl ⟨rfl, rfl, rfl, rfl⟩⟩, ((Below.refl _ _).alloc (Nat.le_refl _) _).alloc (by simp) _⟩
  · have := heap_alloc_new (w.alloc (.cells #[.slice none 0 0, .int .i64 room, .int .i64 0] 94)) (.cells #[.pointer (some ⟨w.heap.size, 0, none⟩)] 96)
    rwa [World.size_alloc] at this
  · exact (Below.heap_alloc _ _ _ (by simp)).trans (heap_alloc_new _ _)
theorem kept_calls' (lb rb : Nat) (w : World) (h : w.cell? ⟨lb, 0, none⟩ = some (.pointer (some ⟨rb, 0, none⟩))) : Calls Tryz.prog 67 #[.pointer (some ⟨lb, 0, none⟩)] w fun e w' => e = .returned (.pointer (some ⟨rb, 0, none⟩)) ∧ w' = w := by
  go_enter Tryz.func67, Tryz.ntmps67
  go_wp2
  go_ret
  exact ⟨rfl, rfl⟩
theorem rlen_calls (rb : Nat) (A : Option Addr) (n c : Nat) (w : World) (h : w.cell? ⟨rb, 0, none⟩ = some (.slice A n c)) : Calls Tryz.prog 71 #[.pointer (some ⟨rb, 0, none⟩)] w fun e w' => e = .returned (.int .i64 n) ∧ w' = w := by
  go_enter Tryz.func71, Tryz.ntmps71
  go_wp2
  go_ret
  exact ⟨rfl, rfl⟩
theorem rlost_calls (rb : Nat) (n : Int) (w : World) (h : w.cell? ⟨rb, 2, none⟩ = some (.int .i64 n)) : Calls Tryz.prog 68 #[.pointer (some ⟨rb, 0, none⟩)] w fun e w' => e = .returned (.int .i64 n) ∧ w' = w := by
  go_enter Tryz.func68, Tryz.ntmps68
  go_wp2
  go_ret
  exact ⟨rfl, rfl⟩
theorem len_calls {w : World} {lb rb : Nat} {room lost : Int} {es : List (Ev × Value)} {A : Option Addr} {c : Nat} {G : Option Nat} (h : LogAt w lb rb room lost es A c G) : Calls Tryz.prog 35 #[.pointer (some ⟨lb, 0, none⟩)] w fun e w' => e = .returned (.int .i64 es.length) ∧ w' = w := by
  obtain ⟨r0, -, r2, -⟩ := blk3 h.ring.blk
  have hk := kept_calls' lb rb w (blk1 h.lg).1
  have hl := rlen_calls rb A es.length c w r0
  go_enter Tryz.func35, Tryz.ntmps35
  go_wp2_with fail
  refine hk.mono ?_
  rintro e w1 ⟨rfl, rfl⟩
  go_wp2_with fail
  refine hl.mono ?_
  rintro e w2 ⟨rfl, rfl⟩
  go_wp2
  go_ret
  exact ⟨rfl, rfl⟩
theorem lost_calls {w : World} {lb rb : Nat} {room lost : Int} {es : List (Ev × Value)} {A : Option Addr} {c : Nat} {G : Option Nat} (h : LogAt w lb rb room lost es A c G) : Calls Tryz.prog 32 #[.pointer (some ⟨lb, 0, none⟩)] w fun e w' => e = .returned (.int .i64 lost) ∧ w' = w := by
  obtain ⟨r0, -, r2, -⟩ := blk3 h.ring.blk
  have hk := kept_calls' lb rb w (blk1 h.lg).1
  have hl := rlost_calls rb lost w r2
  go_enter Tryz.func32, Tryz.ntmps32
  go_wp2_with fail
  refine hk.mono ?_
  rintro e w1 ⟨rfl, rfl⟩
  go_wp2_with fail
  refine hl.mono ?_
  rintro e w2 ⟨rfl, rfl⟩
  go_wp2
  go_ret
  exact ⟨rfl, rfl⟩
def countB (n m : Int) : Int := if (Int.tmod n m) < 0 then Int.tmod n m + m else Int.tmod n m
theorem rcount_calls (n m : Int) (w : World) (hm : 0 < m) (hm2 : m ≤ 1000) : Calls Tryz.prog 28 #[.int .i64 n, .int .i64 m] w fun e w' => e = .returned (.int .i64 (countB n m)) ∧ w' = w := by
  unfold countB
  have h0 : (m == 0) = false := by simp; omega
  have h1 := Int.tmod_lt_of_pos n hm
  have h2 := Int.lt_tmod_of_pos n hm
  by_cases hn : Int.tmod n m < 0
  · have hd : decide (Int.tmod n m < 0) = true := by simpa using hn
    rw [if_pos hn]
    generalize hT : Int.tmod n m = T at *
    go_enter Tryz.func28, Tryz.ntmps28
    go_wp2
    go_ret
    exact ⟨rfl, rfl⟩
  · have hd : decide (Int.tmod n m < 0) = false := by simpa using hn
    rw [if_neg hn]
    generalize hT : Int.tmod n m = T at *
    go_enter Tryz.func28, Tryz.ntmps28
    go_wp2
    go_ret
    exact ⟨rfl, rfl⟩

/-- One more in a log. -/
def LAdd (w : World) (lb rb : Nat) (room lost : Int) (es : List (Ev × Value)) (G : Option Nat) (e : Ev) (w' : World) : Prop :=
  ∃ u w1 A c G', TermAt w.heap.size w1 u e.term ∧ Below w.heap.size w w1 ∧ LogAt w' lb rb room (lostOf room lost es) (push room es (e, u)) A c G' ∧ Chg w1 w' rb G ∧ (G' = G ∨ ∃ g, G' = some g ∧ w1.heap.size ≤ g)
set_option maxHeartbeats 2000000 in
set_option maxRecDepth 100000 in
theorem ladd_calls (lb rb : Nat) (room lost : Int) (es : List (Ev × Value)) (A : Option Addr) (c : Nat) (G : Option Nat) (e : Ev) (x : Value) (w : World) (hL : LogAt w lb rb room lost es A c G) (hx : SeesT w x e.term) (hl : e.term.length * 32 ≤ 140737488351232)
    (hr1 : 1 ≤ room) (hr2 : room ≤ 4096) (hes : (es.length : Int) ≤ room) (hl0 : 0 ≤ lost) (hl1 : lost < 4611686018427387904) (hto : TextsOk e.term) (ht : Tabs w) (hr : evRight e = 0) :
    Calls Tryz.prog 30 #[.pointer (some ⟨lb, 0, none⟩), evV e x] w fun r w' => r = .returned (.int .i64 0) ∧ LAdd w lb rb room lost es G e w' := by
  obtain ⟨W, hW⟩ : ∃ W, w.alloc (.cells #[.int .i64 e.kind, .int .i64 e.tick, .int .i64 e.pid, .int .i64 e.by_, x] 24) = W := ⟨_, rfl⟩
  have hb1 : Below w.heap.size w W := by rw [← hW]; exact (Below.refl w.heap.size w).alloc (Nat.le_refl _) _
  have hsz : W.heap.size = w.heap.size + 1 := by rw [← hW]; simp
  have hn1 : W.heap[w.heap.size]? = some (.cells #[.int .i64 e.kind, .int .i64 e.tick, .int .i64 e.pid, .int .i64 e.by_, x] 24 (0, 0)) := by rw [← hW]; exact heap_alloc_new _ _
  have hright := tright_calls e x W (hx.below hb1) hto (ht.below hb1)
  rw [hr] at hright
  have hadd := fun W' (h : Below W.heap.size W W') => radd_calls rb room lost es A c G e x W' ((hL.below hb1).ring.below h) (hx.below (hb1.trans (h.mono hb1.size))) hl hr1 hr2 hes hl0 hl1
  obtain ⟨a0, a1, a2, a3, a4, -⟩ := blk5 hn1
  have HR := Lib.hid hright; have HADD := Lib.hid hadd; have HW := Lib.hid hW; have HS := Lib.hid hsz; have HB1 := Lib.hid hb1; have HN1 := Lib.hid hn1; have HL := Lib.hid (hL.below hb1); have HNE := Lib.hid hL.ne
  have HLT := Lib.hid (And.intro hL.lt (And.intro (Array.getElem?_eq_some_iff.1 hL.ring.blk).1 fun g hg => (hL.ring.row.lt g hg).1))
  clear hright hadd hW hsz hb1 hn1 hL hr hx
  obtain ⟨k, q, p, b, l⟩ := e
  unfold evV at *
  dsimp only at *
  go_enter Tryz.func30, Tryz.ntmps30
  go_wp2_with fail
  rw [HW.out]
  go_wp2_with fail
  refine (HR.out).mono ?_
  rintro r w2 ⟨rfl, hb⟩
  clear a0 a1 a2 a3 a4
  have hb0 : Below W.heap.size W w2.drew := hb.drew
  have hl2 := (blk1 ((HL.out.below hb0).lg)).1
  have m1 := (hb0.block w.heap.size (by rw [HS.out]; omega)).trans HN1.out
  obtain ⟨a0, a1, a2, a3, a4, -⟩ := blk5 m1
  have hl2' : w2.cell? ⟨lb, 0, none⟩ = some (.pointer (some ⟨rb, 0, none⟩)) := hl2
  clear m1 hb
  go_wp2_with fail
  go_region_law (first
        | (go_simp; go_at_call 65; refine (HADD.out _ hb0).mono ?_; rintro r w3 ⟨rfl, hra⟩; have HRA := Lib.hid hra; clear hra))
  all_goals
    clear a0 a1 a2 a3 a4 hl2 hl2'
    go_wp2
    go_ret
    obtain ⟨u, w1, A', c', G', h1, h2, h3, h4, h5⟩ := HRA.out
    have hz0 := hb0.size
    have hz1 := h2.size
    have hsz := HS.out
    have hlt := HLT.out.1
    have hb2 : Below w.heap.size w w1 := (HB1.out.trans (hb0.mono (by omega))).trans (h2.mono (by omega))
    exact ⟨rfl, u, w1, A', c', G', h1.mono (by omega), hb2, ⟨(h4.block lb (by omega) HNE.out.1 HNE.out.2).trans ((h2.block lb (by omega)).trans (HL.out.below hb0).lg), h3⟩, h4, h5⟩
end Go.Proofs.YtejpdfenejbjdaaGreatDoor
