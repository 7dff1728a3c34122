/- Walks: trace: one more in the ring. -/
import Derived.Test.YtejpdfenejbjdaaGreatDoorLgA
namespace Go.Proofs.YtejpdfenejbjdaaGreatDoor
open Go.RowKit Txt
set_option linter.unusedVariables false
set_option linter.unusedSimpArgs false

/-- Events in a slice, in a block that may begin ahead of them. -/
def RowE (w : World) (A : Option Addr) (es : List (Ev × Value)) (c : Nat) (G : Option Nat) : Prop :=
  (A = none ∧ es = [] ∧ c = 0 ∧ G = none) ∨
  ∃ g off cs, A = some ⟨g, off, none⟩ ∧ G = some g ∧ w.heap[g]? = some (.cells cs 24 (0, 0)) ∧ es.length ≤ c ∧ off + c * 5 ≤ cs.size ∧ ∀ j u, (ecs es)[j]? = some u → cs[off + j]? = some u
theorem RowE.keep {w w' : World} {A : Option Addr} {es : List (Ev × Value)} {c : Nat} {G : Option Nat} (h : RowE w A es c G) (hk : ∀ g, G = some g → w'.heap[g]? = w.heap[g]?) : RowE w' A es c G := by
  rcases h with h | ⟨g, off, cs, h1, h2, h3, h4⟩
  · exact .inl h
  · exact .inr ⟨g, off, cs, h1, h2, (hk g h2).trans h3, h4⟩
theorem RowE.lt {w : World} {A : Option Addr} {es : List (Ev × Value)} {c : Nat} {G : Option Nat} (h : RowE w A es c G) : ∀ g, G = some g → g < w.heap.size ∧ ∃ cs, w.heap[g]? = some (.cells cs 24 (0, 0)) := by
  intro g hg
  rcases h with ⟨-, -, -, h⟩ | ⟨g', off, cs, h1, h2, h3, h4⟩
  · rw [h] at hg; cases hg
  · rw [h2] at hg; cases hg; exact ⟨(Array.getElem?_eq_some_iff.1 h3).1, _, h3⟩
theorem RowE.tail {w : World} {A : Option Addr} {p : Ev × Value} {es : List (Ev × Value)} {c : Nat} {G : Option Nat} (h : RowE w A (p :: es) c G) : ∃ g off, A = some ⟨g, off, none⟩ ∧ 1 ≤ c ∧ RowE w (some ⟨g, off + 5, none⟩) es (c - 1) G := by
  rcases h with ⟨-, h, -⟩ | ⟨g, off, cs, h1, h2, h3, h4, h5, h6⟩
  · cases h
  · simp only [List.length_cons] at h4
    refine ⟨g, off, h1, by omega, .inr ⟨g, off + 5, cs, rfl, h2, h3, by omega, by omega, fun j u hj => ?_⟩⟩
    have e : ecs (p :: es) = ec p.1 p.2 ++ ecs es := by simp [ecs]
    have := h6 (5 + j) u (by rw [e, List.getElem?_append_right (by simp [ec])]; simpa [ec] using hj)
    rw [show off + 5 + j = off + (5 + j) by omega]; exact this
theorem row_room {w : World} {g off c : Nat} {es : List (Ev × Value)} {cs : Array Value} (e : Ev) (u : Value) (h3 : w.heap[g]? = some (.cells cs 24 (0, 0))) (h5 : off + c * 5 ≤ cs.size) (h6 : ∀ j u, (ecs es)[j]? = some u → cs[off + j]? = some u) (hr : es.length + 1 ≤ c) :
    RowE (w.setCells g (off + es.length * 5) (ec e u)) (some ⟨g, off, none⟩) (es ++ [(e, u)]) c (some g) := by
  refine .inr ⟨g, off, _, rfl, rfl, by simp only [ec, World.setCells]; exact blk_set (blk_set (blk_set (blk_set (blk_set h3 _) _) _) _) _, by simpa using hr, by simpa using h5, fun j v hj => ?_⟩
  have hjl : j < (es.length + 1) * 5 := by
    have := (List.getElem?_eq_some_iff.1 hj).1
    rwa [ecs_length, List.length_append] at this
  rw [ecs_append] at hj
  rcases Nat.lt_or_ge j (es.length * 5) with h | h
  · rw [List.getElem?_append_left (by rw [ecs_length]; exact h)] at hj
    have := h6 j v hj
    rw [Array.getElem?_setIfInBounds_ne (by omega), Array.getElem?_setIfInBounds_ne (by omega), Array.getElem?_setIfInBounds_ne (by omega), Array.getElem?_setIfInBounds_ne (by omega), Array.getElem?_setIfInBounds_ne (by omega)]
    exact this
  · rw [List.getElem?_append_right (by rw [ecs_length]; exact h), ecs_length] at hj
    obtain ⟨i, rfl⟩ : ∃ i, j = es.length * 5 + i := ⟨j - es.length * 5, by omega⟩
    rw [Nat.add_sub_cancel_left] at hj
    have hi : i < 5 := by omega
    have hb : off + es.length * 5 + 5 ≤ cs.size := by omega
    match i, hi, hj with
    | 0, _, hj => simp [ecs, ec] at hj; subst hj; simp [Array.getElem?_setIfInBounds, ← Nat.add_assoc]; (repeat' split) <;> first | rfl | (exfalso; omega)
    | 1, _, hj => simp [ecs, ec] at hj; subst hj; simp [Array.getElem?_setIfInBounds, ← Nat.add_assoc]; (repeat' split) <;> first | rfl | (exfalso; omega)
    | 2, _, hj => simp [ecs, ec] at hj; subst hj; simp [Array.getElem?_setIfInBounds, ← Nat.add_assoc]; (repeat' split) <;> first | rfl | (exfalso; omega)
    | 3, _, hj => simp [ecs, ec] at hj; subst hj; simp [Array.getElem?_setIfInBounds, ← Nat.add_assoc]; omega
    | 4, _, hj => simp [ecs, ec] at hj; subst hj; simp [Array.getElem?_setIfInBounds, ← Nat.add_assoc]; omega
theorem row_new {w : World} {base : Nat} {v : Value} {es : List (Ev × Value)} {e : Ev} {u : Value} (h : w.ownsRow base 24 5 v (es.length + 1) (ecs es ++ ec e u)) :
    ∃ g cap, v = .slice (some ⟨g, 0, none⟩) (es.length + 1) cap ∧ base ≤ g ∧ RowE w (some ⟨g, 0, none⟩) (es ++ [(e, u)]) cap (some g) := by
  obtain ⟨-, ⟨-, h0⟩ | ⟨g, cap, cur, rfl, hb, hg, hc, -, hs, ht⟩⟩ := h
  · omega
  · refine ⟨g, cap, rfl, hb, .inr ⟨g, 0, cur, rfl, rfl, hg, by simpa using hc, by omega, fun j x hj => ?_⟩⟩
    have e1 : ecs (es ++ [(e, u)]) = ecs es ++ ec e u := by simp [ecs]
    rw [e1, ← ht, List.getElem?_take] at hj
    split at hj
    · simpa using hj
    · cases hj

/-- The ring: the last events, how many it has room for, how many were lost. -/
structure Ring (w : World) (rb : Nat) (room lost : Int) (es : List (Ev × Value)) (A : Option Addr) (c : Nat) (G : Option Nat) : Prop where
  blk : w.heap[rb]? = some (.cells #[.slice A es.length c, .int .i64 room, .int .i64 lost] 94 (0, 0))
  row : RowE w A es c G
theorem Ring.keep {w w' : World} {rb : Nat} {room lost : Int} {es : List (Ev × Value)} {A : Option Addr} {c : Nat} {G : Option Nat} (h : Ring w rb room lost es A c G) (hr : w'.heap[rb]? = w.heap[rb]?) (hg : ∀ g, G = some g → w'.heap[g]? = w.heap[g]?) : Ring w' rb room lost es A c G :=
  ⟨hr.trans h.blk, h.row.keep hg⟩
theorem Ring.below {w w' : World} {rb : Nat} {room lost : Int} {es : List (Ev × Value)} {A : Option Addr} {c : Nat} {G : Option Nat} (h : Ring w rb room lost es A c G) (hb : Below w.heap.size w w') : Ring w' rb room lost es A c G :=
  h.keep (hb.block _ (Array.getElem?_eq_some_iff.1 h.blk).1) fun g hg => hb.block _ (h.row.lt g hg).1
theorem Ring.ne {w : World} {rb : Nat} {room lost : Int} {es : List (Ev × Value)} {A : Option Addr} {c : Nat} {G : Option Nat} (h : Ring w rb room lost es A c G) : G ≠ some rb := fun e => by
  obtain ⟨-, cs, h1⟩ := h.row.lt rb e
  rw [h.blk] at h1
  simp at h1
theorem blk3 {w : World} {g : Nat} {v0 v1 v2 : Value} {T : TypeId} (h : w.heap[g]? = some (.cells #[v0, v1, v2] T (0, 0))) :
    w.cell? ⟨g, 0, none⟩ = some v0 ∧ w.cell? ⟨g, 1, none⟩ = some v1 ∧ w.cell? ⟨g, 2, none⟩ = some v2 ∧ w.frozen? ⟨g, 0, none⟩ = false ∧ w.frozen? ⟨g, 1, none⟩ = false ∧ w.frozen? ⟨g, 2, none⟩ = false := by
  refine ⟨?_, ?_, ?_, ?_, ?_, ?_⟩
  all_goals (simp only [World.cell?, World.frozen?, h]; rfl)

/-- What may have changed: two blocks, and what is new. -/
structure Chg (w w' : World) (rb : Nat) (G : Option Nat) : Prop where
  os : w'.os = w.os
  tape : w'.tape = w.tape
  output : w'.output = w.output
  size : w.heap.size ≤ w'.heap.size
  block : ∀ k, k < w.heap.size → k ≠ rb → some k ≠ G → w'.heap[k]? = w.heap[k]?
theorem Chg.refl (w : World) (rb : Nat) (G : Option Nat) : Chg w w rb G := ⟨rfl, rfl, rfl, Nat.le_refl _, fun _ _ _ _ => rfl⟩
theorem Chg.set {w w' : World} {rb : Nat} {G : Option Nat} (h : Chg w w' rb G) (i : Nat) (v : Value) : Chg w (w'.setCell ⟨rb, i, none⟩ v) rb G :=
  ⟨h.os, h.tape, h.output, by have := h.size; simpa [World.setCell] using this, fun k hk h1 h2 => (Below.heap_setCell _ _ _ _ h1).trans (h.block k hk h1 h2)⟩
theorem Chg.setG {w w' : World} {rb g : Nat} (h : Chg w w' rb (some g)) (i : Nat) (v : Value) : Chg w (w'.setCell ⟨g, i, none⟩ v) rb (some g) :=
  ⟨h.os, h.tape, h.output, by have := h.size; simpa [World.setCell] using this, fun k hk h1 h2 => (Below.heap_setCell _ _ _ _ (fun e => h2 (by rw [e]))).trans (h.block k hk h1 h2)⟩
theorem Chg.alloc {w w' : World} {rb : Nat} {G : Option Nat} (h : Chg w w' rb G) (o : Obj) : Chg w (w'.alloc o) rb G :=
  ⟨h.os, h.tape, h.output, by have := h.size; simp; omega, fun k hk h1 h2 => (Below.heap_alloc _ _ _ (by have := h.size; omega)).trans (h.block k hk h1 h2)⟩
theorem Chg.drew {w w' : World} {rb : Nat} {G : Option Nat} (h : Chg w w' rb G) : Chg w w'.drew rb G := ⟨h.os, h.tape, h.output, h.size, h.block⟩
theorem Chg.grew {w w' w2 : World} {rb : Nat} {G : Option Nat} (h : Chg w w' rb G) (hg : w'.grownBy w2 none) : Chg w w2 rb G :=
  ⟨hg.os.trans h.os, hg.tape.trans h.tape, hg.output.trans h.output, Nat.le_trans h.size hg.size, fun k hk h1 h2 => (hg.block k (Nat.lt_of_lt_of_le hk h.size) (by simp)).trans (h.block k hk h1 h2)⟩

/-- Behind the first statement. -/
structure Added (w1 w' : World) (rb : Nat) (room lost : Int) (es : List (Ev × Value)) (G : Option Nat) (p : Ev × Value) (A : Option Addr) (c : Nat) (G' : Option Nat) : Prop where
  ring : Ring w' rb room lost (es ++ [p]) A c G'
  chg : Chg w1 w' rb G
  own : G' = G ∨ ∃ g, G' = some g ∧ w1.heap.size ≤ g

theorem Added.at {w1 w' : World} {rb : Nat} {room lost : Int} {es : List (Ev × Value)} {G : Option Nat} {p : Ev × Value} {A : Option Addr} {c : Nat} {G' : Option Nat} (h : Added w1 w' rb room lost es G p A c G') : ∃ g o, A = some ⟨g, o, none⟩ ∧ es.length + 1 ≤ c := by
  rcases h.ring.row with ⟨-, e, -⟩ | ⟨g, off, cs, h1, h2, h3, h4, -⟩
  · simp at e
  · exact ⟨g, off, h1, by simpa using h4⟩
theorem Added.over {w1 w' : World} {rb : Nat} {room lost : Int} {es : List (Ev × Value)} {G : Option Nat} {p : Ev × Value} {g o c : Nat} {G' : Option Nat} (h : Added w1 w' rb room lost es G p (some ⟨g, o, none⟩) c G') :
    Ring ((w'.setCell ⟨rb, 0, none⟩ (.slice (some ⟨g, o + 5, none⟩) es.length (c - 1))).setCell ⟨rb, 2, none⟩ (.int .i64 (lost + 1))) rb room (lost + 1) (es ++ [p]).tail (some ⟨g, o + 5, none⟩) (c - 1) G' := by
  obtain ⟨q, rest, hq⟩ : ∃ q rest, es ++ [p] = q :: rest := by cases es <;> simp
  have hl : rest.length = es.length := by have := congrArg List.length hq; simpa using this.symm
  have hr := h.ring
  rw [hq] at hr ⊢
  obtain ⟨g', o', e, -, h2⟩ := hr.row.tail
  cases e
  refine ⟨?_, h2.keep fun g' hg' => ?_⟩
  · have h3 := blk_set (i := 2) (blk_set (i := 0) hr.blk (.slice (some ⟨g, o + 5, none⟩) es.length (c - 1))) (.int .i64 (lost + 1))
    rw [List.tail_cons, hl]
    simpa using h3
  · have hne : g' ≠ rb := fun e => hr.ne (by rw [hg', e])
    exact (Below.heap_setCell _ _ _ _ hne).trans (Below.heap_setCell _ _ _ _ hne)

/-- The ring's block, the event's box. -/
structure KS (rb b0 : Nat) (rc ev : Obj) (w : World) : Prop where
  a : w.heap[rb]? = some rc
  b : w.heap[b0]? = some ev
theorem blk_add {w : World} {a : Addr} {cs : Array Value} {T : TypeId} (hs : a.spot = none) (h : w.heap[a.block]? = some (.cells cs T (0, 0))) (j : Nat) (u : Value) (hu : cs[a.off + j]? = some u) : w.cell? (a.add j) = some u := by
  obtain ⟨b, o, s⟩ := a
  dsimp only at hs h hu
  subst hs
  unfold Addr.add
  split
  · subst_vars; simp only [World.cell?, h]; simpa using hu
  · simp only [World.cell?, h]; simpa using hu
def push (room : Int) (es : List (Ev × Value)) (p : Ev × Value) : List (Ev × Value) := if room < (es.length : Int) + 1 then (es ++ [p]).tail else es ++ [p]
def lostOf (room lost : Int) (es : List (Ev × Value)) : Int := if room < (es.length : Int) + 1 then lost + 1 else lost
/-- One more was added. -/
def RAdd (w : World) (rb : Nat) (room lost : Int) (es : List (Ev × Value)) (G : Option Nat) (e : Ev) (w' : World) : Prop :=
  ∃ u w1 A c G', TermAt w.heap.size w1 u e.term ∧ Below w.heap.size w w1 ∧ Ring w' rb room (lostOf room lost es) (push room es (e, u)) A c G' ∧ Chg w1 w' rb G ∧ (G' = G ∨ ∃ g, G' = some g ∧ w1.heap.size ≤ g)

set_option maxHeartbeats 4000000 in
set_option maxRecDepth 100000 in
theorem radd_calls (rb : Nat) (room lost : Int) (es : List (Ev × Value)) (A : Option Addr) (c : Nat) (G : Option Nat) (e : Ev) (x : Value) (w : World) (hR : Ring w rb room lost es A c G) (hx : SeesT w x e.term) (hl : e.term.length * 32 ≤ 140737488351232)
    (hr1 : 1 ≤ room) (hr2 : room ≤ 4096) (hes : (es.length : Int) ≤ room) (hl0 : 0 ≤ lost) (hl1 : lost < 4611686018427387904) :
    Calls Tryz.prog 65 #[.pointer (some ⟨rb, 0, none⟩), evV e x] w fun r w' => r = .returned (.tuple #[]) ∧ RAdd w rb room lost es G e w' := by
  obtain ⟨i0, hi, hz0, hz1, hz2⟩ := info_parts info_ev
  obtain ⟨W, hW⟩ : ∃ W, w.alloc (.cells #[.int .i64 e.kind, .int .i64 e.tick, .int .i64 e.pid, .int .i64 e.by_, x] 24) = W := ⟨_, rfl⟩
  have hb1 : Below w.heap.size w W := by rw [← hW]; exact (Below.refl w.heap.size w).alloc (Nat.le_refl _) _
  have hsz : W.heap.size = w.heap.size + 1 := by rw [← hW]; simp
  have hn1 : W.heap[w.heap.size]? = some (.cells #[.int .i64 e.kind, .int .i64 e.tick, .int .i64 e.pid, .int .i64 e.by_, x] 24 (0, 0)) := by rw [← hW]; exact heap_alloc_new _ _
  have hRW := hR.below hb1
  have hown := fun W' (h : Below W.heap.size W W') => own_calls e x W' (hx.below (hb1.trans (h.mono hb1.size))) hl
  have hrlt : rb < w.heap.size := (Array.getElem?_eq_some_iff.1 hR.blk).1
  have hks : ∀ W', Below W.heap.size W W' → KS rb w.heap.size (.cells #[.slice A es.length c, .int .i64 room, .int .i64 lost] 94 (0, 0)) (.cells #[.int .i64 e.kind, .int .i64 e.tick, .int .i64 e.pid, .int .i64 e.by_, x] 24 (0, 0)) W' :=
    fun W' h => ⟨(h.block _ (by omega)).trans hRW.blk, (h.block _ (by omega)).trans hn1⟩
  have hst : ∀ W', KS rb w.heap.size (.cells #[.slice A es.length c, .int .i64 room, .int .i64 lost] 94 (0, 0)) (.cells #[.int .i64 e.kind, .int .i64 e.tick, .int .i64 e.pid, .int .i64 e.by_, x] 24 (0, 0)) W' →
      W'.cell? ⟨rb, 0, none⟩ = some (.slice A es.length c) ∧ W'.frozen? ⟨rb, 0, none⟩ = false ∧ W'.cell? ⟨w.heap.size, 0, none⟩ = some (.int .i64 e.kind) ∧ W'.cell? ⟨w.heap.size, 1, none⟩ = some (.int .i64 e.tick) ∧ W'.cell? ⟨w.heap.size, 2, none⟩ = some (.int .i64 e.pid) ∧ W'.cell? ⟨w.heap.size, 3, none⟩ = some (.int .i64 e.by_) ∧ W'.cell? ⟨w.heap.size, 4, none⟩ = some x ∧
      KS rb w.heap.size (.cells #[.slice A es.length c, .int .i64 room, .int .i64 lost] 94 (0, 0)) (.cells #[.int .i64 e.kind, .int .i64 e.tick, .int .i64 e.pid, .int .i64 e.by_, x] 24 (0, 0)) W' := by
    intro W' h
    obtain ⟨r0, -, -, y0, -, -⟩ := blk3 h.a
    obtain ⟨a0, a1, a2, a3, a4, -⟩ := blk5 h.b
    exact ⟨r0, y0, a0, a1, a2, a3, a4, h⟩
  have HST := Lib.hid hst; have HKS := Lib.hid hks; have HOWN := Lib.hid hown; have HW := Lib.hid hW; have HS := Lib.hid hsz; have HB1 := Lib.hid hb1; have HRW := Lib.hid hRW; have HRL := Lib.hid hrlt
  have hlen : es.length + 1 ≤ 4097 := by omega
  have HNE := Lib.hid hR.ne
  have HLT := Lib.hid fun g hg => (hR.row.lt g hg).1
  clear hst hks hown hW hsz hb1 hRW hR hn1 hx hrlt
  obtain ⟨k, q, p, b, l⟩ := e
  unfold evV at *
  dsimp only at *
  go_enter Tryz.func65, Tryz.ntmps65
  go_wp2_with fail
  rw [HW.out]
  have hb0 : Below W.heap.size W W.drew := (Below.refl _ _).drew
  rcases (show (∃ g off cs, A = some ⟨g, off, none⟩ ∧ G = some g ∧ W.heap[g]? = some (.cells cs 24 (0, 0)) ∧ off + c * 5 ≤ cs.size ∧ (∀ j u, (ecs es)[j]? = some u → cs[off + j]? = some u) ∧ es.length + 1 ≤ c) ∨ c < es.length + 1 by
    rcases HRW.out.row with ⟨-, -, rfl, -⟩ | ⟨g, off, cs, h1, h2, h3, h4, h5, h6⟩
    · right; omega
    · rcases Nat.lt_or_ge c (es.length + 1) with h | h
      · exact .inr h
      · exact .inl ⟨g, off, cs, h1, h2, h3, h5, h6, h⟩) with ⟨g, off, cs, rfl, rfl, h3, h5, h6, hroom⟩ | hfull
  · have hgl : g < w.heap.size := HLT.out g rfl
    have hgr : g ≠ rb := fun h => HNE.out (by rw [h])
    have hsp : ∀ W' o, Below W.heap.size W W' → ∀ j, j < (5 : Nat) → ((W'.alloc o).cell? ⟨g, off + es.length * 5 + j, none⟩).isSome = true ∧ (W'.alloc o).frozen? ⟨g, off + es.length * 5 + j, none⟩ = false := by
      intro W' o h j hj
      have hsz := HS.out
      have hk : (W'.alloc o).heap[g]? = some (.cells cs 24 (0, 0)) := (Below.heap_alloc _ _ _ (by have := h.size; omega)).trans ((h.block g (by omega)).trans h3)
      simp only [World.cell?, World.frozen?, hk]
      refine ⟨?_, rfl⟩
      simp; omega
    have h6k : ∀ W' o (v : Value), Below W.heap.size W W' → KS rb w.heap.size (.cells #[.slice (some ⟨g, off, none⟩) es.length c, .int .i64 room, .int .i64 lost] 94 (0, 0)) (.cells #[.int .i64 k, .int .i64 q, .int .i64 p, .int .i64 b, x] 24 (0, 0)) ((W'.alloc o).setCells g (off + es.length * 5) (ec ⟨k, q, p, b, l⟩ v)) := by
      intro W' o v h
      have hsz := HS.out
      have hsz' := h.size
      have hk := HKS.out W' h
      have hrl := HRL.out
      simp only [ec, World.setCells]
      refine ⟨?_, ?_⟩
      · iterate 5 (refine (Below.heap_setCell _ _ _ _ (by show rb ≠ g; omega)).trans ?_)
        exact (Below.heap_alloc _ _ _ (by omega)).trans hk.a
      · iterate 5 (refine (Below.heap_setCell _ _ _ _ (by show w.heap.size ≠ g; omega)).trans ?_)
        exact (Below.heap_alloc _ _ _ (by omega)).trans hk.b
    have hadd : ∀ (w1 W6 : World) (o : Obj) (v : Value), Below W.heap.size W w1 → (w1.alloc o).setCells g (off + es.length * 5) (ec ⟨k, q, p, b, l⟩ v) = W6 → Added w1 (W6.setCell ⟨rb, 0, none⟩ (.slice (some ⟨g, off, none⟩) (es.length + 1) c)) rb room lost es (some g) (⟨k, q, p, b, l⟩, v) (some ⟨g, off, none⟩) c (some g) := by
      rintro w1 W6 o v h rfl
      have hsz := HS.out
      have hsz' := h.size
      have hk := (h6k w1 o v h).a
      have hg1 : (w1.alloc o).heap[g]? = some (.cells cs 24 (0, 0)) := (Below.heap_alloc _ _ _ (by omega)).trans ((h.block g (by omega)).trans h3)
      refine ⟨⟨?_, (row_room ⟨k, q, p, b, l⟩ v hg1 h5 h6 hroom).keep fun g' hg' => ?_⟩, ?_, .inl rfl⟩
      · have := blk_set (i := 0) hk (.slice (some ⟨g, off, none⟩) (es.length + 1) c)
        simpa using this
      · cases hg'; exact Below.heap_setCell _ _ _ _ (by show g ≠ rb; exact hgr)
      · simp only [ec, World.setCells]
        exact (((((((Chg.refl w1 rb (some g)).alloc o).setG _ _).setG _ _).setG _ _).setG _ _).setG _ _).set _ _
    have HADD := Lib.hid hadd
    have HSP := Lib.hid hsp; have H6K := Lib.hid h6k; clear hsp h6k hadd
    obtain ⟨r0, y0, a0, a1, a2, a3, a4, -⟩ := HST.out _ (HKS.out _ hb0)
    go_region_law (first
        | (go_simp; go_at_call 99; refine (HOWN.out _ hb0).mono ?_; rintro r w1 ⟨A1, c1, rfl, ht1, hb1⟩; have hq1 := hb0.trans (hb1.mono hb0.size); have HT1 := Lib.hid (And.intro ht1 hb1); have HKW := HKS.out _ hq1; have r1 := (HST.out _ HKW).1; have r2 : ∀ o, (w1.alloc o).cell? ⟨rb, 0, none⟩ = _ := fun o => (HST.out _ (HKS.out _ (hq1.alloc hq1.size o))).1; clear hb1 ht1 HKW)
        | (refine step_append_room rfl (.tmp 8) (.tmp 11) 25 rfl 24 i0 5 Tryz.underlying25 hi hz1 g off es.length c (by simp [Act.eval, Act.put]) ⟨w1.heap.size, 0, none⟩ 1 1 (ec ⟨k, q, p, b, l⟩ (.slice A1 l.length c1)) (by simp [Act.eval, Act.put]) rfl (new_list w1 (ec ⟨k, q, p, b, l⟩ (.slice A1 l.length c1)) _ _ rfl) (ec_oneCell _ _ _ _) hroom (HSP.out _ _ hq1) ?_; obtain ⟨W6, hW6⟩ : ∃ W6, (w1.alloc (.cells #[.int .i64 k, .int .i64 q, .int .i64 p, .int .i64 b, .slice A1 l.length c1] 24)).setCells g (off + es.length * 5) (ec ⟨k, q, p, b, l⟩ (.slice A1 l.length c1)) = W6 := ⟨_, rfl⟩; have hk6 := H6K.out w1 (.cells #[.int .i64 k, .int .i64 q, .int .i64 p, .int .i64 b, .slice A1 l.length c1] 24) (.slice A1 l.length c1) hq1; rw [hW6] at hk6 ⊢; have HW6 := Lib.hid hW6; clear hW6 r1 r2; obtain ⟨r1, y1, -⟩ := HST.out _ hk6))
    all_goals
      have hadd := HADD.out _ _ _ _ hq1 HW6.out
      clear HW6 hq1 hb0 r0 y0 a0 a1 a2 a3 a4 r1 y1 hk6 h3 h5 h6 hroom hgl hgr
      generalize W6.setCell ⟨rb, 0, none⟩ (.slice (some ⟨g, off, none⟩) (es.length + 1) c) = w7 at *
      clear HADD HSP H6K HST HKS HOWN HW HNE HLT HRW
      have HA := Lib.hid hadd; clear hadd
      obtain ⟨g7, o7, e7, hc7⟩ := HA.out.at
      cases e7
      have hsz := HS.out
      have HT2 := Lib.hid (And.intro (HT1.out.1.mono (by show w.heap.size ≤ W.heap.size; omega) : TermAt w.heap.size w1 _ _) (HB1.out.drew.trans (HT1.out.2.mono (by show w.heap.size ≤ W.heap.size; omega)))); clear HT1 HB1 HS hsz
      obtain ⟨r0, r1, r2, y0, y1, y2⟩ := blk3 HA.out.ring.blk
      rw [List.length_append, List.length_singleton] at r0
      by_cases hov : room < (es.length : Int) + 1
      · have d1 : decide (room < (es.length : Int) + 1) = true := by simpa using hov
        have d2 : ¬ c = 1 := by omega
        have HOV := Lib.hid hov; clear hov
        go_wp2_with fail
        go_region
        all_goals
          go_wp2
          go_end0
          refine ⟨rfl, ?_⟩
          simp only [RAdd, push, lostOf, if_pos HOV.out]
          exact ⟨_, w1, _, _, _, HT2.out.1, HT2.out.2, HA.out.over.keep rfl (fun _ _ => rfl), ((HA.out.chg.set _ _).set _ _).drew, HA.out.own⟩
      · have d1 : decide (room < (es.length : Int) + 1) = false := by simpa using hov
        have HOV := Lib.hid hov; clear hov
        go_wp2_with fail
        go_region
        all_goals
          go_wp2
          go_end0
          refine ⟨rfl, ?_⟩
          simp only [RAdd, push, lostOf, if_neg (show ¬ room < (es.length : Int) + 1 by have := HOV.out; omega)]
          exact ⟨_, w1, _, _, _, HT2.out.1, HT2.out.2, HA.out.ring.keep rfl (fun _ _ => rfl), HA.out.chg.drew, HA.out.own⟩
  · have hgrw : ∀ (w1 W6 : World) (o : Obj) (v v6 : Value), Below W.heap.size W w1 → W6.ownsRow (w1.alloc o).heap.size 24 5 v6 (es.length + 1) (ecs es ++ ec ⟨k, q, p, b, l⟩ v) → (w1.alloc o).grownBy W6 none →
        ∃ g6 c6, v6 = .slice (some ⟨g6, 0, none⟩) (es.length + 1) c6 ∧ W6.cell? ⟨rb, 0, none⟩ = some (.slice A es.length c) ∧ W6.frozen? ⟨rb, 0, none⟩ = false ∧ Added w1 (W6.setCell ⟨rb, 0, none⟩ (.slice (some ⟨g6, 0, none⟩) (es.length + 1) c6)) rb room lost es G (⟨k, q, p, b, l⟩, v) (some ⟨g6, 0, none⟩) c6 (some g6) := by
      intro w1 W6 o v v6 h hown hg
      have hsz := HS.out
      have hrl := HRL.out
      have hsz' := h.size
      obtain ⟨g6, c6, rfl, hgl, hrow⟩ := row_new hown
      simp only [World.size_alloc] at hgl
      have hk := (HKS.out w1 h).a
      have hk6 : W6.heap[rb]? = some (.cells #[.slice A es.length c, .int .i64 room, .int .i64 lost] 94 (0, 0)) := (hg.block rb (by simp; omega) (by simp)).trans ((Below.heap_alloc _ _ _ (by omega)).trans hk)
      obtain ⟨r0, -, -, y0, -, -⟩ := blk3 hk6
      refine ⟨g6, c6, rfl, r0, y0, ⟨⟨?_, hrow.keep fun g' hg' => ?_⟩, (((Chg.refl w1 rb G).alloc o).grew hg).set _ _, .inr ⟨g6, rfl, by omega⟩⟩⟩
      · have := blk_set (i := 0) hk6 (.slice (some ⟨g6, 0, none⟩) (es.length + 1) c6)
        simpa using this
      · cases hg'; exact Below.heap_setCell _ _ _ _ (by show g6 ≠ rb; omega)
    have hold : ∀ (w1 : World) (o : Obj), Below W.heap.size W w1 → ∀ b', A = some b' → ∀ j u, (ecs es)[j]? = some u → (w1.alloc o).cell? (b'.add j) = some u := by
      intro w1 o h b' hb' j u hj
      have h1 : Below W.heap.size W (w1.alloc o) := h.alloc h.size o
      rcases HRW.out.row with ⟨e0, -⟩ | ⟨g, off, cs, e0, -, h3, -, -, h6⟩
      · rw [e0] at hb'; cases hb'
      · rw [e0] at hb'; cases hb'
        exact blk_add rfl ((h1.block g (Array.getElem?_eq_some_iff.1 h3).1).trans h3) j u (h6 j u hj)
    have hnone : A = none → es.length = 0 ∧ c = 0 := by
      intro h0
      rcases HRW.out.row with ⟨-, rfl, rfl, -⟩ | ⟨g, off, cs, e0, -⟩
      · exact ⟨rfl, rfl⟩
      · rw [h0] at e0; cases e0
    have HGRW := Lib.hid hgrw; have HOLD := Lib.hid hold; have HNONE := Lib.hid hnone; have HFULL := Lib.hid hfull; clear hgrw hold hnone hfull
    obtain ⟨r0, y0, a0, a1, a2, a3, a4, -⟩ := HST.out _ (HKS.out _ hb0)
    go_region_law (first
        | (go_simp; go_at_call 99; refine (HOWN.out _ hb0).mono ?_; rintro r w1 ⟨A1, c1, rfl, ht1, hb1⟩; have hq1 := hb0.trans (hb1.mono hb0.size); have HT1 := Lib.hid (And.intro ht1 hb1); have HKW := HKS.out _ hq1; have r1 := (HST.out _ HKW).1; have r2 : ∀ o, (w1.alloc o).cell? ⟨rb, 0, none⟩ = _ := fun o => (HST.out _ (HKS.out _ (hq1.alloc hq1.size o))).1; clear hb1 ht1 HKW)
        | (refine step_append_grows rfl (.tmp 8) (.tmp 11) 25 rfl 24 i0 (.agg #[.int .i64 0, .int .i64 0, .int .i64 0, .int .i64 0, .slice none 0 0]) 5 56 Tryz.underlying25 hi hz0 hz1 hz2 rfl (by decide) A es.length c (ecs es) (by simp [Act.eval, Act.put]) HNONE.out (ecs_length es) (HOLD.out _ _ hq1) ⟨w1.heap.size, 0, none⟩ 1 1 (ec ⟨k, q, p, b, l⟩ (.slice A1 l.length c1)) (by simp [Act.eval, Act.put]) rfl (new_list w1 (ec ⟨k, q, p, b, l⟩ (.slice A1 l.length c1)) _ _ rfl) (ec_oneCell _ _ _ _) HFULL.out (by unfold maxLen; omega) (by omega) ?_; intro v6 W6 hown hgrow; obtain ⟨g6, c6, rfl, r1', y1, hadd⟩ := HGRW.out w1 W6 _ _ v6 hq1 hown hgrow; clear r1 r2 hown hgrow))
    all_goals
      clear hq1 hb0 r0 y0 a0 a1 a2 a3 a4 r1' y1
      generalize W6.setCell ⟨rb, 0, none⟩ (.slice (some ⟨g6, 0, none⟩) (es.length + 1) c6) = w7 at *
      clear HGRW HOLD HNONE HST HKS HOWN HW HNE HLT HRW HFULL
      have HA := Lib.hid hadd; clear hadd
      obtain ⟨g7, o7, e7, hc7⟩ := HA.out.at
      cases e7
      have hsz := HS.out
      have HT2 := Lib.hid (And.intro (HT1.out.1.mono (by show w.heap.size ≤ W.heap.size; omega) : TermAt w.heap.size w1 _ _) (HB1.out.drew.trans (HT1.out.2.mono (by show w.heap.size ≤ W.heap.size; omega)))); clear HT1 HB1 HS hsz
      obtain ⟨r0, r1, r2, y0, y1, y2⟩ := blk3 HA.out.ring.blk
      rw [List.length_append, List.length_singleton] at r0
      by_cases hov : room < (es.length : Int) + 1
      · have d1 : decide (room < (es.length : Int) + 1) = true := by simpa using hov
        have d2 : ¬ c6 = 1 := by omega
        have HOV := Lib.hid hov; clear hov
        go_wp2_with fail
        go_region
        all_goals
          go_wp2
          go_end0
          refine ⟨rfl, ?_⟩
          simp only [RAdd, push, lostOf, if_pos HOV.out]
          exact ⟨_, w1, _, _, _, HT2.out.1, HT2.out.2, HA.out.over.keep rfl (fun _ _ => rfl), ((HA.out.chg.set _ _).set _ _).drew, HA.out.own⟩
      · have d1 : decide (room < (es.length : Int) + 1) = false := by simpa using hov
        have HOV := Lib.hid hov; clear hov
        go_wp2_with fail
        go_region
        all_goals
          go_wp2
          go_end0
          refine ⟨rfl, ?_⟩
          simp only [RAdd, push, lostOf, if_neg (show ¬ room < (es.length : Int) + 1 by have := HOV.out; omega)]
          exact ⟨_, w1, _, _, _, HT2.out.1, HT2.out.2, HA.out.ring.keep rfl (fun _ _ => rfl), HA.out.chg.drew, HA.out.own⟩
end Go.Proofs.YtejpdfenejbjdaaGreatDoor
