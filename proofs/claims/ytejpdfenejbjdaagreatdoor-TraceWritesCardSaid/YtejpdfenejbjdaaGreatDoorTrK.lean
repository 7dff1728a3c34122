/- Walks: trace: Parse. -/
import Derived.Test.YtejpdfenejbjdaaGreatDoorTrH
import Derived.Deep.RegionHeld3
import Derived.Lib.ParseIntBTie
namespace Go.Proofs.YtejpdfenejbjdaaGreatDoor
open Go.RowKit Txt
set_option linter.unusedVariables false
set_option linter.unusedSimpArgs false
/-- What comes of Parse. -/
def EvOut (w : World) (r : Ev × Int) (e : Ending) (w' : World) : Prop :=
  ∃ x, e = .returned (.tuple #[evV r.1 x, .int .i64 r.2]) ∧ TermAt w.heap.size w' x r.1.term ∧ Below w.heap.size w w'
theorem sees_nil (w : World) : SeesT w (.slice none 0 0) [] := ⟨none, 0, rfl, Nat.le_refl _, fun h => absurd rfl h⟩
set_option maxHeartbeats 1000000 in
theorem tparse_large (s : ByteArray) (w : World) (h : s.size > 1048576) : Calls Tryz.prog 18 #[.string s] w (EvOut w (noEv, 180)) := by
  have hd : decide ((1048576 : Int) < (s.size : Int)) = true := by simp; omega
  go_enter Tryz.func18, Tryz.ntmps18
  go_wp2
  exact bodyPost_ret (v := .tuple #[evV noEv (.slice none 0 0), .int .i64 180]) (by simp [results, Tryz.results18, go_sem]; rfl) rfl ⟨_, rfl, TermAt.nil _ _, (Below.refl _ _).alloc (Nat.le_refl _) _⟩
theorem split_size (s : ByteArray) : ∀ p ∈ parts s, p.size ≤ s.size := by
  have : ∀ (k : Nat) (t : ByteArray), ∀ p ∈ Lib.splitB ⟨#[32]⟩ 0 k t, p.size ≤ t.size := by
    intro k
    induction k with
    | zero => intro t p hp; rw [Lib.splitB, List.mem_singleton] at hp; subst hp; exact Nat.le_refl _
    | succ k ih =>
      intro t p hp
      rw [Lib.splitB] at hp
      split at hp
      · rw [List.mem_singleton] at hp; subst hp; exact Nat.le_refl _
      · rw [List.mem_cons] at hp
        rcases hp with rfl | hp
        · rw [ByteArray.size_extract]; omega
        · have := ih _ p hp
          rw [ByteArray.size_extract] at this; omega
  exact this _ _
set_option maxHeartbeats 1000000 in
theorem tparse_few (s a : ByteArray) (w : World) (h : s.size ≤ 1048576) (hp : parts s = [a]) (ht : TabsT w) : Calls Tryz.prog 18 #[.string s] w (EvOut w (noEv, 180)) := by
  have hd : decide ((1048576 : Int) < (s.size : Int)) = false := by simp; omega
  obtain ⟨m, hm⟩ := ht.mx
  have hm' : (w.alloc (.cells #[.int .i64 0, .int .i64 0, .int .i64 0, .int .i64 0, .slice none 0 0] 24)).cell? ⟨1, 0, none⟩ = some (.int .i64 m) :=
    (((Below.refl w.heap.size w).alloc (Nat.le_refl _) _).cell (cell_lt hm)).trans hm
  clear ht hm
  have hc := Tryz.strings_SplitN s ⟨#[32]⟩ 3 m _ (by omega) hm' (by decide) (by decide) (by decide)
  have HC := Lib.hid hc; clear hc hm'
  change Hid (Calls _ _ _ _ fun e w' => e = .returned (.slice (some ⟨_, 0, none⟩) (parts s).length _) ∧ w' = World.alloc _ (.cells (Lib.cellsOf (parts s) _) _)) at HC
  rw [hp] at HC
  go_enter Tryz.func18, Tryz.ntmps18
  go_wp2_with fail
  refine (HC.out).mono ?_
  rintro e w1 ⟨rfl, rfl⟩
  go_wp2
  refine bodyPost_ret (v := .tuple #[evV noEv (.slice none 0 0), .int .i64 180]) (by simp [results, Tryz.results18, go_sem]; rfl) rfl ⟨_, rfl, TermAt.nil _ _, ((Below.refl _ _).alloc (Nat.le_refl _) _).alloc (by simp) _⟩
theorem bcell {W w1 : World} (hb : Below W.heap.size W w1) : (∀ b o, b < W.heap.size → w1.cell? ⟨b, o, none⟩ = W.cell? ⟨b, o, none⟩) ∧ (∀ b o, b < W.heap.size → w1.frozen? ⟨b, o, none⟩ = W.frozen? ⟨b, o, none⟩) :=
  ⟨fun b o h => hb.cell (p := ⟨b, o, none⟩) h, fun b o h => hb.frozen (p := ⟨b, o, none⟩) h⟩
theorem numB_fit (s : ByteArray) : fit64 (numB s) := by
  unfold numB
  cases h : Lib.parseIntB 64 s.data.toList with
  | ok v =>
    have := Lib.parseIntB_bounds h
    simp only [fit64]
    have e : (2 ^ (64 - 1) : Nat) = 9223372036854775808 := by decide
    rw [e] at this
    omega
  | _ => simp only [fit64]; omega
theorem pidB_fit (s : ByteArray) : fit64 (pidB s) := by
  unfold pidB
  split
  · simp only [fit64]; omega
  · exact numB_fit _
/-- An event's cells. -/
def evCells (e : Ev) (x : Value) : Array Value := #[.int .i64 e.kind, .int .i64 e.tick, .int .i64 e.pid, .int .i64 e.by_, x]
/-- Parse's result and the words lie where they lay. -/
structure PB (w : World) (L : List ByteArray) (N : Nat) (W : World) : Prop where
  be : Below w.heap.size w W
  lt : w.heap.size + 1 < W.heap.size
  rc : W.heap[w.heap.size]? = some (.cells (evCells noEv (.slice none 0 0)) 24 (0, 0))
  wc : W.heap[w.heap.size + 1]? = some (.cells (Lib.cellsOf L N) 9 (0, 0))
theorem PB.below {w : World} {L : List ByteArray} {N : Nat} {W W' : World} (h : PB w L N W) (hb : Below W.heap.size W W') : PB w L N W' :=
  ⟨h.be.trans (hb.mono h.be.size), Nat.lt_of_lt_of_le h.lt hb.size, (hb.block _ (by have := h.lt; omega)).trans h.rc, (hb.block _ h.lt).trans h.wc⟩
theorem PB.alloc {w : World} {L : List ByteArray} {N : Nat} {W : World} (h : PB w L N W) (o : Obj) : PB w L N (W.alloc o) := h.below ((Below.refl _ _).alloc (Nat.le_refl _) _)
theorem PB.both {w : World} {a b : ByteArray} {c : List ByteArray} {N : Nat} {W : World} (h : PB w (a :: b :: c) N W) : W.cell? ⟨w.heap.size + 1, 0, none⟩ = some (.string a) ∧ W.cell? ⟨w.heap.size + 1, 1, none⟩ = some (.string b) ∧ PB w (a :: b :: c) N W := by
  refine ⟨?_, ?_, h⟩
  all_goals
    simp only [World.cell?, h.wc]
    simp [Lib.cellsOf]
theorem pb_new (w : World) (L : List ByteArray) (N : Nat) : PB w L N ((w.alloc (.cells #[.int .i64 0, .int .i64 0, .int .i64 0, .int .i64 0, .slice none 0 0] 24)).alloc (.cells (Lib.cellsOf L N) 9)) := by
  refine ⟨((Below.refl _ _).alloc (Nat.le_refl _) _).alloc (by simp) _, by simp, ?_, ?_⟩
  · exact (Below.heap_alloc _ _ _ (by simp)).trans (heap_alloc_new _ _)
  · have := heap_alloc_new (w.alloc (.cells #[.int .i64 0, .int .i64 0, .int .i64 0, .int .i64 0, .slice none 0 0] 24)) (.cells (Lib.cellsOf L N) 9)
    rw [World.size_alloc] at this
    exact this
/-- A new event's cells, not yet filled. -/
structure NE (w : World) (g : Nat) (W : World) : Prop where
  gt : w.heap.size + 1 < g
  lt : g < W.heap.size
  blk : W.heap[g]? = some (.cells #[.int .i64 0, .int .i64 0, .int .i64 0, .int .i64 0, .slice none 0 0] 24 (0, 0))
def NEF (g : Nat) (W : World) : Prop := (W.cell? ⟨g, 0, none⟩ = some (.int .i64 0) ∧ W.cell? ⟨g, 1, none⟩ = some (.int .i64 0) ∧ W.cell? ⟨g, 2, none⟩ = some (.int .i64 0) ∧ W.cell? ⟨g, 3, none⟩ = some (.int .i64 0) ∧ W.cell? ⟨g, 4, none⟩ = some (.slice none 0 0)) ∧
  (W.frozen? ⟨g, 0, none⟩ = false ∧ W.frozen? ⟨g, 1, none⟩ = false ∧ W.frozen? ⟨g, 2, none⟩ = false ∧ W.frozen? ⟨g, 3, none⟩ = false ∧ W.frozen? ⟨g, 4, none⟩ = false)
theorem NE.facts {w : World} {g : Nat} {W : World} (h : NE w g W) : NEF g W := by
  refine ⟨⟨?_, ?_, ?_, ?_, ?_⟩, ?_, ?_, ?_, ?_, ?_⟩
  all_goals
    simp only [World.cell?, World.frozen?, h.blk]
    rfl
theorem NE.below {w : World} {g : Nat} {W W' : World} (h : NE w g W) (hb : Below W.heap.size W W') : NE w g W' := ⟨h.gt, Nat.lt_of_lt_of_le h.lt hb.size, (hb.block _ h.lt).trans h.blk⟩
theorem ne_1 {w : World} {L : List ByteArray} {N : Nat} {W W' : World} (h : PB w L N W) (hb : Below (W.alloc (.cells #[.int .i64 0, .int .i64 0, .int .i64 0, .int .i64 0, .slice none 0 0] 24)).heap.size (W.alloc (.cells #[.int .i64 0, .int .i64 0, .int .i64 0, .int .i64 0, .slice none 0 0] 24)) W') : NE w W.heap.size W' :=
  NE.below ⟨h.lt, by simp, heap_alloc_new _ _⟩ hb
theorem ne_2 {w : World} {L : List ByteArray} {N : Nat} {W W' : World} (h : PB w L N W) (hb : Below (W.alloc (.cells #[.int .i64 0, .int .i64 0, .int .i64 0, .int .i64 0, .slice none 0 0] 24)).drew.heap.size (W.alloc (.cells #[.int .i64 0, .int .i64 0, .int .i64 0, .int .i64 0, .slice none 0 0] 24)).drew W') : NE w W.heap.size W' :=
  ne_1 (W := W) h ⟨hb.os, hb.tape, hb.output, hb.size, hb.block⟩
theorem ne_3 {w : World} {L : List ByteArray} {N : Nat} {W W' : World} (h : PB w L N W) (hb : Below (W.drew.alloc (.cells #[.int .i64 0, .int .i64 0, .int .i64 0, .int .i64 0, .slice none 0 0] 24)).heap.size (W.drew.alloc (.cells #[.int .i64 0, .int .i64 0, .int .i64 0, .int .i64 0, .slice none 0 0] 24)) W') : NE w W.heap.size W' :=
  ne_1 (W := W.drew) (h.below (Below.refl _ _).drew) hb
/-- .. and the event. -/
structure PE (w : World) (L : List ByteArray) (N ge : Nat) (e : Ev) (x : Value) (W : World) : Prop where
  pb : PB w L N W
  gt : w.heap.size + 1 < ge
  lt : ge < W.heap.size
  ec : W.heap[ge]? = some (.cells (evCells e x) 24 (0, 0))
theorem PE.below {w : World} {L : List ByteArray} {N ge : Nat} {e : Ev} {x : Value} {W W' : World} (h : PE w L N ge e x W) (hb : Below W.heap.size W W') : PE w L N ge e x W' :=
  ⟨h.pb.below hb, h.gt, Nat.lt_of_lt_of_le h.lt hb.size, (hb.block _ h.lt).trans h.ec⟩

theorem PE.cells {w : World} {L : List ByteArray} {N ge : Nat} {e : Ev} {x : Value} {W : World} (h : PE w L N ge e x W) : W.cell? ⟨ge, 0, none⟩ = some (.int .i64 e.kind) ∧ W.cell? ⟨ge, 1, none⟩ = some (.int .i64 e.tick) ∧ W.cell? ⟨ge, 2, none⟩ = some (.int .i64 e.pid) ∧ W.cell? ⟨ge, 3, none⟩ = some (.int .i64 e.by_) ∧ W.cell? ⟨ge, 4, none⟩ = some x := by
  refine ⟨?_, ?_, ?_, ?_, ?_⟩
  all_goals
    simp only [World.cell?, h.ec, evCells]
    rfl
theorem PB.res {w : World} {L : List ByteArray} {N : Nat} {W : World} (h : PB w L N W) : NEF w.heap.size W := by
  refine ⟨⟨?_, ?_, ?_, ?_, ?_⟩, ?_, ?_, ?_, ?_, ?_⟩
  all_goals
    simp only [World.cell?, World.frozen?, h.rc, evCells, noEv]
    rfl
theorem results_trace (gt : Nat) (k t p q : Int) (x : Value) (tmps : Array Value) (w : World) (hp : tmps[2]?.getD undef = .pointer (some ⟨gt, 0, none⟩)) (hb : w.heap[gt]? = some (.cells #[.int .i64 k, .int .i64 t, .int .i64 p, .int .i64 q, x] 24 (0, 0))) :
    (results Tryz.f18 tmps).run Tryz.prog w = .ok (.tuple #[.agg #[.int .i64 k, .int .i64 t, .int .i64 p, .int .i64 q, x], tmps[3]?.getD undef]) w := by
  have h0 : w.cell? ⟨gt, 0, none⟩ = some (.int .i64 k) := by simp only [World.cell?, hb]; rfl
  have h1 : w.cell? ⟨gt, 1, none⟩ = some (.int .i64 t) := by simp only [World.cell?, hb]; rfl
  have h2 : w.cell? ⟨gt, 2, none⟩ = some (.int .i64 p) := by simp only [World.cell?, hb]; rfl
  have h3 : w.cell? ⟨gt, 3, none⟩ = some (.int .i64 q) := by simp only [World.cell?, hb]; rfl
  have h4 : w.cell? ⟨gt, 4, none⟩ = some x := by simp only [World.cell?, hb]; rfl
  simp [results, Tryz.results18, hp, h0, h1, h2, h3, h4, go_sem]
theorem blk_set {W : World} {g i : Nat} {cs : Array Value} {t : TypeId} {fz : Nat × Nat} (h : W.heap[g]? = some (.cells cs t fz)) (v : Value) : (W.setCell ⟨g, i, none⟩ v).heap[g]? = some (.cells (cs.setIfInBounds i v) t fz) := by
  have hlt := lt_of_block h
  have h' : W.heap[g] = .cells cs t fz := by simpa [Array.getElem?_eq_getElem hlt] using h
  show (W.heap.modify g _)[g]? = _
  rw [Array.getElem?_eq_getElem (by simpa using hlt), Array.getElem_modify_self, h']
  rfl
theorem PB.set {w : World} {L : List ByteArray} {N : Nat} {W : World} (h : PB w L N W) {g : Nat} (hg : w.heap.size + 1 < g) (i : Nat) (v : Value) : PB w L N (W.setCell ⟨g, i, none⟩ v) :=
  ⟨h.be.setCell (p := ⟨g, i, none⟩) (by show w.heap.size ≤ g; omega) _, by have := h.lt; simpa [World.setCell] using this, (Below.heap_setCell _ _ _ _ (by show _ ≠ g; omega)).trans h.rc, (Below.heap_setCell _ _ _ _ (by show _ ≠ g; omega)).trans h.wc⟩
theorem PB.set5 {w : World} {L : List ByteArray} {N : Nat} {W : World} (h : PB w L N W) {g : Nat} (hn : NE w g W) (v0 v1 v2 v3 v4 : Value) : PB w L N (((((W.setCell ⟨g, 0, none⟩ v0).setCell ⟨g, 1, none⟩ v1).setCell ⟨g, 2, none⟩ v2).setCell ⟨g, 3, none⟩ v3).setCell ⟨g, 4, none⟩ v4) :=
  ((((h.set hn.gt 0 v0).set hn.gt 1 v1).set hn.gt 2 v2).set hn.gt 3 v3).set hn.gt 4 v4
theorem pe_set {w : World} {L : List ByteArray} {N : Nat} {W : World} (h : PB w L N W) {g : Nat} (hn : NE w g W) (k t p q : Int) (x : Value) : PE w L N g ⟨k, t, p, q, []⟩ x (((((W.setCell ⟨g, 0, none⟩ (.int .i64 k)).setCell ⟨g, 1, none⟩ (.int .i64 t)).setCell ⟨g, 2, none⟩ (.int .i64 p)).setCell ⟨g, 3, none⟩ (.int .i64 q)).setCell ⟨g, 4, none⟩ x) :=
  ⟨h.set5 hn _ _ _ _ _, hn.gt, by have := hn.lt; simpa [World.setCell] using this, blk_set (blk_set (blk_set (blk_set (blk_set hn.blk _) _) _) _) _⟩
theorem pe_new {w : World} {L : List ByteArray} {N : Nat} {W : World} (h : PB w L N W) (k t p q : Int) (x : Value) : PE w L N W.heap.size ⟨k, t, p, q, []⟩ x (W.alloc (.cells #[.int .i64 k, .int .i64 t, .int .i64 p, .int .i64 q, x] 24)) :=
  ⟨h.alloc _, h.lt, by simp, heap_alloc_new _ _⟩
theorem cut_size (s : ByteArray) : (cutA s).size ≤ s.size ∧ (cutR s).size ≤ s.size := by
  have e : s.data.toList.length = s.size := by simp
  unfold cutA cutR Lib.cut
  split
  · refine ⟨?_, ?_⟩
    · show (List.take _ _).toArray.size ≤ _
      simp only [List.size_toArray, List.length_take]; omega
    · show (List.drop _ _).toArray.size ≤ _
      simp only [List.size_toArray, List.length_drop]; omega
  · refine ⟨?_, ?_⟩
    · show s.data.toList.toArray.size ≤ _
      simp only [List.size_toArray]; omega
    · show ([] : List UInt8).toArray.size ≤ _
      simp
theorem texts_right' {t : List Cl} (h : (right t).1 = 0) : TextsOk t := by
  intro c hc
  have := (right_cells h).2 c hc
  unfold cellE cellV at this
  repeat' split at this
  all_goals first | omega | (exfalso; revert this; decide)
theorem parse_zero' {s : ByteArray} (h : (parse s).2.1 = 0) : parse s = ((parse s).1, 0, 0) := by
  unfold parse at h ⊢
  split
  · rename_i hx; rw [if_pos hx] at h; exact absurd h (by decide)
  · rename_i hx; rw [if_neg hx] at h
    cases hT : term (fuel s 0) s 0 with
    | bad e a => rw [hT] at h; exact absurd h (term_ne hT)
    | ok t q =>
      rw [hT] at h
      simp only at h ⊢
      split
      · rename_i h1; rw [if_pos h1] at h; exact absurd h (by show (70 : Int) ≠ 0; decide)
      · rename_i h1; rw [if_neg h1] at h
        split
        · rename_i h2; rw [if_pos h2] at h; exact absurd h (by show (7 : Int) ≠ 0; decide)
        · rfl
theorem parsed_right {s : ByteArray} (h : (parse s).2.1 = 0) : (right (parse s).1).1 = 0 ∧ (∀ c ∈ (parse s).1, fits c) ∧ TextsOk (parse s).1 ∧ (parse s).1.length ≤ 1024 := by
  obtain ⟨h1, h2⟩ := parse_right (fun _ _ _ _ _ h => term_ne h) (parse_zero' h)
  have h3 : (right (parse s).1).1 = 0 := by rw [h1]
  exact ⟨h3, h2, texts_right' h3, (right_cells h3).1⟩
/-- What stands at the end where the line is none. -/
theorem ret_no {w : World} {L : List ByteArray} {N : Nat} {W : World} (h : PB w L N W) : EvOut w (noEv, 180) (.returned (.tuple #[.agg #[.int .i64 0, .int .i64 0, .int .i64 0, .int .i64 0, .slice none 0 0], .int .i64 180])) (((((W.setCell ⟨w.heap.size, 0, none⟩ (.int .i64 0)).setCell ⟨w.heap.size, 1, none⟩ (.int .i64 0)).setCell ⟨w.heap.size, 2, none⟩ (.int .i64 0)).setCell ⟨w.heap.size, 3, none⟩ (.int .i64 0)).setCell ⟨w.heap.size, 4, none⟩ (.slice none 0 0)) := by
  refine ⟨.slice none 0 0, rfl, TermAt.nil _ _, ?_⟩
  exact ((((h.be.setCell (p := ⟨w.heap.size, 0, none⟩) (Nat.le_refl _) _).setCell (p := ⟨w.heap.size, 1, none⟩) (Nat.le_refl _) _).setCell (p := ⟨w.heap.size, 2, none⟩) (Nat.le_refl _) _).setCell (p := ⟨w.heap.size, 3, none⟩) (Nat.le_refl _) _).setCell (p := ⟨w.heap.size, 4, none⟩) (Nat.le_refl _) _
theorem res_set {w : World} {L : List ByteArray} {N : Nat} {W : World} (h : PB w L N W) (v0 v1 v2 v3 v4 : Value) : (((((W.setCell ⟨w.heap.size, 0, none⟩ v0).setCell ⟨w.heap.size, 1, none⟩ v1).setCell ⟨w.heap.size, 2, none⟩ v2).setCell ⟨w.heap.size, 3, none⟩ v3).setCell ⟨w.heap.size, 4, none⟩ v4).heap[w.heap.size]? = some (.cells #[v0, v1, v2, v3, v4] 24 (0, 0)) :=
  blk_set (blk_set (blk_set (blk_set (blk_set h.rc _) _) _) _) _
/-- The event, the row, the rest. -/
structure PF (w : World) (L : List ByteArray) (N ge gw gr : Nat) (e : Ev) (x : Value) (wd : ByteArray) (rp rb nb : Bool) (fv : Value) (rest : ByteArray) (W : World) : Prop where
  pe : PE w L N ge e x W
  ew : ge < gw
  wr : gw < gr
  lt : gr < W.heap.size
  rwc : W.heap[gw]? = some (.cells #[.string wd, .bool rp, .bool rb, .bool nb, fv] 63 (0, 0))
  sc : W.heap[gr]? = some (.cells #[.string rest] 9 (0, 0))
theorem PF.below {w : World} {L : List ByteArray} {N ge gw gr : Nat} {e : Ev} {x : Value} {wd : ByteArray} {rp rb nb : Bool} {fv : Value} {rest : ByteArray} {W W' : World} (h : PF w L N ge gw gr e x wd rp rb nb fv rest W) (hb : Below W.heap.size W W') : PF w L N ge gw gr e x wd rp rb nb fv rest W' :=
  ⟨h.pe.below hb, h.ew, h.wr, Nat.lt_of_lt_of_le h.lt hb.size, (hb.block _ (by have := h.wr; have := h.lt; omega)).trans h.rwc, (hb.block _ h.lt).trans h.sc⟩
theorem PE.set {w : World} {L : List ByteArray} {N ge : Nat} {e : Ev} {x : Value} {W : World} (h : PE w L N ge e x W) {g : Nat} (hg : ge < g) (i : Nat) (v : Value) : PE w L N ge e x (W.setCell ⟨g, i, none⟩ v) :=
  ⟨h.pb.set (by have := h.gt; omega) i v, h.gt, by have := h.lt; simpa [World.setCell] using this, (Below.heap_setCell _ _ _ _ (by show _ ≠ g; omega)).trans h.ec⟩
theorem PF.setRest {w : World} {L : List ByteArray} {N ge gw gr : Nat} {e : Ev} {x : Value} {wd : ByteArray} {rp rb nb : Bool} {fv : Value} {rest : ByteArray} {W : World} (h : PF w L N ge gw gr e x wd rp rb nb fv rest W) (s : ByteArray) : PF w L N ge gw gr e x wd rp rb nb fv s (W.setCell ⟨gr, 0, none⟩ (.string s)) :=
  ⟨h.pe.set (by have := h.wr; have := h.ew; omega) 0 _, h.ew, h.wr, by have := h.lt; simpa [World.setCell] using this, (Below.heap_setCell _ _ _ _ (by have := h.wr; show _ ≠ gr; omega)).trans h.rwc, blk_set h.sc _⟩
theorem PF.setEv {w : World} {L : List ByteArray} {N ge gw gr : Nat} {e e' : Ev} {x x' : Value} {wd : ByteArray} {rp rb nb : Bool} {fv : Value} {rest : ByteArray} {W : World} (h : PF w L N ge gw gr e x wd rp rb nb fv rest W) (i : Nat) (v : Value) (he : (evCells e x).setIfInBounds i v = evCells e' x') : PF w L N ge gw gr e' x' wd rp rb nb fv rest (W.setCell ⟨ge, i, none⟩ v) := by
  have h1 := h.ew
  have h2 := h.wr
  refine ⟨⟨h.pe.pb.set h.pe.gt i v, h.pe.gt, by have := h.pe.lt; simpa [World.setCell] using this, ?_⟩, h.ew, h.wr, by have := h.lt; simpa [World.setCell] using this, (Below.heap_setCell _ _ _ _ (by show _ ≠ ge; omega)).trans h.rwc, (Below.heap_setCell _ _ _ _ (by show _ ≠ ge; omega)).trans h.sc⟩
  rw [← he]; exact blk_set h.pe.ec v
theorem pf_new {w : World} {L : List ByteArray} {N ge : Nat} {e : Ev} {x : Value} {wd : ByteArray} {rp rb nb : Bool} {fv : Value} {W : World} (h : PE w L N ge e x W) (s : ByteArray) : PF w L N ge W.heap.size (W.heap.size + 1) e x wd rp rb nb fv s ((W.alloc (.cells #[.string wd, .bool rp, .bool rb, .bool nb, fv] 63)).alloc (.cells #[.string s] 9)) := by
  have hb : Below W.heap.size W ((W.alloc (.cells #[.string wd, .bool rp, .bool rb, .bool nb, fv] 63)).alloc (.cells #[.string s] 9)) := ((Below.refl _ _).alloc (Nat.le_refl _) _).alloc (by simp) _
  refine ⟨h.below hb, h.lt, by omega, by simp, (Below.heap_alloc _ _ _ (by simp)).trans (heap_alloc_new _ _), ?_⟩
  have := heap_alloc_new (W.alloc (.cells #[.string wd, .bool rp, .bool rb, .bool nb, fv] 63)) (.cells #[.string s] 9)
  rw [World.size_alloc] at this
  exact this
theorem PF.rest {w : World} {L : List ByteArray} {N ge gw gr : Nat} {e : Ev} {x : Value} {wd : ByteArray} {rp rb nb : Bool} {fv : Value} {rest : ByteArray} {W : World} (h : PF w L N ge gw gr e x wd rp rb nb fv rest W) : W.cell? ⟨gr, 0, none⟩ = some (.string rest) ∧ W.frozen? ⟨gr, 0, none⟩ = false := by
  refine ⟨?_, ?_⟩
  all_goals
    simp only [World.cell?, World.frozen?, h.sc]
    rfl
theorem PF.row {w : World} {L : List ByteArray} {N ge gw gr : Nat} {e : Ev} {x : Value} {wd : ByteArray} {rp rb nb : Bool} {fv : Value} {rest : ByteArray} {W : World} (h : PF w L N ge gw gr e x wd rp rb nb fv rest W) : W.cell? ⟨gw, 1, none⟩ = some (.bool rp) ∧ W.cell? ⟨gw, 2, none⟩ = some (.bool rb) := by
  refine ⟨?_, ?_⟩
  all_goals
    simp only [World.cell?, h.rwc]
    rfl
theorem PE.froz {w : World} {L : List ByteArray} {N ge : Nat} {e : Ev} {x : Value} {W : World} (h : PE w L N ge e x W) : W.frozen? ⟨ge, 2, none⟩ = false ∧ W.frozen? ⟨ge, 3, none⟩ = false ∧ W.frozen? ⟨ge, 4, none⟩ = false := by
  refine ⟨?_, ?_, ?_⟩
  all_goals
    simp only [World.frozen?, h.ec, evCells]
    rfl
/-- The third word. -/
theorem PB.third {w : World} {a b c0 : ByteArray} {c : List ByteArray} {N : Nat} {W : World} (h : PB w (a :: b :: c0 :: c) N W) : W.cell? ⟨w.heap.size + 1, 2, none⟩ = some (.string c0) := by
  simp only [World.cell?, h.wc]
  simp [Lib.cellsOf]

theorem termAt_ne {base : Nat} {W : World} {x : Value} {T : List Cl} {g : Nat} {cs : Array Value} (h : TermAt base W x T) (hg : W.heap[g]? = some (.cells cs 24 (0, 0))) : ∀ ad n c, x = .slice (some ad) n c → ad.block ≠ g := fun ad n c e hb => by
  obtain ⟨-, hh, cc, h2⟩ := h.2 ad n c e
  rw [hb, hg] at h2
  simp at h2
theorem sees_ev {base : Nat} {W : World} {x : Value} {T : List Cl} {ge : Nat} {e : Ev} (h : TermAt base W x T) (he : W.heap[ge]? = some (.cells (evCells e (.slice none 0 0)) 24 (0, 0))) (i : Nat) (v : Value) : TermAt base (W.setCell ⟨ge, i, none⟩ v) x T :=
  h.keep fun ad n c hx _ => Below.heap_setCell _ _ _ _ (termAt_ne h he ad n c hx)
theorem ret_yes {w : World} {L : List ByteArray} {N : Nat} {W : World} {k t p q : Int} {x : Value} {T : List Cl} (h : PB w L N W) (hx : TermAt w.heap.size W x T) : EvOut w (⟨k, t, p, q, T⟩, 0) (.returned (.tuple #[.agg #[.int .i64 k, .int .i64 t, .int .i64 p, .int .i64 q, x], .int .i64 0])) (((((W.setCell ⟨w.heap.size, 0, none⟩ (.int .i64 k)).setCell ⟨w.heap.size, 1, none⟩ (.int .i64 t)).setCell ⟨w.heap.size, 2, none⟩ (.int .i64 p)).setCell ⟨w.heap.size, 3, none⟩ (.int .i64 q)).setCell ⟨w.heap.size, 4, none⟩ x) := by
  refine ⟨x, rfl, ?_, ?_⟩
  · refine hx.keep fun ad n c hx2 _ => ?_
    have hne := termAt_ne hx h.rc ad n c hx2
    exact (Below.heap_setCell _ _ _ _ hne).trans ((Below.heap_setCell _ _ _ _ hne).trans ((Below.heap_setCell _ _ _ _ hne).trans ((Below.heap_setCell _ _ _ _ hne).trans (Below.heap_setCell _ _ _ _ hne))))
  · exact ((((h.be.setCell (p := ⟨w.heap.size, 0, none⟩) (Nat.le_refl _) _).setCell (p := ⟨w.heap.size, 1, none⟩) (Nat.le_refl _) _).setCell (p := ⟨w.heap.size, 2, none⟩) (Nat.le_refl _) _).setCell (p := ⟨w.heap.size, 3, none⟩) (Nat.le_refl _) _).setCell (p := ⟨w.heap.size, 4, none⟩) (Nat.le_refl _) _
theorem parts_ne (s : ByteArray) : parts s ≠ [] := by
  have : ∀ (k : Nat) (t : ByteArray), Lib.splitB ⟨#[32]⟩ 0 k t ≠ [] := by
    intro k t
    cases k with
    | zero => rw [Lib.splitB]; simp
    | succ k => rw [Lib.splitB]; split <;> simp
  exact this _ _
/-- The event, its term read. -/
def ParsedAt (w : World) (L : List ByteArray) (N ge gw gr : Nat) (k t p q : Int) (r2 : ByteArray) (W : World) : Prop :=
  ∃ x T wd rp rb nb fv, PF w L N ge gw gr ⟨k, t, p, q, []⟩ x wd rp rb nb fv r2 W ∧ TermAt w.heap.size W x T ∧ TextsOk T ∧ (∀ c ∈ T, fits c) ∧ (r2.size = 0 → T = []) ∧ (r2.size ≠ 0 → (parse r2).2.1 = 0 ∧ T = (parse r2).1)
set_option maxHeartbeats 40000000 in
set_option maxRecDepth 100000 in
theorem tparse_words (s a b : ByteArray) (c : List ByteArray) (w : World) (h : s.size ≤ 1048576) (hp : parts s = a :: b :: c) (ht : TabsT w) : Calls Tryz.prog 18 #[.string s] w (EvOut w (evParse s)) := by
  have hd : decide ((1048576 : Int) < (s.size : Int)) = false := by simp; omega
  have hsz := split_size s
  rw [hp] at hsz
  have hsa : a.size ≤ 1048576 := Nat.le_trans (hsz a (by simp)) h
  clear hsz
  generalize hV : evParse s = V
  have HV := Lib.hid hV; clear hV
  have HSA := Lib.hid hsa; clear hsa
  have HT := Lib.hid ht
  obtain ⟨m, hm⟩ := ht.mx
  have hm' : (w.alloc (.cells #[.int .i64 0, .int .i64 0, .int .i64 0, .int .i64 0, .slice none 0 0] 24)).cell? ⟨1, 0, none⟩ = some (.int .i64 m) :=
    (((Below.refl w.heap.size w).alloc (Nat.le_refl _) _).cell (cell_lt hm)).trans hm
  clear ht hm
  have hc := Tryz.strings_SplitN s ⟨#[32]⟩ 3 m _ (by omega) hm' (by decide) (by decide) (by decide)
  have HC := Lib.hid hc; clear hc hm'
  change Hid (Calls _ _ _ _ fun e w' => e = .returned (.slice (some ⟨_, 0, none⟩) (parts s).length _) ∧ w' = World.alloc _ (.cells (Lib.cellsOf (parts s) _) _)) at HC
  rw [hp] at HC
  go_enter Tryz.func18, Tryz.ntmps18
  go_wp2_with fail
  refine (HC.out).mono ?_
  rintro e w1 ⟨rfl, rfl⟩
  have hn2 : 2 ≤ (a :: b :: c).length := by simp
  have hpb := pb_new w (a :: b :: c) (min 3 (s.size + 1))
  generalize hnl : (a :: b :: c).length = nl at *
  have HNL := Lib.hid hnl; clear hnl
  have hl2 : decide ((nl : Int) < 2) = false := by simp; omega
  have hk1 : 1 < nl := by omega
  have hk0 : 0 < nl := by omega
  have hk1i : (1 : Int) < (nl : Int) := by omega
  go_wp2_with fail
  generalize hW : (w.alloc (.cells #[.int .i64 0, .int .i64 0, .int .i64 0, .int .i64 0, .slice none 0 0] 24)).alloc (.cells (Lib.cellsOf (a :: b :: c) (min 3 (s.size + 1))) 9) = w3 at *
  have hsz0 : (w.alloc (.cells #[.int .i64 0, .int .i64 0, .int .i64 0, .int .i64 0, .slice none 0 0] 24)).heap.size = w.heap.size + 1 := by simp
  clear hW
  have HPB := Lib.hid hpb; clear hpb
  go_cut [5] (fun s5 W' => ∃ ge, s5 = .pointer (some ⟨ge, 0, none⟩) ∧ PE w (a :: b :: c) (min 3 (s.size + 1)) ge ⟨kindB b, numB a, 0, 0, []⟩ (.slice none 0 0) W')
  case first =>
    have h0 := HPB.out
    have hh := HPB.out.below (Below.refl _ _).drew
    have q0 := HPB.out.both.1
    have q1 := HPB.out.both.2.1
    go_region_held3 (fun w' => w'.cell? ⟨w.heap.size + 1, 0, none⟩ = some (.string a) ∧ w'.cell? ⟨w.heap.size + 1, 1, none⟩ = some (.string b) ∧ PB w (a :: b :: c) (min 3 (s.size + 1)) w')
      (first | (with_reducible exact PB.both (by assumption)) | (with_reducible exact PB.both (PB.alloc (by assumption) _)) | (with_reducible exact PB.both (PB.set5 (by assumption) (by assumption) _ _ _ _ _)))
      (first | (go_at_call 55; have hz := (by assumption : _ ∧ _ ∧ PB w (a :: b :: c) (min 3 (s.size + 1)) _).2.2; refine (kindOf_calls b _).mono ?_; rintro e w' ⟨rfl, hb⟩; have hz' := hz.below hb; (first | (with_reducible have hn := ne_3 (by assumption) hb); have hf := hn.facts | (with_reducible have hn := ne_2 (by assumption) hb); have hf := hn.facts | (with_reducible have hn := ne_1 (by assumption) hb); have hf := hn.facts | have hn := NE.below (by assumption) hb; have hf := hn.facts | skip); (try unfold NEF at hf); clear hz hb) | (go_at_call 56; have hz := (by assumption : _ ∧ _ ∧ PB w (a :: b :: c) (min 3 (s.size + 1)) _).2.2; refine (number_calls a _ (Nat.le_trans HSA.out (by decide)) (HT.out.below hz.be)).mono ?_; rintro e w' ⟨rfl, hb⟩; have hz' := hz.below hb; (first | (with_reducible have hn := ne_3 (by assumption) hb); have hf := hn.facts | (with_reducible have hn := ne_2 (by assumption) hb); have hf := hn.facts | (with_reducible have hn := ne_1 (by assumption) hb); have hf := hn.facts | have hn := NE.below (by assumption) hb; have hf := hn.facts | skip); (try unfold NEF at hf); clear hz hb))
    all_goals (clear hh h0 q0 q1)
    all_goals (go_wp2_with fail; go_meet)
    all_goals
      first
        | (refine ⟨_, rfl, ?_⟩; with_reducible exact pe_set (by assumption) (by assumption) _ _ _ _ _)
        | (refine ⟨_, rfl, ?_⟩; with_reducible exact pe_new (by assumption) _ _ _ _ _)
        | trace_state
  case rest =>
    obtain ⟨ge, rfl, hpe⟩ := hcut
    have HPE := Lib.hid hpe; clear hpe
    have e0 : wc.cell? ⟨ge, 0, none⟩ = some (.int .i64 (kindB b)) := HPE.out.cells.1
    go_wp2_with fail
    refine (rowOf_calls _ _).mono ?_
    rintro e2 w2 ⟨hs, hno, hb⟩
    have HPE2 := Lib.hid (HPE.out.below hb); clear hb e0
    cases hr : trow (kindB b) with
    | none =>
      obtain rfl := hno hr
      obtain rfl : (noEv, 180) = V := by rw [← HV.out]; unfold evParse; rw [if_neg (by omega), hp]; simp only [hr]
      clear hs hno hr
      unfold noRow
      go_upto_region 9 with (fail)
      have HPE3 := Lib.hid (HPE2.out.below ((Below.refl _ _).alloc (Nat.le_refl _) (.cells #[.string .empty, .bool false, .bool false, .bool false, .nilFunc] 63)))
      generalize w2.alloc (.cells #[.string .empty, .bool false, .bool false, .bool false, .nilFunc] 63) = w4 at *
      have hf := HPE3.out.pb.res
      unfold NEF at hf
      go_wp2
      exact bodyPost_ret (results_trace w.heap.size 0 0 0 0 (.slice none 0 0) _ _ rfl (res_set HPE3.out.pb _ _ _ _ _)) rfl (ret_no HPE3.out.pb)
    | some r =>
      obtain rfl := hs r hr
      clear hs hno
      obtain ⟨wd, rp, rb, nb, tk⟩ := r
      unfold rowV
      dsimp only
      generalize hfn : termFn tk = fv
      obtain ⟨f, rfl⟩ : ∃ f, fv = .func (.func f) #[] #[] := by
        rw [← hfn]
        unfold termFn
        split <;> exact ⟨_, rfl⟩
      clear hfn
      have HR := Lib.hid hr; clear hr
      have hmf : ∀ (fn : Fn) (first cap : Array Value) (w : World), (Instr.makeFunc fn first cap).run Tryz.prog w = .ok (.func fn first cap) w := fun _ _ _ _ => rfl
      go_upto_if 45 with (fail)
      have HPF := Lib.hid (pf_new (wd := wd) (rp := rp) (rb := rb) (nb := nb) (fv := .func (.func f) #[] #[]) HPE2.out ⟨#[]⟩)
      clear HPE HPE2
      generalize hW4 : (w2.alloc (.cells #[.string wd, .bool rp, .bool rb, .bool nb, .func (.func f) #[] #[]] 63)).alloc (.cells #[.string ⟨#[]⟩] 9) = w4 at *
      go_cut [] (fun W' => PF w (a :: b :: c) (min 3 (s.size + 1)) ge w2.heap.size (w2.heap.size + 1) ⟨kindB b, numB a, 0, 0, []⟩ (.slice none 0 0) wd rp rb nb (.func (.func f) #[] #[]) (c.headD .empty) W')
      case first =>
        cases c with
        | nil =>
          have hn : (2 : Nat) = nl := HNL.out
          subst hn
          go_wp2_with fail
          go_meet
          exact HPF.out
        | cons c0 c' =>
          have hn : c'.length + 3 = nl := by have := HNL.out; simpa using this
          have hk2 : (2 : Int) < (nl : Int) := by omega
          have q3 := HPF.out.pe.pb.third
          have q4 := HPF.out.rest
          go_wp2_with fail
          go_meet
          exact HPF.out.setRest c0
      case rest =>
        clear HPF hW4
        have HPF := Lib.hid hcut; clear hcut
        have hr0 : (c.headD .empty).size ≤ 1048576 := by
          have := split_size s
          rw [hp] at this
          cases c with
          | nil => show ByteArray.empty.size ≤ _; decide
          | cons c0 c' => exact Nat.le_trans (this c0 (by simp)) h
        have HR0 := Lib.hid hr0; clear hr0
        have hVe : V = match evOf (kindB b) (numB a) ⟨wd, rp, rb, nb, tk⟩ (c.headD .empty) with
          | none => (noEv, 180)
          | some e => if (evPrint e).2 ≠ 0 then (noEv, 180) else if (evPrint e).1 = s.data.toList then (e, 0) else (noEv, 180) := by
          rw [← HV.out]; unfold evParse; rw [if_neg (by omega), hp]; simp only [HR.out]; cases evOf (kindB b) (numB a) ⟨wd, rp, rb, nb, tk⟩ (c.headD .empty) <;> rfl
        have HVE := Lib.hid hVe; clear hVe HV HR HNL hn2 hk1 hk0 hk1i hl2 hd
        generalize c.headD .empty = r0 at *
        generalize hG : w2.heap.size = gw at *
        clear hG
        have q2 := HPF.out.row.2
        go_upto_if 51 with (fail)
        go_cut [] (fun W' => PF w (a :: b :: c) (min 3 (s.size + 1)) ge gw (gw + 1) ⟨kindB b, numB a, 0, if rb then pidB (cutA r0) else 0, []⟩ (.slice none 0 0) wd rp rb nb (.func (.func f) #[] #[]) (if rb then cutR r0 else r0) W')
        case first =>
          cases rb with
          | false =>
            go_wp2_with fail
            go_meet
            exact HPF.out
          | true =>
            go_wp2_with fail
            refine (cut_calls (gw + 1) r0 _ HPF.out.rest.1 HPF.out.rest.2 HR0.out (HT.out.below HPF.out.pe.pb.be)).mono ?_
            rintro e w5 ⟨rfl, n, rfl⟩
            have HPF5 := Lib.hid ((PF.below HPF.out (below_drewN (Below.refl _ _) n)).setRest (cutR r0))
            generalize (wc.drewN n).setCell ⟨gw + 1, 0, none⟩ (.string (cutR r0)) = w6 at *
            go_wp2_with fail
            refine (pid_calls (cutA r0) _ (Nat.le_trans (cut_size r0).1 (Nat.le_trans HR0.out (by decide))) (HT.out.below HPF5.out.pe.pb.be)).mono ?_
            rintro e w7 ⟨rfl, hb⟩
            have HPF7 := Lib.hid (HPF5.out.below hb); clear hb
            have q5 := HPF7.out.pe.cells.2.2.2.1
            have q6 := HPF7.out.pe.froz.2.1
            go_wp2_with fail
            go_meet
            exact HPF7.out.setEv 3 _ rfl
        case rest =>
          clear HPF q2
          have HPF := Lib.hid hcut; clear hcut
          have hr1 : (if rb then cutR r0 else r0).size ≤ 1048576 := by
            have h1 := HR0.out
            have h2 := (cut_size r0).2
            split <;> omega
          have HR1 := Lib.hid hr1; clear hr1 HR0
          generalize hby : (if rb then pidB (cutA r0) else 0) = by1 at *
          generalize hre : (if rb then cutR r0 else r0) = r1 at *
          have HBY := Lib.hid hby
          have HFB := Lib.hid (show fit64 by1 by rw [← hby]; split; exact pidB_fit _; simp only [fit64]; omega); clear hby
          have HRE := Lib.hid hre; clear hre
          have q2 := HPF.out.row.1
          go_upto_if 57 with (fail)
          go_cut [] (fun W' => PF w (a :: b :: c) (min 3 (s.size + 1)) ge gw (gw + 1) ⟨kindB b, numB a, if rp then pidB (cutA r1) else 0, by1, []⟩ (.slice none 0 0) wd rp rb nb (.func (.func f) #[] #[]) (if rp then cutR r1 else r1) W')
          case first =>
            cases rp with
            | false =>
              go_wp2_with fail
              go_meet
              exact HPF.out
            | true =>
              go_wp2_with fail
              refine (cut_calls (gw + 1) r1 _ HPF.out.rest.1 HPF.out.rest.2 HR1.out (HT.out.below HPF.out.pe.pb.be)).mono ?_
              rintro e w5 ⟨rfl, n, rfl⟩
              have HPF5 := Lib.hid ((PF.below HPF.out (below_drewN (Below.refl _ _) n)).setRest (cutR r1))
              generalize World.setCell _ ⟨gw + 1, 0, none⟩ (.string (cutR r1)) = w6 at *
              go_wp2_with fail
              refine (pid_calls (cutA r1) _ (Nat.le_trans (cut_size r1).1 (Nat.le_trans HR1.out (by decide))) (HT.out.below HPF5.out.pe.pb.be)).mono ?_
              rintro e w7 ⟨rfl, hb⟩
              have HPF7 := Lib.hid (HPF5.out.below hb); clear hb
              have q5 := HPF7.out.pe.cells.2.2.1
              have q6 := HPF7.out.pe.froz.1
              go_wp2_with fail
              go_meet
              exact HPF7.out.setEv 2 _ rfl
          case rest =>
            clear HPF q2
            have HPF := Lib.hid hcut; clear hcut
            have hr2 : (if rp then cutR r1 else r1).size ≤ 1048576 := by
              have h1 := HR1.out
              have h2 := (cut_size r1).2
              split <;> omega
            have HR2 := Lib.hid hr2; clear hr2 HR1
            generalize hpi : (if rp then pidB (cutA r1) else 0) = pid1 at *
            generalize hre2 : (if rp then cutR r1 else r1) = r2 at *
            have HPI := Lib.hid hpi
            have HFP := Lib.hid (show fit64 pid1 by rw [← hpi]; split; exact pidB_fit _; simp only [fit64]; omega); clear hpi
            have HRE2 := Lib.hid hre2; clear hre2
            have q2 := HPF.out.rest.1
            go_upto_if 63 with (fail)
            have hev : ∀ T, (r2.size = 0 → T = []) → (r2.size ≠ 0 → (parse r2).2.1 = 0 ∧ T = (parse r2).1) → V = if (evPrint ⟨kindB b, numB a, pid1, by1, T⟩).2 ≠ 0 then (noEv, 180) else if (evPrint ⟨kindB b, numB a, pid1, by1, T⟩).1 = s.data.toList then (⟨kindB b, numB a, pid1, by1, T⟩, 0) else (noEv, 180) := by
              intro T h1 h2
              rw [HVE.out]
              unfold evOf
              simp only [HBY.out, HRE.out, HPI.out, HRE2.out]
              by_cases hz : r2.size = 0
              · rw [if_pos hz, h1 hz]
              · rw [if_neg hz, if_neg (by simp [(h2 hz).1]), (h2 hz).2]
            have hev0 : r2.size ≠ 0 → (parse r2).2.1 ≠ 0 → V = (noEv, 180) := by
              intro h1 h2
              rw [HVE.out]
              unfold evOf
              simp only [HBY.out, HRE.out, HPI.out, HRE2.out]
              rw [if_neg h1, if_pos h2]
            have HEV := Lib.hid hev; clear hev
            have HEV0 := Lib.hid hev0; clear hev0 HVE HBY HRE HPI HRE2
            go_cut [] (fun W' => ParsedAt w (a :: b :: c) (min 3 (s.size + 1)) ge gw (gw + 1) (kindB b) (numB a) pid1 by1 r2 W')
            case first =>
              generalize hbz : (!r2.toList.isEmpty) = bz at *
              rw [isEmpty_size] at hbz
              cases bz with
              | false =>
                have hz : r2.size = 0 := by simpa using hbz
                have HZ := Lib.hid hz; clear hz hbz
                go_wp2_with fail
                go_meet
                exact ⟨_, [], _, _, _, _, _, HPF.out, TermAt.nil _ _, fun c hc => (by cases hc), fun c hc => (by cases hc), fun _ => rfl, fun h => absurd HZ.out h⟩
              | true =>
                have hz : r2.size ≠ 0 := by simpa using hbz
                have HZ := Lib.hid hz; clear hz hbz
                go_wp2_with fail
                refine (parseT_calls r2 _ (HT.out.tabs.below HPF.out.pe.pb.be) (Nat.le_trans HR2.out (by decide))).mono ?_
                rintro e w5 ⟨x, rfl, hx, hb⟩
                have HPF5 := Lib.hid (HPF.out.below hb); clear hb
                have HX := Lib.hid (hx.mono HPF.out.pe.pb.be.size); clear hx
                have hpr := parsed_right (s := r2)
                have HPR := Lib.hid hpr; clear hpr
                have HEV1 := Lib.hid (fun h => HEV0.out HZ.out h)
                generalize hpp : parse r2 = PP at *
                have HPP := Lib.hid hpp; clear hpp HEV HEV0
                obtain ⟨t, pe, pk⟩ := PP
                by_cases hpe : pe = 0
                · subst hpe
                  have q5 := HPF5.out.pe.cells.2.2.2.2
                  have q6 := HPF5.out.pe.froz.2.2
                  obtain ⟨XA, xc, rfl, -, -⟩ := HX.out.1
                  go_wp2_with fail
                  go_meet
                  obtain ⟨g1, g2, g3, g4⟩ := HPR.out (by first | rfl | trivial)
                  have hpf := HPF5.out.setEv (e' := ⟨kindB b, numB a, pid1, by1, []⟩) 4 (.slice XA t.length xc) rfl
                  exact ⟨_, t, _, _, _, _, _, hpf, sees_ev HX.out HPF5.out.pe.ec _ _, g3, g2, fun h => absurd h HZ.out, fun _ => by rw [HPP.out]; exact ⟨rfl, rfl⟩⟩
                · obtain rfl := (HEV1.out hpe).symm
                  have hpn : (pe != 0) = true := by simpa using hpe
                  have hf := HPF5.out.pe.pb.res
                  unfold NEF at hf
                  go_wp2
                  exact bodyPost_ret (results_trace w.heap.size 0 0 0 0 (.slice none 0 0) _ _ rfl (res_set HPF5.out.pe.pb _ _ _ _ _)) rfl (ret_no HPF5.out.pe.pb)
            case rest =>
              clear HPF q2 HEV0
              obtain ⟨x, T, wd', rp', rb', nb', fv', hpf, hx, hto, hfi, hT1, hT2⟩ := hcut
              have hVV := HEV.out T hT1 hT2
              clear hT1 hT2 HEV
              have HPF := Lib.hid hpf; clear hpf
              have HX := Lib.hid hx
              obtain ⟨XA, xc, rfl, -, -⟩ := hx.1
              have hpc := tprint_calls ⟨kindB b, numB a, pid1, by1, T⟩ (.slice XA T.length xc) wc HX.out.1 hto hfi (numB_fit a) HFP.out HFB.out (HT.out.tabs.below HPF.out.pe.pb.be)
              generalize evPrint ⟨kindB b, numB a, pid1, by1, T⟩ = EP at *
              obtain ⟨ep, ee⟩ := EP
              unfold evV at hpc
              dsimp only at hpc hVV
              have HPC := Lib.hid hpc; clear hpc hto hfi
              have HVV := Lib.hid hVV; clear hVV
              have q5 := HPF.out.pe.cells
              dsimp only at q5
              go_wp2_with fail
              refine (HPC.out).mono ?_
              rintro e w5 ⟨rfl, hb⟩
              have HPF5 := Lib.hid (HPF.out.below hb)
              have HX5 := Lib.hid (HX.out.below hb); clear hb q5
              have q5 := HPF5.out.pe.cells
              dsimp only at q5
              have hf := HPF5.out.pe.pb.res
              unfold NEF at hf
              have hVV := HVV.out; clear HVV
              by_cases hee : ee = 0
              · subst hee
                rw [if_neg (by simp)] at hVV
                by_cases heq : ep = s.data.toList
                · rw [if_pos heq] at hVV
                  subst hVV
                  have hsb : Txt.bytes ep = s := by rw [heq]; rfl
                  rw [hsb]
                  have HSB := Lib.hid hsb; clear hsb heq
                  go_wp2
                  exact bodyPost_ret (results_trace w.heap.size (kindB b) (numB a) pid1 by1 (.slice XA T.length xc) _ _ rfl (res_set HPF5.out.pe.pb _ _ _ _ _)) rfl (ret_yes HPF5.out.pe.pb HX5.out)
                · rw [if_neg heq] at hVV
                  subst hVV
                  have hsb : ((Txt.bytes ep).toList == s.toList) = false := by
                    rw [beq_eq_false_iff_ne]
                    intro h; apply heq
                    have := congrArg (fun l => l) h
                    rw [Lib.toList_data, Lib.toList_data] at this
                    exact this
                  have hsb2 : ((Txt.bytes ep).toList != s.toList) = true := by rw [bne, hsb]; rfl
                  have HEQ := Lib.hid heq; clear heq
                  go_wp2
                  exact bodyPost_ret (results_trace w.heap.size 0 0 0 0 (.slice none 0 0) _ _ rfl (res_set HPF5.out.pe.pb _ _ _ _ _)) rfl (ret_no HPF5.out.pe.pb)
              · rw [if_pos hee] at hVV
                subst hVV
                have hpn : (ee != 0) = true := by simpa using hee
                have HEE := Lib.hid hee; clear hee
                go_wp2
                exact bodyPost_ret (results_trace w.heap.size 0 0 0 0 (.slice none 0 0) _ _ rfl (res_set HPF5.out.pe.pb _ _ _ _ _)) rfl (ret_no HPF5.out.pe.pb)
/-- Parse: what a line says. -/
theorem tparse_calls (s : ByteArray) (w : World) (ht : TabsT w) : Calls Tryz.prog 18 #[.string s] w (EvOut w (evParse s)) := by
  by_cases h : s.size > 1048576
  · have e : evParse s = (noEv, 180) := by unfold evParse; rw [if_pos h]
    rw [e]; exact tparse_large s w h
  · cases hp : parts s with
    | nil => exact absurd hp (parts_ne s)
    | cons a r =>
      cases r with
      | nil =>
        have e : evParse s = (noEv, 180) := by unfold evParse; rw [if_neg h, hp]
        rw [e]; exact tparse_few s a w (by omega) hp ht
      | cons b c => exact tparse_words s a b c w (by omega) hp ht
end Go.Proofs.YtejpdfenejbjdaaGreatDoor

namespace Go.Proofs.YtejpdfenejbjdaaGreatDoor
open Go.RowKit Txt
set_option linter.unusedVariables false
set_option linter.unusedSimpArgs false

def KE : Ev := ⟨2, 12, 5, 1, [⟨2, 0, { data := #[111, 107] }⟩]⟩
def KL : ByteArray := { data := #[49, 50, 32, 115, 101, 110, 100, 32, 60, 49, 62, 32, 60, 53, 62, 32, 111, 107] }
theorem itoa_12 : Lib.itoa 12 = [49, 50] := by
  unfold Lib.itoa; rw [if_neg (by decide)]; exact Lib.decDigits_two (i := 12) (by decide) (by decide)
theorem itoa_1' : Lib.itoa 1 = [49] := by
  unfold Lib.itoa; rw [if_neg (by decide)]; exact Lib.decDigits_one (i := 1) (by decide)
theorem itoa_5 : Lib.itoa 5 = [53] := by
  unfold Lib.itoa; rw [if_neg (by decide)]; exact Lib.decDigits_one (i := 5) (by decide)
theorem known_quote' : quote { data := #[111, 107] } = ([111, 107], 0) := by kernel_rfl
theorem ke_print : evPrint KE = (KL.data.toList, 0) := by
  have hr : evRight KE = 0 := by kernel_rfl
  have hrt : right KE.term = (0, 0) := by kernel_rfl
  have hp : print KE.term = ([111, 107], 0) := by
    unfold print
    rw [hrt, if_neg (by decide)]
    have : printF KE.term [] [] = some [111, 107] := by
      simp [KE, printF, printC, leaf, closed, known_quote']
    rw [this]
  unfold evPrint
  rw [hr, if_neg (by decide)]
  have ht : trow KE.kind = some ⟨⟨#[115, 101, 110, 100]⟩, true, true, false, 1⟩ := by kernel_rfl
  rw [ht]
  simp only
  rw [if_pos (by decide), hp]
  simp [evHead, KE, KL, itoa_12, itoa_1', itoa_5, whoB]
theorem ke_fits : ∀ c ∈ KE.term, fits c := by
  intro c hc
  simp only [KE, List.mem_cons, List.not_mem_nil, or_false] at hc
  unfold fits
  subst hc; simp
theorem ke_texts : TextsOk KE.term := by
  intro c hc
  simp only [KE, List.mem_cons, List.not_mem_nil, or_false] at hc
  subst hc; decide

set_option maxHeartbeats 2000000 in
set_option maxRecDepth 100000 in
theorem awake_calls (w : World) (ht : TabsT w) : Calls Tryz.prog 17 #[] w fun e w' => e = .returned (.bool true) ∧ Below w.heap.size w w' := by
  have HT := Lib.hid ht; clear ht
  have hq : ∀ x w', SeesT w' x KE.term → Tabs w' → Calls Tryz.prog 14 #[.agg #[.int .i64 2, .int .i64 12, .int .i64 5, .int .i64 1, x]] w' fun e w'' => e = .returned (.tuple #[.string ⟨#[49, 50, 32, 115, 101, 110, 100, 32, 60, 49, 62, 32, 60, 53, 62, 32, 111, 107]⟩, .int .i64 0]) ∧ Below w'.heap.size w' w'' := by
    intro x w' hx ht
    have := tprint_calls KE x w' hx ke_texts ke_fits (by simp [fit64, KE]) (by simp [fit64, KE]) (by simp [fit64, KE]) ht
    rw [ke_print] at this
    exact this
  have HQ := Lib.hid hq; clear hq
  have hp := fun W h => tparse_calls ⟨#[55, 32, 116, 105, 99, 107]⟩ W h
  rw [parse_tick] at hp
  have HP := Lib.hid hp; clear hp
  have hp0 := fun W h => tparse_calls ⟨#[48, 55, 32, 116, 105, 99, 107]⟩ W h
  rw [parse_tick0] at hp0
  have HP0 := Lib.hid hp0; clear hp0
  go_enter Tryz.func17, Tryz.ntmps17
  go_wp2_with fail
  have hs : ∀ W : World, SeesT (W.alloc (.cells #[.int .i64 2, .int .i64 0, .string ⟨#[111, 107]⟩] 74)) (.slice (some ⟨W.heap.size, 0, none⟩) 1 1) KE.term := by
    intro W
    refine ⟨some ⟨W.heap.size, 0, none⟩, 1, rfl, by decide, fun _ => ⟨_, rfl, fun j u hj => ?_⟩⟩
    exact new_list W [.int .i64 2, .int .i64 0, .string ⟨#[111, 107]⟩] _ _ rfl j u hj
  refine (HQ.out _ _ (hs _) (HT.out.tabs.below ((Below.refl _ _).alloc (Nat.le_refl _) _))).mono ?_
  rintro e w1 ⟨rfl, hb1⟩
  have HB1 := Lib.hid (((Below.refl w.heap.size w).alloc (Nat.le_refl _) (.cells #[.int .i64 2, .int .i64 0, .string ⟨#[111, 107]⟩] 74)).trans (hb1.mono (by simp))); clear hb1 hs
  go_wp2_with fail
  refine (HP.out _ (HT.out.below HB1.out)).mono ?_
  rintro e w2 ⟨x, rfl, hx, hb2⟩
  have HB2 := Lib.hid (HB1.out.trans (hb2.mono HB1.out.size)); clear hb2
  obtain ⟨XA, xc, rfl, -, -⟩ := hx.1
  unfold evV
  dsimp only [List.length_nil]
  go_wp2_with fail
  have hb3 := HB2.out.alloc HB2.out.size (.cells #[.int .i64 8, .int .i64 7, .int .i64 0, .int .i64 0, .slice XA 0 xc] 24)
  have HB3 := Lib.hid hb3; clear hb3
  have q0 : ∀ w4, Below (w2.alloc (.cells #[.int .i64 8, .int .i64 7, .int .i64 0, .int .i64 0, .slice XA 0 xc] 24)).heap.size (w2.alloc (.cells #[.int .i64 8, .int .i64 7, .int .i64 0, .int .i64 0, .slice XA 0 xc] 24)) w4 → w4.cell? ⟨w2.heap.size, 0, none⟩ = some (.int .i64 8) ∧ w4.cell? ⟨w2.heap.size, 1, none⟩ = some (.int .i64 7) := by
    intro w4 hb
    have he := (evAt_new w2 ⟨8, 7, 0, 0, []⟩ (.slice XA 0 xc)).below hb
    exact ⟨he.c0, he.c1⟩
  have Q0 := Lib.hid q0; clear q0
  refine (HP0.out _ (HT.out.below HB3.out)).mono ?_
  rintro e w4 ⟨y, rfl, hy, hb4⟩
  have q0 := Q0.out _ hb4
  have HB4 := Lib.hid (HB3.out.trans (hb4.mono HB3.out.size))
  have hz : w2.heap.size < w4.heap.size := by have := hb4.size; simp at this; omega
  clear hb4
  obtain ⟨YA, yc, rfl, -, -⟩ := hy.1
  unfold evV
  dsimp only [noEv, List.length_nil]
  have q1 := q0.1
  have q2 := q0.2
  clear q0
  go_wp2
  go_ret
  exact ⟨rfl, HB4.out.alloc HB4.out.size _⟩
end Go.Proofs.YtejpdfenejbjdaaGreatDoor
