/- Walks: trace: is an event right; the reference's answer. -/
import Derived.Test.YtejpdfenejbjdaaGreatDoorTrA
import Derived.Test.YtejpdfenejbjdaaGreatDoorRefRight
namespace Go.Proofs.YtejpdfenejbjdaaGreatDoor
open Go.RowKit Txt
set_option linter.unusedVariables false
set_option linter.unusedSimpArgs false

/-- An event in memory. -/
structure EvAt (w : World) (g : Nat) (e : Ev) (x : Value) : Prop where
  lt : g < w.heap.size
  c0 : w.cell? ⟨g, 0, none⟩ = some (.int .i64 e.kind)
  c1 : w.cell? ⟨g, 1, none⟩ = some (.int .i64 e.tick)
  c2 : w.cell? ⟨g, 2, none⟩ = some (.int .i64 e.pid)
  c3 : w.cell? ⟨g, 3, none⟩ = some (.int .i64 e.by_)
  c4 : w.cell? ⟨g, 4, none⟩ = some x
theorem EvAt.keep {w w' : World} {g : Nat} {e : Ev} {x : Value} (h : EvAt w g e x) (hs : w.heap.size ≤ w'.heap.size) (hb : w'.heap[g]? = w.heap[g]?) : EvAt w' g e x :=
  ⟨Nat.lt_of_lt_of_le h.lt hs, (World.cell?_of_block (w := w) hb).trans h.c0, (World.cell?_of_block (w := w) hb).trans h.c1, (World.cell?_of_block (w := w) hb).trans h.c2, (World.cell?_of_block (w := w) hb).trans h.c3, (World.cell?_of_block (w := w) hb).trans h.c4⟩
theorem EvAt.below {w w' : World} {g : Nat} {e : Ev} {x : Value} (h : EvAt w g e x) (hb : Below w.heap.size w w') : EvAt w' g e x := h.keep hb.size (hb.block g h.lt)
theorem evAt_new (w : World) (e : Ev) (x : Value) : EvAt (w.alloc (.cells #[.int .i64 e.kind, .int .i64 e.tick, .int .i64 e.pid, .int .i64 e.by_, x] 24)) w.heap.size e x := by
  refine ⟨by simp, ?_, ?_, ?_, ?_, ?_⟩
  all_goals
    simp only [World.cell?, heap_alloc_new]
    rfl
theorem trow_term {k : Int} {r : TRow} (h : trow k = some r) : r.term = 0 ∨ r.term = 1 ∨ r.term = 2 := by
  unfold trow at h
  repeat' split at h
  all_goals first | (cases h; simp; done) | cases h

set_option maxHeartbeats 1000000 in
theorem tright_none (e : Ev) (x : Value) (w : World) (hr : trow e.kind = none) :
    Calls Tryz.prog 10 #[evV e x] w fun e' w' => e' = .returned (.int .i64 1) ∧ Below w.heap.size w w' := by
  have HR := Lib.hid hr; clear hr
  have hb0 : Below w.heap.size w (w.alloc (.cells #[.int .i64 e.kind, .int .i64 e.tick, .int .i64 e.pid, .int .i64 e.by_, x] 24)) := (Below.refl _ _).alloc (Nat.le_refl _) _
  have HB0 := Lib.hid hb0; clear hb0
  unfold evV
  go_enter Tryz.func10, Tryz.ntmps10
  go_wp2_with fail
  refine (rowOf_calls _ _).mono ?_
  rintro e1 w1 ⟨-, hn, hb⟩
  obtain rfl := hn HR.out
  have HB1 := Lib.hid (HB0.out.trans (hb.mono (by simp))); clear hb hn
  unfold noRow
  go_wp2
  go_ret
  exact ⟨rfl, HB1.out.alloc (by have := HB1.out.size; omega) _⟩

/-- What the walk asks of what the term must be. -/
theorem term_calls2 (tk : Nat) (h : tk = 0 ∨ tk = 1 ∨ tk = 2) (x : Value) (t : List Cl) (w : World) (hx : SeesT w x t) (hto : TextsOk t) (ht : Tabs w) :
    ∃ f, termFn tk = .func (.func f) #[] #[] ∧ Calls Tryz.prog f #[x] w fun e w' => e = .returned (.int .i64 (termE tk t)) ∧ Below w.heap.size w w' := by
  rcases h with rfl | rfl | rfl
  · exact ⟨_, rfl, (none_calls x t w hx).mono fun e w' h => ⟨h.1, h.2 ▸ Below.refl _ _⟩⟩
  · exact ⟨_, rfl, some_calls x t w hx hto ht⟩
  · exact ⟨_, rfl, name_calls x t w hx hto ht⟩

set_option maxHeartbeats 4000000 in
theorem tright_some (e : Ev) (x : Value) (r : TRow) (w : World) (hr : trow e.kind = some r) (hx : SeesT w x e.term) (hto : TextsOk e.term) (ht : Tabs w) :
    Calls Tryz.prog 10 #[evV e x] w fun e' w' => e' = .returned (.int .i64 (if e.tick < 0 ∨ e.tick > 1152921504606846976 ∨ within e.pid r.pid (if r.nobody then 0 else 1) = false ∨ within e.by_ r.by_ 0 = false then 1 else termE r.term e.term)) ∧ Below w.heap.size w w' := by
  have htk := trow_term hr
  have HR := Lib.hid hr; clear hr
  have hb0 : Below w.heap.size w (w.alloc (.cells #[.int .i64 e.kind, .int .i64 e.tick, .int .i64 e.pid, .int .i64 e.by_, x] 24)) := (Below.refl _ _).alloc (Nat.le_refl _) _
  have HB0 := Lib.hid hb0; clear hb0
  have HE0 := Lib.hid (evAt_new w e x)
  have htf := fun W h1 h2 => term_calls2 r.term htk x e.term W h1 hto h2
  have HTF := Lib.hid htf; clear htf hto
  have HTK := Lib.hid htk; clear htk
  have HX := Lib.hid hx
  have HT := Lib.hid ht; clear ht
  obtain ⟨XA, xc, rfl, -, -⟩ := hx
  obtain ⟨k, tick, pid, bb, t⟩ := e
  obtain ⟨wd, rp, rb, nb, tk⟩ := r
  dsimp only at HR HX HTF HTK HE0 HB0 ⊢
  generalize hv : (if tick < 0 ∨ tick > 1152921504606846976 ∨ within pid rp (if nb then 0 else 1) = false ∨ within bb rb 0 = false then (1 : Int) else termE tk t) = v
  have HV := Lib.hid hv; clear hv
  unfold evV
  dsimp only
  go_enter Tryz.func10, Tryz.ntmps10
  go_wp2_with fail
  refine (rowOf_calls _ _).mono ?_
  rintro e1 w1 ⟨hs, -, hb⟩
  obtain rfl := hs _ HR.out
  have HE1 := Lib.hid (HE0.out.below hb)
  have HB1 := Lib.hid (HB0.out.trans (hb.mono (by simp))); clear hb hs
  unfold rowV
  dsimp only
  have c0 := HE1.out.c0
  have c1 := HE1.out.c1
  have c2 := HE1.out.c2
  have c3 := HE1.out.c3
  have c4 := HE1.out.c4
  have hlt := HE1.out.lt
  dsimp only at c0 c1 c2 c3 c4
  obtain ⟨f, hf, -⟩ := HTF.out _ (HX.out.below HB1.out) (HT.out.below HB1.out)
  rw [hf]
  have hfin : ∀ v' W, v = v' → Below w.heap.size w W → (Ending.returned (Value.int .i64 v') = .returned (.int .i64 v)) ∧ Below w.heap.size w W := fun v' W h hb => ⟨by rw [h], hb⟩
  have HFIN := Lib.hid hfin; clear hfin
  have hb2 := HB1.out.alloc (by have := HB1.out.size; omega) (.cells #[.string wd, .bool rp, .bool rb, .bool nb, .func (.func f) #[] #[]] 63)
  have HB2 := Lib.hid hb2; clear hb2
  by_cases t1 : tick < 0
  · have hv : v = 1 := by rw [← HV.out, if_pos (.inl t1)]
    have d1 : decide (tick < 0) = true := by simpa using t1
    subst hv
    cases nb
    all_goals
      go_wp2
      go_ret
      exact HFIN.out 1 _ rfl HB2.out
  · have d1 : decide (tick < 0) = false := by simpa using t1
    by_cases t2 : tick > 1152921504606846976
    · have hv : v = 1 := by rw [← HV.out, if_pos (.inr (.inl t2))]
      have d2 : decide ((1152921504606846976 : Int) < tick) = true := by simpa using t2
      subst hv
      cases nb
      all_goals
        go_wp2
        go_ret
        exact HFIN.out 1 _ rfl HB2.out
    · have d2 : decide ((1152921504606846976 : Int) < tick) = false := by simpa using t2
      have hw1 := fun W => within_calls pid (if nb then 0 else 1) rp W
      have hw2 := fun W => within_calls bb 0 rb W
      generalize hq1 : within pid rp (if nb then 0 else 1) = q1 at *
      generalize hq2 : within bb rb 0 = q2 at *
      clear hq1 hq2
      have HW1 := Lib.hid hw1; clear hw1
      have HW2 := Lib.hid hw2; clear hw2
      cases q1 with
      | false =>
        have hv : v = 1 := by rw [← HV.out, if_pos (.inr (.inr (.inl rfl)))]
        subst hv
        cases nb
        all_goals
          go_wp2_with (go_at_call 42; refine (HW1.out _).mono ?_; rintro e2 w2 ⟨rfl, rfl⟩)
          go_ret
          exact HFIN.out 1 _ rfl HB2.out
      | true =>
        cases q2 with
        | false =>
          have hv : v = 1 := by rw [← HV.out, if_pos (.inr (.inr (.inr rfl)))]
          subst hv
          cases nb
          all_goals
            go_wp2_with fail
            refine (HW1.out _).mono ?_
            rintro e2 w2 ⟨rfl, rfl⟩
            go_wp2_with fail
            refine (HW2.out _).mono ?_
            rintro e2 w2 ⟨rfl, rfl⟩
            go_wp2
            go_ret
            exact HFIN.out 1 _ rfl HB2.out
        | true =>
          have hv : v = termE tk t := by
            rw [← HV.out, if_neg]
            rintro (h | h | h | h)
            · exact t1 h
            · exact t2 h
            · cases h
            · cases h
          subst hv
          obtain ⟨f', hf', hcall⟩ := HTF.out _ (HX.out.below HB2.out) (HT.out.below HB2.out)
          obtain rfl : f = f' := by
            have := hf.symm.trans hf'
            injection this with h1
            injection h1
          have HC := Lib.hid hcall; clear hcall hf'
          have htk := HTK.out
          clear HTK HTF
          rcases htk with rfl | rfl | rfl
          all_goals
            have hf2 := hf
            unfold termFn at hf2
            injection hf2 with hf3
            injection hf3 with hf4
            subst hf4
            clear hf
          all_goals cases nb
          all_goals
            go_wp2_with fail
            refine (HW1.out _).mono ?_
            rintro e2 w2 ⟨rfl, rfl⟩
            go_wp2_with fail
            refine (HW2.out _).mono ?_
            rintro e2 w2 ⟨rfl, rfl⟩
            go_wp2_with fail
            refine (HC.out).mono ?_
            rintro e3 w3 ⟨rfl, hb3⟩
            go_wp2
            go_ret
            exact HFIN.out _ _ rfl (HB2.out.trans (hb3.mono HB2.out.size))
theorem tright_calls (e : Ev) (x : Value) (w : World) (hx : SeesT w x e.term) (hto : TextsOk e.term) (ht : Tabs w) :
    Calls Tryz.prog 10 #[evV e x] w fun e' w' => e' = .returned (.int .i64 (evRight e)) ∧ Below w.heap.size w w' := by
  unfold evRight
  cases h : trow e.kind with
  | none => exact tright_none e x w h
  | some r => exact tright_some e x r w h hx hto ht
end Go.Proofs.YtejpdfenejbjdaaGreatDoor
