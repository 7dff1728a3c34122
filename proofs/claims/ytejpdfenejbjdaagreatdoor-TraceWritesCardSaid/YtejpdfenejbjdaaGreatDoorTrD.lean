/- Walks: trace: the reference's Right answers what Right answers. -/
import Derived.Test.YtejpdfenejbjdaaGreatDoorTrC
namespace Go.Proofs.YtejpdfenejbjdaaGreatDoor
open Go.RowKit Txt
set_option linter.unusedVariables false
set_option linter.unusedSimpArgs false

/-- What the reference refuses. -/
def RefBad (tick pid bb : Int) (rp rb nb : Bool) : Prop :=
  tick < 0 ∨ tick > 1152921504606846976 ∨ pid < (if rp && !nb then 1 else 0) ∨ pid > 1099511627776 ∨ (rp = false ∧ pid ≠ 0) ∨ bb < 0 ∨ bb > 1099511627776 ∨ (rb = false ∧ bb ≠ 0)

/-- What stands behind the numbers: the term. -/
def RTail (w : World) (k : Int) (tk : Nat) (t : List Cl) (x : Value) : Prop :=
  ∀ W, Below w.heap.size w W → SeesT W x t ∧ Tabs W

set_option maxHeartbeats 8000000 in
set_option maxRecDepth 100000 in
theorem revr_some (e : Ev) (x : Value) (r : TRow) (w : World) (hr : trow e.kind = some r) (hx : SeesT w x e.term) (hto : TextsOk e.term) (ht : Tabs w) :
    Calls Tryz.prog 11 #[evV e x] w fun e' w' => e' = .returned (.int .i64 (if e.tick < 0 ∨ e.tick > 1152921504606846976 ∨ within e.pid r.pid (if r.nobody then 0 else 1) = false ∨ within e.by_ r.by_ 0 = false then 1 else termE r.term e.term)) ∧ Below w.heap.size w w' := by
  have htk := trow_term hr
  obtain ⟨hf1, hf2, hf3⟩ := trow_facts hr
  have HR := Lib.hid hr; clear hr
  have hb0 : Below w.heap.size w (w.alloc (.cells #[.int .i64 e.kind, .int .i64 e.tick, .int .i64 e.pid, .int .i64 e.by_, x] 24)) := (Below.refl _ _).alloc (Nat.le_refl _) _
  have HB0 := Lib.hid hb0; clear hb0
  have HE0 := Lib.hid (evAt_new w e x)
  have hrc := fun W h1 h2 => rright_calls x e.term (right e.term).1 (right e.term).2 W h1 hto h2 rfl
  have HRC := Lib.hid hrc; clear hrc hto
  have HTK := Lib.hid htk; clear htk
  have HX := Lib.hid hx
  have HT := Lib.hid ht; clear ht
  obtain ⟨XA, xc, rfl, -, -⟩ := hx
  obtain ⟨k, tick, pid, bb, t⟩ := e
  obtain ⟨wd, rp, rb, nb, tk⟩ := r
  dsimp only at HR HX HRC HTK HE0 HB0 hf1 hf2 hf3 ⊢
  have hiff := within_ref pid bb rp rb nb hf2
  generalize hv : (if tick < 0 ∨ tick > 1152921504606846976 ∨ within pid rp (if nb then 0 else 1) = false ∨ within bb rb 0 = false then (1 : Int) else termE tk t) = v
  have h1 : RefBad tick pid bb rp rb nb → v = 1 := by
    intro h
    rw [← hv, if_pos]
    rcases h with h | h | h
    · exact .inl h
    · exact .inr (.inl h)
    · exact .inr (.inr (hiff.2 h))
  have h2 : ¬ RefBad tick pid bb rp rb nb → v = termE tk t := by
    intro h
    rw [← hv, if_neg]
    rintro (h' | h' | h')
    · exact h (.inl h')
    · exact h (.inr (.inl h'))
    · exact h (.inr (.inr (hiff.1 h')))
  clear hv hiff
  have H1 := Lib.hid h1; clear h1
  have H2 := Lib.hid h2; clear h2
  have hk6 : (k != 6) = !nb := by
    cases nb
    · simp at hf1; simpa using hf1
    · have := hf1.2 rfl; subst this; rfl
  have hk7 : (k == 7) = decide (tk = 2) := by
    by_cases h : tk = 2
    · have := hf3.2 h; subst this; simp [h]
    · have : k ≠ 7 := fun h' => h (hf3.1 h')
      simp [h, this]
  have HK7 := Lib.hid hk7; clear hk7 hf1 hf3
  unfold evV
  dsimp only
  go_enter Tryz.func11, Tryz.ntmps11
  go_wp2_with fail
  refine (rof_calls _ _).mono ?_
  rintro e1 w1 ⟨hs, -, hb⟩
  obtain rfl := hs _ HR.out
  have HE1 := Lib.hid (HE0.out.below hb)
  have HB1 := Lib.hid (HB0.out.trans (hb.mono (by simp))); clear hb hs
  unfold rrowV
  dsimp only
  have c0 := HE1.out.c0
  have c1 := HE1.out.c1
  have c2 := HE1.out.c2
  have c3 := HE1.out.c3
  have c4 := HE1.out.c4
  have hlt := HE1.out.lt
  dsimp only at c0 c1 c2 c3 c4
  have hfin : ∀ v' W, v = v' → Below w.heap.size w W → (Ending.returned (Value.int .i64 v') = .returned (.int .i64 v)) ∧ Below w.heap.size w W := fun v' W h hb => ⟨by rw [h], hb⟩
  have HFIN := Lib.hid hfin; clear hfin
  have hb2 := HB1.out.alloc (by have := HB1.out.size; omega) (.cells #[.string wd, .bool rb, .bool rp, .bool (tk != 0)] 68)
  have HB2 := Lib.hid hb2; clear hb2
  generalize htm : (tk != 0) = tm at *
  have HTM := Lib.hid htm; clear htm
  by_cases t1 : tick < 0
  · have hv : v = 1 := H1.out (.inl t1)
    have d1 : decide (tick < 0) = true := by simpa using t1
    subst hv
    go_wp2
    go_ret
    exact HFIN.out 1 _ rfl HB2.out
  have d1 : decide (tick < 0) = false := by simpa using t1
  by_cases t2 : tick > 1152921504606846976
  · have hv : v = 1 := H1.out (.inr (.inl t2))
    have d2 : decide ((1152921504606846976 : Int) < tick) = true := by simpa using t2
    subst hv
    go_wp2
    go_ret
    exact HFIN.out 1 _ rfl HB2.out
  have d2 : decide ((1152921504606846976 : Int) < tick) = false := by simpa using t2
  cases rp with
  | false =>
    cases nb with
    | true => exact absurd (hf2 rfl) (by decide)
    | false =>
      cases rb with
      | false =>
        simp only [Bool.not_true, Bool.not_false] at hk6
        by_cases p1 : pid < 0
        · have hv : v = 1 := H1.out (.inr (.inr (.inl p1)))
          have d3 : decide (pid < 0) = true := by simpa using p1
          subst hv
          go_wp2
          go_ret
          exact HFIN.out 1 _ rfl HB2.out
        have d3 : decide (pid < 0) = false := by simpa using p1
        by_cases p2 : pid > 1099511627776
        · have hv : v = 1 := H1.out (.inr (.inr (.inr (.inl p2))))
          have d4 : decide ((1099511627776 : Int) < pid) = true := by simpa using p2
          subst hv
          go_wp2
          go_ret
          exact HFIN.out 1 _ rfl HB2.out
        have d4 : decide ((1099511627776 : Int) < pid) = false := by simpa using p2
        by_cases p3 : pid = 0
        case neg =>
          have hv : v = 1 := H1.out (.inr (.inr (.inr (.inr (.inl ⟨rfl, p3⟩)))))
          have d5 : (pid != 0) = true := by simpa using p3
          subst hv
          go_wp2
          go_ret
          exact HFIN.out 1 _ rfl HB2.out
        have d5 : (pid != 0) = false := by simpa using p3
        by_cases p4 : bb < 0
        · have hv : v = 1 := H1.out (.inr (.inr (.inr (.inr (.inr (.inl p4))))))
          have d6 : decide (bb < 0) = true := by simpa using p4
          subst hv
          go_wp2
          go_ret
          exact HFIN.out 1 _ rfl HB2.out
        have d6 : decide (bb < 0) = false := by simpa using p4
        by_cases p5 : bb > 1099511627776
        · have hv : v = 1 := H1.out (.inr (.inr (.inr (.inr (.inr (.inr (.inl p5)))))))
          have d7 : decide ((1099511627776 : Int) < bb) = true := by simpa using p5
          subst hv
          go_wp2
          go_ret
          exact HFIN.out 1 _ rfl HB2.out
        have d7 : decide ((1099511627776 : Int) < bb) = false := by simpa using p5
        by_cases p6 : bb = 0
        case neg =>
          have hv : v = 1 := H1.out (.inr (.inr (.inr (.inr (.inr (.inr (.inr (⟨rfl, p6⟩))))))))
          have d8 : (bb != 0) = true := by simpa using p6
          subst hv
          go_wp2
          go_ret
          exact HFIN.out 1 _ rfl HB2.out
        have d8 : (bb != 0) = false := by simpa using p6
        have hv : v = termE tk t := H2.out (by
          rintro (h | h | h | h | h | h | h | h)
          · exact t1 h
          · exact t2 h
          · exact p1 h
          · exact p2 h
          · exact h.2 p3
          · exact p4 h
          · exact p5 h
          · exact h.2 p6)
        subst hv
        have htk := HTK.out
        clear HTK H1 H2
        rcases htk with rfl | rfl | rfl
        · obtain rfl : false = tm := HTM.out
          by_cases h : t.length > 0
          · have e8 : decide (0 < t.length) = true := by simpa using h
            have e9 : decide ((0 : Int) < (t.length : Int)) = true := by simp; omega
            go_wp2
            go_ret
            exact HFIN.out 3 _ (by unfold termE; rw [if_pos rfl, if_pos h]) HB2.out
          · have e8 : decide (0 < t.length) = false := decide_eq_false (by omega)
            have e9 : decide ((0 : Int) < (t.length : Int)) = false := decide_eq_false (by omega)
            go_wp2
            go_ret
            exact HFIN.out 0 _ (by unfold termE; rw [if_pos rfl, if_neg h]) HB2.out
        · obtain rfl : true = tm := HTM.out
          have k7 : (k == 7) = false := HK7.out
          have hte : termE 1 t = (right t).1 := rfl
          have HTE := Lib.hid hte; clear hte
          have HRC2 := Lib.hid (HRC.out _ (HX.out.below HB2.out) (HT.out.below HB2.out)); clear HRC
          have HE2 := Lib.hid (HE1.out.below ((Below.refl _ _).alloc (Nat.le_refl _) (.cells #[.string wd, .bool false, .bool false, .bool true] 68)))
          generalize (right t).1 = v1 at *
          go_wp2_with fail
          refine (HRC2.out).mono ?_
          rintro e2 w2 ⟨rfl, hbx⟩
          have c0' := (HE2.out.below hbx).c0
          dsimp only at c0'
          have HB3 := Lib.hid (HB2.out.trans (hbx.mono HB2.out.size)); clear hbx
          by_cases hz : v1 = 0
          · subst hz
            go_wp2
            go_ret
            exact HFIN.out 0 _ HTE.out HB3.out
          · have hv1 : (v1 != 0) = true := by simpa using hz
            go_wp2
            go_ret
            exact HFIN.out v1 _ HTE.out HB3.out
        · obtain rfl : true = tm := HTM.out
          have k7 : (k == 7) = true := HK7.out
          have hrn : (right t).1 = 0 → 0 < t.length := right_ne
          have hte : termE 2 t = if (right t).1 ≠ 0 then (right t).1 else if (t.head?.map (·.kind)) ≠ some 2 then 32 else 0 := rfl
          have HTE := Lib.hid hte; clear hte
          have HRC2 := Lib.hid (HRC.out _ (HX.out.below HB2.out) (HT.out.below HB2.out)); clear HRC
          have HE2 := Lib.hid (HE1.out.below ((Below.refl _ _).alloc (Nat.le_refl _) (.cells #[.string wd, .bool false, .bool false, .bool true] 68)))
          generalize (right t).1 = v1 at *
          go_wp2_with fail
          refine (HRC2.out).mono ?_
          rintro e2 w2 ⟨rfl, hbx⟩
          have c0' := (HE2.out.below hbx).c0
          have c4' := (HE2.out.below hbx).c4
          dsimp only at c0' c4'
          have HB3 := Lib.hid (HB2.out.trans (hbx.mono HB2.out.size)); clear hbx
          by_cases hz : v1 = 0
          · subst hz
            have hl := hrn rfl
            obtain ⟨ad, cap, hxe, -, -, hc, -⟩ := (HX.out.below HB3.out).at 0 hl
            obtain rfl : XA = some ad := by injection hxe
            have hc0 : w2.cell? ad = some (.int .i64 t[0].kind) := hc
            have hh : t.head?.map (·.kind) = some t[0].kind := by rw [List.head?_eq_getElem?, List.getElem?_eq_getElem hl]; rfl
            have hte := HTE.out
            rw [if_neg (by simp), hh] at hte
            have HTE2 := Lib.hid hte
            clear HTE hte hh hxe hc hrn
            generalize t[0].kind = kd at *
            have e8 : decide (t.length = 0) = false := decide_eq_false (by omega)
            by_cases h2 : kd = 2
            · subst h2
              go_wp2
              go_ret
              exact HFIN.out 0 _ (by rw [HTE2.out, if_neg (by simp)]) HB3.out
            · have hk : (kd != 2) = true := by simpa using h2
              go_wp2
              go_ret
              exact HFIN.out 32 _ (by rw [HTE2.out, if_pos (by simpa using h2)]) HB3.out
          · have hv1 : (v1 != 0) = true := by simpa using hz
            go_wp2
            go_ret
            exact HFIN.out v1 _ (by rw [HTE.out, if_pos hz]) HB3.out
      | true =>
        simp only [Bool.not_true, Bool.not_false] at hk6
        by_cases p1 : pid < 0
        · have hv : v = 1 := H1.out (.inr (.inr (.inl p1)))
          have d3 : decide (pid < 0) = true := by simpa using p1
          subst hv
          go_wp2
          go_ret
          exact HFIN.out 1 _ rfl HB2.out
        have d3 : decide (pid < 0) = false := by simpa using p1
        by_cases p2 : pid > 1099511627776
        · have hv : v = 1 := H1.out (.inr (.inr (.inr (.inl p2))))
          have d4 : decide ((1099511627776 : Int) < pid) = true := by simpa using p2
          subst hv
          go_wp2
          go_ret
          exact HFIN.out 1 _ rfl HB2.out
        have d4 : decide ((1099511627776 : Int) < pid) = false := by simpa using p2
        by_cases p3 : pid = 0
        case neg =>
          have hv : v = 1 := H1.out (.inr (.inr (.inr (.inr (.inl ⟨rfl, p3⟩)))))
          have d5 : (pid != 0) = true := by simpa using p3
          subst hv
          go_wp2
          go_ret
          exact HFIN.out 1 _ rfl HB2.out
        have d5 : (pid != 0) = false := by simpa using p3
        by_cases p4 : bb < 0
        · have hv : v = 1 := H1.out (.inr (.inr (.inr (.inr (.inr (.inl p4))))))
          have d6 : decide (bb < 0) = true := by simpa using p4
          subst hv
          go_wp2
          go_ret
          exact HFIN.out 1 _ rfl HB2.out
        have d6 : decide (bb < 0) = false := by simpa using p4
        by_cases p5 : bb > 1099511627776
        · have hv : v = 1 := H1.out (.inr (.inr (.inr (.inr (.inr (.inr (.inl p5)))))))
          have d7 : decide ((1099511627776 : Int) < bb) = true := by simpa using p5
          subst hv
          go_wp2
          go_ret
          exact HFIN.out 1 _ rfl HB2.out
        have d7 : decide ((1099511627776 : Int) < bb) = false := by simpa using p5
        have hv : v = termE tk t := H2.out (by
          rintro (h | h | h | h | h | h | h | h)
          · exact t1 h
          · exact t2 h
          · exact p1 h
          · exact p2 h
          · exact h.2 p3
          · exact p4 h
          · exact p5 h
          · cases h.1)
        subst hv
        have htk := HTK.out
        clear HTK H1 H2
        rcases htk with rfl | rfl | rfl
        · obtain rfl : false = tm := HTM.out
          by_cases h : t.length > 0
          · have e8 : decide (0 < t.length) = true := by simpa using h
            have e9 : decide ((0 : Int) < (t.length : Int)) = true := by simp; omega
            go_wp2
            go_ret
            exact HFIN.out 3 _ (by unfold termE; rw [if_pos rfl, if_pos h]) HB2.out
          · have e8 : decide (0 < t.length) = false := decide_eq_false (by omega)
            have e9 : decide ((0 : Int) < (t.length : Int)) = false := decide_eq_false (by omega)
            go_wp2
            go_ret
            exact HFIN.out 0 _ (by unfold termE; rw [if_pos rfl, if_neg h]) HB2.out
        · obtain rfl : true = tm := HTM.out
          have k7 : (k == 7) = false := HK7.out
          have hte : termE 1 t = (right t).1 := rfl
          have HTE := Lib.hid hte; clear hte
          have HRC2 := Lib.hid (HRC.out _ (HX.out.below HB2.out) (HT.out.below HB2.out)); clear HRC
          have HE2 := Lib.hid (HE1.out.below ((Below.refl _ _).alloc (Nat.le_refl _) (.cells #[.string wd, .bool true, .bool false, .bool true] 68)))
          generalize (right t).1 = v1 at *
          go_wp2_with fail
          refine (HRC2.out).mono ?_
          rintro e2 w2 ⟨rfl, hbx⟩
          have c0' := (HE2.out.below hbx).c0
          dsimp only at c0'
          have HB3 := Lib.hid (HB2.out.trans (hbx.mono HB2.out.size)); clear hbx
          by_cases hz : v1 = 0
          · subst hz
            go_wp2
            go_ret
            exact HFIN.out 0 _ HTE.out HB3.out
          · have hv1 : (v1 != 0) = true := by simpa using hz
            go_wp2
            go_ret
            exact HFIN.out v1 _ HTE.out HB3.out
        · obtain rfl : true = tm := HTM.out
          have k7 : (k == 7) = true := HK7.out
          have hrn : (right t).1 = 0 → 0 < t.length := right_ne
          have hte : termE 2 t = if (right t).1 ≠ 0 then (right t).1 else if (t.head?.map (·.kind)) ≠ some 2 then 32 else 0 := rfl
          have HTE := Lib.hid hte; clear hte
          have HRC2 := Lib.hid (HRC.out _ (HX.out.below HB2.out) (HT.out.below HB2.out)); clear HRC
          have HE2 := Lib.hid (HE1.out.below ((Below.refl _ _).alloc (Nat.le_refl _) (.cells #[.string wd, .bool true, .bool false, .bool true] 68)))
          generalize (right t).1 = v1 at *
          go_wp2_with fail
          refine (HRC2.out).mono ?_
          rintro e2 w2 ⟨rfl, hbx⟩
          have c0' := (HE2.out.below hbx).c0
          have c4' := (HE2.out.below hbx).c4
          dsimp only at c0' c4'
          have HB3 := Lib.hid (HB2.out.trans (hbx.mono HB2.out.size)); clear hbx
          by_cases hz : v1 = 0
          · subst hz
            have hl := hrn rfl
            obtain ⟨ad, cap, hxe, -, -, hc, -⟩ := (HX.out.below HB3.out).at 0 hl
            obtain rfl : XA = some ad := by injection hxe
            have hc0 : w2.cell? ad = some (.int .i64 t[0].kind) := hc
            have hh : t.head?.map (·.kind) = some t[0].kind := by rw [List.head?_eq_getElem?, List.getElem?_eq_getElem hl]; rfl
            have hte := HTE.out
            rw [if_neg (by simp), hh] at hte
            have HTE2 := Lib.hid hte
            clear HTE hte hh hxe hc hrn
            generalize t[0].kind = kd at *
            have e8 : decide (t.length = 0) = false := decide_eq_false (by omega)
            by_cases h2 : kd = 2
            · subst h2
              go_wp2
              go_ret
              exact HFIN.out 0 _ (by rw [HTE2.out, if_neg (by simp)]) HB3.out
            · have hk : (kd != 2) = true := by simpa using h2
              go_wp2
              go_ret
              exact HFIN.out 32 _ (by rw [HTE2.out, if_pos (by simpa using h2)]) HB3.out
          · have hv1 : (v1 != 0) = true := by simpa using hz
            go_wp2
            go_ret
            exact HFIN.out v1 _ (by rw [HTE.out, if_pos hz]) HB3.out
  | true =>
    cases nb with
    | false =>
      cases rb with
      | false =>
        simp only [Bool.not_true, Bool.not_false] at hk6
        by_cases p1 : pid < 1
        · have hv : v = 1 := H1.out (.inr (.inr (.inl p1)))
          have d3 : decide (pid < 1) = true := by simpa using p1
          subst hv
          go_wp2
          go_ret
          exact HFIN.out 1 _ rfl HB2.out
        have d3 : decide (pid < 1) = false := by simpa using p1
        by_cases p2 : pid > 1099511627776
        · have hv : v = 1 := H1.out (.inr (.inr (.inr (.inl p2))))
          have d4 : decide ((1099511627776 : Int) < pid) = true := by simpa using p2
          subst hv
          go_wp2
          go_ret
          exact HFIN.out 1 _ rfl HB2.out
        have d4 : decide ((1099511627776 : Int) < pid) = false := by simpa using p2
        by_cases p4 : bb < 0
        · have hv : v = 1 := H1.out (.inr (.inr (.inr (.inr (.inr (.inl p4))))))
          have d6 : decide (bb < 0) = true := by simpa using p4
          subst hv
          go_wp2
          go_ret
          exact HFIN.out 1 _ rfl HB2.out
        have d6 : decide (bb < 0) = false := by simpa using p4
        by_cases p5 : bb > 1099511627776
        · have hv : v = 1 := H1.out (.inr (.inr (.inr (.inr (.inr (.inr (.inl p5)))))))
          have d7 : decide ((1099511627776 : Int) < bb) = true := by simpa using p5
          subst hv
          go_wp2
          go_ret
          exact HFIN.out 1 _ rfl HB2.out
        have d7 : decide ((1099511627776 : Int) < bb) = false := by simpa using p5
        by_cases p6 : bb = 0
        case neg =>
          have hv : v = 1 := H1.out (.inr (.inr (.inr (.inr (.inr (.inr (.inr (⟨rfl, p6⟩))))))))
          have d8 : (bb != 0) = true := by simpa using p6
          subst hv
          go_wp2
          go_ret
          exact HFIN.out 1 _ rfl HB2.out
        have d8 : (bb != 0) = false := by simpa using p6
        have hv : v = termE tk t := H2.out (by
          rintro (h | h | h | h | h | h | h | h)
          · exact t1 h
          · exact t2 h
          · exact p1 h
          · exact p2 h
          · cases h.1
          · exact p4 h
          · exact p5 h
          · exact h.2 p6)
        subst hv
        have htk := HTK.out
        clear HTK H1 H2
        rcases htk with rfl | rfl | rfl
        · obtain rfl : false = tm := HTM.out
          by_cases h : t.length > 0
          · have e8 : decide (0 < t.length) = true := by simpa using h
            have e9 : decide ((0 : Int) < (t.length : Int)) = true := by simp; omega
            go_wp2
            go_ret
            exact HFIN.out 3 _ (by unfold termE; rw [if_pos rfl, if_pos h]) HB2.out
          · have e8 : decide (0 < t.length) = false := decide_eq_false (by omega)
            have e9 : decide ((0 : Int) < (t.length : Int)) = false := decide_eq_false (by omega)
            go_wp2
            go_ret
            exact HFIN.out 0 _ (by unfold termE; rw [if_pos rfl, if_neg h]) HB2.out
        · obtain rfl : true = tm := HTM.out
          have k7 : (k == 7) = false := HK7.out
          have hte : termE 1 t = (right t).1 := rfl
          have HTE := Lib.hid hte; clear hte
          have HRC2 := Lib.hid (HRC.out _ (HX.out.below HB2.out) (HT.out.below HB2.out)); clear HRC
          have HE2 := Lib.hid (HE1.out.below ((Below.refl _ _).alloc (Nat.le_refl _) (.cells #[.string wd, .bool false, .bool true, .bool true] 68)))
          generalize (right t).1 = v1 at *
          go_wp2_with fail
          refine (HRC2.out).mono ?_
          rintro e2 w2 ⟨rfl, hbx⟩
          have c0' := (HE2.out.below hbx).c0
          dsimp only at c0'
          have HB3 := Lib.hid (HB2.out.trans (hbx.mono HB2.out.size)); clear hbx
          by_cases hz : v1 = 0
          · subst hz
            go_wp2
            go_ret
            exact HFIN.out 0 _ HTE.out HB3.out
          · have hv1 : (v1 != 0) = true := by simpa using hz
            go_wp2
            go_ret
            exact HFIN.out v1 _ HTE.out HB3.out
        · obtain rfl : true = tm := HTM.out
          have k7 : (k == 7) = true := HK7.out
          have hrn : (right t).1 = 0 → 0 < t.length := right_ne
          have hte : termE 2 t = if (right t).1 ≠ 0 then (right t).1 else if (t.head?.map (·.kind)) ≠ some 2 then 32 else 0 := rfl
          have HTE := Lib.hid hte; clear hte
          have HRC2 := Lib.hid (HRC.out _ (HX.out.below HB2.out) (HT.out.below HB2.out)); clear HRC
          have HE2 := Lib.hid (HE1.out.below ((Below.refl _ _).alloc (Nat.le_refl _) (.cells #[.string wd, .bool false, .bool true, .bool true] 68)))
          generalize (right t).1 = v1 at *
          go_wp2_with fail
          refine (HRC2.out).mono ?_
          rintro e2 w2 ⟨rfl, hbx⟩
          have c0' := (HE2.out.below hbx).c0
          have c4' := (HE2.out.below hbx).c4
          dsimp only at c0' c4'
          have HB3 := Lib.hid (HB2.out.trans (hbx.mono HB2.out.size)); clear hbx
          by_cases hz : v1 = 0
          · subst hz
            have hl := hrn rfl
            obtain ⟨ad, cap, hxe, -, -, hc, -⟩ := (HX.out.below HB3.out).at 0 hl
            obtain rfl : XA = some ad := by injection hxe
            have hc0 : w2.cell? ad = some (.int .i64 t[0].kind) := hc
            have hh : t.head?.map (·.kind) = some t[0].kind := by rw [List.head?_eq_getElem?, List.getElem?_eq_getElem hl]; rfl
            have hte := HTE.out
            rw [if_neg (by simp), hh] at hte
            have HTE2 := Lib.hid hte
            clear HTE hte hh hxe hc hrn
            generalize t[0].kind = kd at *
            have e8 : decide (t.length = 0) = false := decide_eq_false (by omega)
            by_cases h2 : kd = 2
            · subst h2
              go_wp2
              go_ret
              exact HFIN.out 0 _ (by rw [HTE2.out, if_neg (by simp)]) HB3.out
            · have hk : (kd != 2) = true := by simpa using h2
              go_wp2
              go_ret
              exact HFIN.out 32 _ (by rw [HTE2.out, if_pos (by simpa using h2)]) HB3.out
          · have hv1 : (v1 != 0) = true := by simpa using hz
            go_wp2
            go_ret
            exact HFIN.out v1 _ (by rw [HTE.out, if_pos hz]) HB3.out
      | true =>
        simp only [Bool.not_true, Bool.not_false] at hk6
        by_cases p1 : pid < 1
        · have hv : v = 1 := H1.out (.inr (.inr (.inl p1)))
          have d3 : decide (pid < 1) = true := by simpa using p1
          subst hv
          go_wp2
          go_ret
          exact HFIN.out 1 _ rfl HB2.out
        have d3 : decide (pid < 1) = false := by simpa using p1
        by_cases p2 : pid > 1099511627776
        · have hv : v = 1 := H1.out (.inr (.inr (.inr (.inl p2))))
          have d4 : decide ((1099511627776 : Int) < pid) = true := by simpa using p2
          subst hv
          go_wp2
          go_ret
          exact HFIN.out 1 _ rfl HB2.out
        have d4 : decide ((1099511627776 : Int) < pid) = false := by simpa using p2
        by_cases p4 : bb < 0
        · have hv : v = 1 := H1.out (.inr (.inr (.inr (.inr (.inr (.inl p4))))))
          have d6 : decide (bb < 0) = true := by simpa using p4
          subst hv
          go_wp2
          go_ret
          exact HFIN.out 1 _ rfl HB2.out
        have d6 : decide (bb < 0) = false := by simpa using p4
        by_cases p5 : bb > 1099511627776
        · have hv : v = 1 := H1.out (.inr (.inr (.inr (.inr (.inr (.inr (.inl p5)))))))
          have d7 : decide ((1099511627776 : Int) < bb) = true := by simpa using p5
          subst hv
          go_wp2
          go_ret
          exact HFIN.out 1 _ rfl HB2.out
        have d7 : decide ((1099511627776 : Int) < bb) = false := by simpa using p5
        have hv : v = termE tk t := H2.out (by
          rintro (h | h | h | h | h | h | h | h)
          · exact t1 h
          · exact t2 h
          · exact p1 h
          · exact p2 h
          · cases h.1
          · exact p4 h
          · exact p5 h
          · cases h.1)
        subst hv
        have htk := HTK.out
        clear HTK H1 H2
        rcases htk with rfl | rfl | rfl
        · obtain rfl : false = tm := HTM.out
          by_cases h : t.length > 0
          · have e8 : decide (0 < t.length) = true := by simpa using h
            have e9 : decide ((0 : Int) < (t.length : Int)) = true := by simp; omega
            go_wp2
            go_ret
            exact HFIN.out 3 _ (by unfold termE; rw [if_pos rfl, if_pos h]) HB2.out
          · have e8 : decide (0 < t.length) = false := decide_eq_false (by omega)
            have e9 : decide ((0 : Int) < (t.length : Int)) = false := decide_eq_false (by omega)
            go_wp2
            go_ret
            exact HFIN.out 0 _ (by unfold termE; rw [if_pos rfl, if_neg h]) HB2.out
        · obtain rfl : true = tm := HTM.out
          have k7 : (k == 7) = false := HK7.out
          have hte : termE 1 t = (right t).1 := rfl
          have HTE := Lib.hid hte; clear hte
          have HRC2 := Lib.hid (HRC.out _ (HX.out.below HB2.out) (HT.out.below HB2.out)); clear HRC
          have HE2 := Lib.hid (HE1.out.below ((Below.refl _ _).alloc (Nat.le_refl _) (.cells #[.string wd, .bool true, .bool true, .bool true] 68)))
          generalize (right t).1 = v1 at *
          go_wp2_with fail
          refine (HRC2.out).mono ?_
          rintro e2 w2 ⟨rfl, hbx⟩
          have c0' := (HE2.out.below hbx).c0
          dsimp only at c0'
          have HB3 := Lib.hid (HB2.out.trans (hbx.mono HB2.out.size)); clear hbx
          by_cases hz : v1 = 0
          · subst hz
            go_wp2
            go_ret
            exact HFIN.out 0 _ HTE.out HB3.out
          · have hv1 : (v1 != 0) = true := by simpa using hz
            go_wp2
            go_ret
            exact HFIN.out v1 _ HTE.out HB3.out
        · obtain rfl : true = tm := HTM.out
          have k7 : (k == 7) = true := HK7.out
          have hrn : (right t).1 = 0 → 0 < t.length := right_ne
          have hte : termE 2 t = if (right t).1 ≠ 0 then (right t).1 else if (t.head?.map (·.kind)) ≠ some 2 then 32 else 0 := rfl
          have HTE := Lib.hid hte; clear hte
          have HRC2 := Lib.hid (HRC.out _ (HX.out.below HB2.out) (HT.out.below HB2.out)); clear HRC
          have HE2 := Lib.hid (HE1.out.below ((Below.refl _ _).alloc (Nat.le_refl _) (.cells #[.string wd, .bool true, .bool true, .bool true] 68)))
          generalize (right t).1 = v1 at *
          go_wp2_with fail
          refine (HRC2.out).mono ?_
          rintro e2 w2 ⟨rfl, hbx⟩
          have c0' := (HE2.out.below hbx).c0
          have c4' := (HE2.out.below hbx).c4
          dsimp only at c0' c4'
          have HB3 := Lib.hid (HB2.out.trans (hbx.mono HB2.out.size)); clear hbx
          by_cases hz : v1 = 0
          · subst hz
            have hl := hrn rfl
            obtain ⟨ad, cap, hxe, -, -, hc, -⟩ := (HX.out.below HB3.out).at 0 hl
            obtain rfl : XA = some ad := by injection hxe
            have hc0 : w2.cell? ad = some (.int .i64 t[0].kind) := hc
            have hh : t.head?.map (·.kind) = some t[0].kind := by rw [List.head?_eq_getElem?, List.getElem?_eq_getElem hl]; rfl
            have hte := HTE.out
            rw [if_neg (by simp), hh] at hte
            have HTE2 := Lib.hid hte
            clear HTE hte hh hxe hc hrn
            generalize t[0].kind = kd at *
            have e8 : decide (t.length = 0) = false := decide_eq_false (by omega)
            by_cases h2 : kd = 2
            · subst h2
              go_wp2
              go_ret
              exact HFIN.out 0 _ (by rw [HTE2.out, if_neg (by simp)]) HB3.out
            · have hk : (kd != 2) = true := by simpa using h2
              go_wp2
              go_ret
              exact HFIN.out 32 _ (by rw [HTE2.out, if_pos (by simpa using h2)]) HB3.out
          · have hv1 : (v1 != 0) = true := by simpa using hz
            go_wp2
            go_ret
            exact HFIN.out v1 _ (by rw [HTE.out, if_pos hz]) HB3.out
    | true =>
      cases rb with
      | false =>
        simp only [Bool.not_true, Bool.not_false] at hk6
        by_cases p1 : pid < 0
        · have hv : v = 1 := H1.out (.inr (.inr (.inl p1)))
          have d3 : decide (pid < 0) = true := by simpa using p1
          subst hv
          go_wp2
          go_ret
          exact HFIN.out 1 _ rfl HB2.out
        have d3 : decide (pid < 0) = false := by simpa using p1
        by_cases p2 : pid > 1099511627776
        · have hv : v = 1 := H1.out (.inr (.inr (.inr (.inl p2))))
          have d4 : decide ((1099511627776 : Int) < pid) = true := by simpa using p2
          subst hv
          go_wp2
          go_ret
          exact HFIN.out 1 _ rfl HB2.out
        have d4 : decide ((1099511627776 : Int) < pid) = false := by simpa using p2
        by_cases p4 : bb < 0
        · have hv : v = 1 := H1.out (.inr (.inr (.inr (.inr (.inr (.inl p4))))))
          have d6 : decide (bb < 0) = true := by simpa using p4
          subst hv
          go_wp2
          go_ret
          exact HFIN.out 1 _ rfl HB2.out
        have d6 : decide (bb < 0) = false := by simpa using p4
        by_cases p5 : bb > 1099511627776
        · have hv : v = 1 := H1.out (.inr (.inr (.inr (.inr (.inr (.inr (.inl p5)))))))
          have d7 : decide ((1099511627776 : Int) < bb) = true := by simpa using p5
          subst hv
          go_wp2
          go_ret
          exact HFIN.out 1 _ rfl HB2.out
        have d7 : decide ((1099511627776 : Int) < bb) = false := by simpa using p5
        by_cases p6 : bb = 0
        case neg =>
          have hv : v = 1 := H1.out (.inr (.inr (.inr (.inr (.inr (.inr (.inr (⟨rfl, p6⟩))))))))
          have d8 : (bb != 0) = true := by simpa using p6
          subst hv
          go_wp2
          go_ret
          exact HFIN.out 1 _ rfl HB2.out
        have d8 : (bb != 0) = false := by simpa using p6
        have hv : v = termE tk t := H2.out (by
          rintro (h | h | h | h | h | h | h | h)
          · exact t1 h
          · exact t2 h
          · exact p1 h
          · exact p2 h
          · cases h.1
          · exact p4 h
          · exact p5 h
          · exact h.2 p6)
        subst hv
        have htk := HTK.out
        clear HTK H1 H2
        rcases htk with rfl | rfl | rfl
        · obtain rfl : false = tm := HTM.out
          by_cases h : t.length > 0
          · have e8 : decide (0 < t.length) = true := by simpa using h
            have e9 : decide ((0 : Int) < (t.length : Int)) = true := by simp; omega
            go_wp2
            go_ret
            exact HFIN.out 3 _ (by unfold termE; rw [if_pos rfl, if_pos h]) HB2.out
          · have e8 : decide (0 < t.length) = false := decide_eq_false (by omega)
            have e9 : decide ((0 : Int) < (t.length : Int)) = false := decide_eq_false (by omega)
            go_wp2
            go_ret
            exact HFIN.out 0 _ (by unfold termE; rw [if_pos rfl, if_neg h]) HB2.out
        · obtain rfl : true = tm := HTM.out
          have k7 : (k == 7) = false := HK7.out
          have hte : termE 1 t = (right t).1 := rfl
          have HTE := Lib.hid hte; clear hte
          have HRC2 := Lib.hid (HRC.out _ (HX.out.below HB2.out) (HT.out.below HB2.out)); clear HRC
          have HE2 := Lib.hid (HE1.out.below ((Below.refl _ _).alloc (Nat.le_refl _) (.cells #[.string wd, .bool false, .bool true, .bool true] 68)))
          generalize (right t).1 = v1 at *
          go_wp2_with fail
          refine (HRC2.out).mono ?_
          rintro e2 w2 ⟨rfl, hbx⟩
          have c0' := (HE2.out.below hbx).c0
          dsimp only at c0'
          have HB3 := Lib.hid (HB2.out.trans (hbx.mono HB2.out.size)); clear hbx
          by_cases hz : v1 = 0
          · subst hz
            go_wp2
            go_ret
            exact HFIN.out 0 _ HTE.out HB3.out
          · have hv1 : (v1 != 0) = true := by simpa using hz
            go_wp2
            go_ret
            exact HFIN.out v1 _ HTE.out HB3.out
        · obtain rfl : true = tm := HTM.out
          have k7 : (k == 7) = true := HK7.out
          have hrn : (right t).1 = 0 → 0 < t.length := right_ne
          have hte : termE 2 t = if (right t).1 ≠ 0 then (right t).1 else if (t.head?.map (·.kind)) ≠ some 2 then 32 else 0 := rfl
          have HTE := Lib.hid hte; clear hte
          have HRC2 := Lib.hid (HRC.out _ (HX.out.below HB2.out) (HT.out.below HB2.out)); clear HRC
          have HE2 := Lib.hid (HE1.out.below ((Below.refl _ _).alloc (Nat.le_refl _) (.cells #[.string wd, .bool false, .bool true, .bool true] 68)))
          generalize (right t).1 = v1 at *
          go_wp2_with fail
          refine (HRC2.out).mono ?_
          rintro e2 w2 ⟨rfl, hbx⟩
          have c0' := (HE2.out.below hbx).c0
          have c4' := (HE2.out.below hbx).c4
          dsimp only at c0' c4'
          have HB3 := Lib.hid (HB2.out.trans (hbx.mono HB2.out.size)); clear hbx
          by_cases hz : v1 = 0
          · subst hz
            have hl := hrn rfl
            obtain ⟨ad, cap, hxe, -, -, hc, -⟩ := (HX.out.below HB3.out).at 0 hl
            obtain rfl : XA = some ad := by injection hxe
            have hc0 : w2.cell? ad = some (.int .i64 t[0].kind) := hc
            have hh : t.head?.map (·.kind) = some t[0].kind := by rw [List.head?_eq_getElem?, List.getElem?_eq_getElem hl]; rfl
            have hte := HTE.out
            rw [if_neg (by simp), hh] at hte
            have HTE2 := Lib.hid hte
            clear HTE hte hh hxe hc hrn
            generalize t[0].kind = kd at *
            have e8 : decide (t.length = 0) = false := decide_eq_false (by omega)
            by_cases h2 : kd = 2
            · subst h2
              go_wp2
              go_ret
              exact HFIN.out 0 _ (by rw [HTE2.out, if_neg (by simp)]) HB3.out
            · have hk : (kd != 2) = true := by simpa using h2
              go_wp2
              go_ret
              exact HFIN.out 32 _ (by rw [HTE2.out, if_pos (by simpa using h2)]) HB3.out
          · have hv1 : (v1 != 0) = true := by simpa using hz
            go_wp2
            go_ret
            exact HFIN.out v1 _ (by rw [HTE.out, if_pos hz]) HB3.out
      | true =>
        simp only [Bool.not_true, Bool.not_false] at hk6
        by_cases p1 : pid < 0
        · have hv : v = 1 := H1.out (.inr (.inr (.inl p1)))
          have d3 : decide (pid < 0) = true := by simpa using p1
          subst hv
          go_wp2
          go_ret
          exact HFIN.out 1 _ rfl HB2.out
        have d3 : decide (pid < 0) = false := by simpa using p1
        by_cases p2 : pid > 1099511627776
        · have hv : v = 1 := H1.out (.inr (.inr (.inr (.inl p2))))
          have d4 : decide ((1099511627776 : Int) < pid) = true := by simpa using p2
          subst hv
          go_wp2
          go_ret
          exact HFIN.out 1 _ rfl HB2.out
        have d4 : decide ((1099511627776 : Int) < pid) = false := by simpa using p2
        by_cases p4 : bb < 0
        · have hv : v = 1 := H1.out (.inr (.inr (.inr (.inr (.inr (.inl p4))))))
          have d6 : decide (bb < 0) = true := by simpa using p4
          subst hv
          go_wp2
          go_ret
          exact HFIN.out 1 _ rfl HB2.out
        have d6 : decide (bb < 0) = false := by simpa using p4
        by_cases p5 : bb > 1099511627776
        · have hv : v = 1 := H1.out (.inr (.inr (.inr (.inr (.inr (.inr (.inl p5)))))))
          have d7 : decide ((1099511627776 : Int) < bb) = true := by simpa using p5
          subst hv
          go_wp2
          go_ret
          exact HFIN.out 1 _ rfl HB2.out
        have d7 : decide ((1099511627776 : Int) < bb) = false := by simpa using p5
        have hv : v = termE tk t := H2.out (by
          rintro (h | h | h | h | h | h | h | h)
          · exact t1 h
          · exact t2 h
          · exact p1 h
          · exact p2 h
          · cases h.1
          · exact p4 h
          · exact p5 h
          · cases h.1)
        subst hv
        have htk := HTK.out
        clear HTK H1 H2
        rcases htk with rfl | rfl | rfl
        · obtain rfl : false = tm := HTM.out
          by_cases h : t.length > 0
          · have e8 : decide (0 < t.length) = true := by simpa using h
            have e9 : decide ((0 : Int) < (t.length : Int)) = true := by simp; omega
            go_wp2
            go_ret
            exact HFIN.out 3 _ (by unfold termE; rw [if_pos rfl, if_pos h]) HB2.out
          · have e8 : decide (0 < t.length) = false := decide_eq_false (by omega)
            have e9 : decide ((0 : Int) < (t.length : Int)) = false := decide_eq_false (by omega)
            go_wp2
            go_ret
            exact HFIN.out 0 _ (by unfold termE; rw [if_pos rfl, if_neg h]) HB2.out
        · obtain rfl : true = tm := HTM.out
          have k7 : (k == 7) = false := HK7.out
          have hte : termE 1 t = (right t).1 := rfl
          have HTE := Lib.hid hte; clear hte
          have HRC2 := Lib.hid (HRC.out _ (HX.out.below HB2.out) (HT.out.below HB2.out)); clear HRC
          have HE2 := Lib.hid (HE1.out.below ((Below.refl _ _).alloc (Nat.le_refl _) (.cells #[.string wd, .bool true, .bool true, .bool true] 68)))
          generalize (right t).1 = v1 at *
          go_wp2_with fail
          refine (HRC2.out).mono ?_
          rintro e2 w2 ⟨rfl, hbx⟩
          have c0' := (HE2.out.below hbx).c0
          dsimp only at c0'
          have HB3 := Lib.hid (HB2.out.trans (hbx.mono HB2.out.size)); clear hbx
          by_cases hz : v1 = 0
          · subst hz
            go_wp2
            go_ret
            exact HFIN.out 0 _ HTE.out HB3.out
          · have hv1 : (v1 != 0) = true := by simpa using hz
            go_wp2
            go_ret
            exact HFIN.out v1 _ HTE.out HB3.out
        · obtain rfl : true = tm := HTM.out
          have k7 : (k == 7) = true := HK7.out
          have hrn : (right t).1 = 0 → 0 < t.length := right_ne
          have hte : termE 2 t = if (right t).1 ≠ 0 then (right t).1 else if (t.head?.map (·.kind)) ≠ some 2 then 32 else 0 := rfl
          have HTE := Lib.hid hte; clear hte
          have HRC2 := Lib.hid (HRC.out _ (HX.out.below HB2.out) (HT.out.below HB2.out)); clear HRC
          have HE2 := Lib.hid (HE1.out.below ((Below.refl _ _).alloc (Nat.le_refl _) (.cells #[.string wd, .bool true, .bool true, .bool true] 68)))
          generalize (right t).1 = v1 at *
          go_wp2_with fail
          refine (HRC2.out).mono ?_
          rintro e2 w2 ⟨rfl, hbx⟩
          have c0' := (HE2.out.below hbx).c0
          have c4' := (HE2.out.below hbx).c4
          dsimp only at c0' c4'
          have HB3 := Lib.hid (HB2.out.trans (hbx.mono HB2.out.size)); clear hbx
          by_cases hz : v1 = 0
          · subst hz
            have hl := hrn rfl
            obtain ⟨ad, cap, hxe, -, -, hc, -⟩ := (HX.out.below HB3.out).at 0 hl
            obtain rfl : XA = some ad := by injection hxe
            have hc0 : w2.cell? ad = some (.int .i64 t[0].kind) := hc
            have hh : t.head?.map (·.kind) = some t[0].kind := by rw [List.head?_eq_getElem?, List.getElem?_eq_getElem hl]; rfl
            have hte := HTE.out
            rw [if_neg (by simp), hh] at hte
            have HTE2 := Lib.hid hte
            clear HTE hte hh hxe hc hrn
            generalize t[0].kind = kd at *
            have e8 : decide (t.length = 0) = false := decide_eq_false (by omega)
            by_cases h2 : kd = 2
            · subst h2
              go_wp2
              go_ret
              exact HFIN.out 0 _ (by rw [HTE2.out, if_neg (by simp)]) HB3.out
            · have hk : (kd != 2) = true := by simpa using h2
              go_wp2
              go_ret
              exact HFIN.out 32 _ (by rw [HTE2.out, if_pos (by simpa using h2)]) HB3.out
          · have hv1 : (v1 != 0) = true := by simpa using hz
            go_wp2
            go_ret
            exact HFIN.out v1 _ (by rw [HTE.out, if_pos hz]) HB3.out
theorem revr_calls (e : Ev) (x : Value) (w : World) (hx : SeesT w x e.term) (hto : TextsOk e.term) (ht : Tabs w) :
    Calls Tryz.prog 11 #[evV e x] w fun e' w' => e' = .returned (.int .i64 (evRight e)) ∧ Below w.heap.size w w' := by
  unfold evRight
  cases h : trow e.kind with
  | none => exact revr_none e x w h
  | some r => exact revr_some e x r w h hx hto ht
end Go.Proofs.YtejpdfenejbjdaaGreatDoor
