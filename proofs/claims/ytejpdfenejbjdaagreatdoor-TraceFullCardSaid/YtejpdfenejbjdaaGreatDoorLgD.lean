/- Walks: trace: what a log tells, one after another. -/
import Derived.Test.YtejpdfenejbjdaaGreatDoorLgC
import Derived.Test.YtejpdfenejbjdaaGreatDoorTrM
import Derived.Test.YtejpdfenejbjdaaGreatDoorShelfB
namespace Go.Proofs.YtejpdfenejbjdaaGreatDoor
open Go.RowKit Txt
set_option linter.unusedVariables false
set_option linter.unusedSimpArgs false
attribute [local go_sem] Oper.semAt_some

/-- As it was below a block, but for one. -/
structure BelowX (n ob : Nat) (w w' : World) : Prop where
  os : w'.os = w.os
  tape : w'.tape = w.tape
  output : w'.output = w.output
  size : w.heap.size ≤ w'.heap.size
  block : ∀ k, k < n → k ≠ ob → w'.heap[k]? = w.heap[k]?
theorem BelowX.refl (n ob : Nat) (w : World) : BelowX n ob w w := ⟨rfl, rfl, rfl, Nat.le_refl _, fun _ _ _ => rfl⟩
theorem BelowX.trans {n ob : Nat} {a b c : World} (h : BelowX n ob a b) (k : BelowX n ob b c) : BelowX n ob a c :=
  ⟨k.os.trans h.os, k.tape.trans h.tape, k.output.trans h.output, Nat.le_trans h.size k.size, fun i hi hn => (k.block i hi hn).trans (h.block i hi hn)⟩
theorem below_x {n ob m : Nat} {a b : World} (h : Below m a b) (hn : n ≤ m) : BelowX n ob a b := ⟨h.os, h.tape, h.output, h.size, fun i hi _ => h.block i (by omega)⟩
theorem BelowX.cell {n ob : Nat} {w w' : World} (h : BelowX n ob w w') {a : Addr} (h1 : a.block < n) (h2 : a.block ≠ ob) : w'.cell? a = w.cell? a := World.cell?_of_block (w := w) (h.block _ h1 h2)

theorem sees_keep {w w' : World} {x : Value} {t : List Cl} (h : SeesT w x t) (hk : t ≠ [] → ∀ ad n c, x = .slice (some ad) n c → w'.heap[ad.block]? = w.heap[ad.block]?) : SeesT w' x t := by
  by_cases ht : t = []
  · subst ht
    obtain ⟨A, cap, rfl, hcap, -⟩ := h
    exact ⟨A, cap, rfl, hcap, fun h => absurd rfl h⟩
  · exact h.keep fun ad ⟨n, c, e⟩ _ => hk ht ad n c e
theorem sees_lt {w : World} {x : Value} {t : List Cl} (h : SeesT w x t) (ht : t ≠ []) : ∀ ad n c, x = .slice (some ad) n c → ad.block < w.heap.size := by
  intro ad n c e
  obtain ⟨ad', cap, e', -, hl, -⟩ := h.at 0 (List.length_pos_iff.2 ht)
  rw [e'] at e; cases e; exact hl
/-- Is an event asked for? -/
def sel (pid : Int) (ks : List Int) (e : Ev) : Bool := !((pid != 0 && e.pid != pid && e.by_ != pid) || (decide (0 < ks.length) && !ks.contains e.kind))

/-- What the iterator stands on. -/
structure OfIn (n ob bl bp bk : Nat) (pid : Int) (ks : List Int) (lb rb : Nat) (room lost : Int) (es : List (Ev × Value)) (A : Option Addr) (c : Nat) (G : Option Nat) (W : World) : Prop where
  lg : LogAt W lb rb room lost es A c G
  llb : lb < n ∧ lb ≠ ob
  lrb : rb < n ∧ rb ≠ ob
  lG : ∀ g, G = some g → g < n ∧ g ≠ ob
  cl : W.cell? ⟨bl, 0, none⟩ = some (.pointer (some ⟨lb, 0, none⟩))
  ll : bl < n ∧ bl ≠ ob
  cp : W.cell? ⟨bp, 0, none⟩ = some (.int .i64 pid)
  lp : bp < n ∧ bp ≠ ob
  ck : ∃ K k, W.cell? ⟨bk, 0, none⟩ = some (.slice K ks.length k) ∧ SeesI W (.slice K ks.length k) ks ∧ ∀ a, K = some a → ks ≠ [] → a.block < n ∧ a.block ≠ ob
  lk : bk < n ∧ bk ≠ ob
  tm : ∀ p ∈ es, SeesT W p.2 p.1.term ∧ p.1.term.length * 32 ≤ 140737488351232 ∧ (p.1.term ≠ [] → ∀ ad m c, p.2 = .slice (some ad) m c → ad.block < n ∧ ad.block ≠ ob)
theorem OfIn.keep {n ob bl bp bk : Nat} {pid : Int} {ks : List Int} {lb rb : Nat} {room lost : Int} {es : List (Ev × Value)} {A : Option Addr} {c : Nat} {G : Option Nat} {W W' : World} (h : OfIn n ob bl bp bk pid ks lb rb room lost es A c G W) (hb : BelowX n ob W W') : OfIn n ob bl bp bk pid ks lb rb room lost es A c G W' := by
  refine ⟨⟨(hb.block _ h.llb.1 h.llb.2).trans h.lg.lg, h.lg.ring.keep (hb.block _ h.lrb.1 h.lrb.2) fun g hg => hb.block _ (h.lG g hg).1 (h.lG g hg).2⟩, h.llb, h.lrb, h.lG, (hb.cell (a := ⟨bl, 0, none⟩) h.ll.1 h.ll.2).trans h.cl, h.ll, (hb.cell (a := ⟨bp, 0, none⟩) h.lp.1 h.lp.2).trans h.cp, h.lp, ?_, h.lk, fun p hp => ?_⟩
  · obtain ⟨K, k, h1, h2, h3⟩ := h.ck
    refine ⟨K, k, (hb.cell (a := ⟨bk, 0, none⟩) h.lk.1 h.lk.2).trans h1, ?_, h3⟩
    obtain ⟨A', c', e, h4, h5⟩ := h2
    cases e
    refine ⟨K, k, rfl, h4, fun hne => ?_⟩
    obtain ⟨b, off, rfl, h6⟩ := h5 hne
    exact ⟨b, off, rfl, fun j u hj => (hb.cell (a := ⟨b, off + j, none⟩) (h3 _ rfl hne).1 (h3 _ rfl hne).2).trans (h6 j u hj)⟩
  · obtain ⟨h1, h2, h3⟩ := h.tm p hp
    exact ⟨sees_keep h1 fun hne ad m c e => hb.block _ (h3 hne ad m c e).1 (h3 hne ad m c e).2, h2, h3⟩
theorem RowE.sees {w : World} {A : Option Addr} {es : List (Ev × Value)} {c : Nat} {G : Option Nat} (h : RowE w A es c G) : SeesE w (.slice A es.length c) es := by
  rcases h with ⟨rfl, rfl, rfl, -⟩ | ⟨g, off, cs, rfl, -, h3, h4, -, h6⟩
  · exact ⟨none, 0, rfl, Nat.le_refl _, fun h => absurd rfl h⟩
  · refine ⟨_, c, rfl, h4, fun _ => ⟨_, rfl, fun j u hj => blk_add rfl h3 j u (h6 j u hj)⟩⟩

theorem grown_of_below {a b : World} (h : Below a.heap.size a b) : a.grownBy b none := ⟨h.os, h.tape, h.output, h.size, fun k hk _ => h.block k hk⟩
theorem take_filter_succ {α : Type} (s : α → Bool) (l : List α) (k : Nat) (x : α) (h : l[k]? = some x) : (l.take (k + 1)).filter s = (l.take k).filter s ++ (if s x then [x] else []) := by
  rw [List.take_add_one, List.filter_append, h]
  cases hs : s x <;> simp [hs]
/-- An event as yield gets it. -/
abbrev ES := Ev × Option Addr × Nat
def esv (x : ES) : Ev × Value := (x.1, .slice x.2.1 x.1.term.length x.2.2)
def evE (x : ES) : Array Value := #[evV x.1 (.slice x.2.1 x.1.term.length x.2.2)]

set_option maxHeartbeats 4000000 in
set_option maxRecDepth 100000 in
/-- For every loop body that keeps what lay below n but for one block: the events that are asked for, in their order, each in new memory. -/
theorem of1_core (m n ob bl bp bk : Nat) (pid : Int) (ks : List Int) (lb rb : Nat) (room lost : Int) (es : List (Ev × Value)) (A : Option Addr) (c : Nat) (G : Option Nat) (l : Nat) (J Jx : List ES → World → Prop) (W : World) (hks : ks.length ≤ 9223372036854775807) (hel : es.length ≤ 4096) (hn : n ≤ W.heap.size)
    (hY : ∀ pre x W1, J pre W1 → TermAt n W1 (esv x).2 x.1.term → pre.length < es.length → YieldAt Fence.wide (m - 1) Tryz.prog l (evE x) W1 fun e W' =>
      (e = .returned (.bool true) ∧ J (pre ++ [x]) W' ∧ BelowX n ob W1 W') ∨ (e = .returned (.bool false) ∧ Jx (pre ++ [x]) W'))
    (hJ : AbidesFrom W.heap.size J) (hin : OfIn n ob bl bp bk pid ks lb rb room lost es A c G W) (h0 : J [] W) :
    CallsIn Fence.wide m Tryz.prog 101 #[.func (.yield l) #[] #[], .pointer (some ⟨bl, 0, none⟩), .pointer (some ⟨bp, 0, none⟩), .pointer (some ⟨bk, 0, none⟩)] W fun e W' => (∃ v, e = .returned v) ∧
      ((∃ ys, ys.map (·.1) = (es.map (·.1)).filter (sel pid ks) ∧ J ys W') ∨ (∃ pre, pre.map (·.1) <+: (es.map (·.1)).filter (sel pid ks) ∧ Jx pre W')) := by
  have hro : Fence.wide.round = none := rfl
  refine callsIn_of_wp Tryz.func101 rfl trivial ?_ hro
  simp only [Tryz.ntmps101, List.size_toArray, List.length_cons, List.length_nil, Nat.reduceAdd, Nat.reduceSub, Array.replicate_succ, Array.replicate_zero, List.push_toArray, List.append_toArray, List.nil_append, List.cons_append]
  have c1 := hin.cl
  have c2 := (blk1 hin.lg.lg).1
  obtain ⟨c3, -⟩ := blk3 hin.lg.ring.blk
  have HIN := Lib.hid hin; clear hin
  have HY := Lib.hid hY; clear hY
  have HJ := Lib.hid hJ; clear hJ
  have H0 := Lib.hid h0; clear h0
  gi_wp2
  gi_loopw [17] (fun i wr => ∃ (k : Nat) (pre : List ES), i = .int .i64 (k : Int) ∧ k ≤ es.length ∧ pre.length ≤ k ∧ pre.map (·.1) = ((es.map (·.1)).take k).filter (sel pid ks) ∧ J pre wr ∧ BelowX n ob W wr)
    (fun i wr => es.length - (intOf i).toNat)
  case atStart => exact ⟨0, [], rfl, Nat.zero_le _, Nat.le_refl _, rfl, H0.out, BelowX.refl _ _ _⟩
  case round =>
    obtain ⟨k, pre, rfl, hk, hpl, hpre, hj, hbx⟩ := hrel
    have HJ2 := Lib.hid hj; clear hj
    have HP := Lib.hid (And.intro hpl hpre); clear hpl hpre
    have hinr := HIN.out.keep hbx
    have HBX := Lib.hid hbx; clear hbx
    by_cases hlt : k < es.length
    · have t0 : decide ((k : Int) < (es.length : Int)) = true := decide_eq_true (by omega)
      have t0' : decide (k < es.length) = true := decide_eq_true hlt
      have hki : (k : Int) < (es.length : Int) := by omega
      obtain ⟨ad, cap', he, hcap', hblk, d0, d1, d2, d3, d4⟩ := hinr.lg.ring.row.sees.at k hlt
      simp only [Value.slice.injEq] at he
      obtain ⟨rfl, -, rfl⟩ := he
      have hmem : es[k] ∈ es := List.getElem_mem hlt
      have htm := hinr.tm _ hmem
      have HINR := Lib.hid hinr
      have q2 := hinr.cp
      obtain ⟨K, kc, q3, hsi, hkb⟩ := hinr.ck
      have HSI := Lib.hid (And.intro hsi hkb); clear hsi hkb hinr
      have q2a : ∀ o, (wr.alloc o).cell? ⟨bp, 0, none⟩ = _ := fun o => (((Below.refl wr.heap.size wr).alloc (Nat.le_refl _) o).cell (p := ⟨bp, 0, none⟩) (cell_lt q2)).trans q2
      have q3a : ∀ o, (wr.alloc o).cell? ⟨bk, 0, none⟩ = _ := fun o => (((Below.refl wr.heap.size wr).alloc (Nat.le_refl _) o).cell (p := ⟨bk, 0, none⟩) (cell_lt q3)).trans q3
      generalize hpp : es[k] = p at *
      have HPP := Lib.hid hpp; clear hpp hmem
      obtain ⟨⟨ek, tick, pd, bb, t⟩, u⟩ := p
      dsimp only at *
      have HTM := Lib.hid htm
      obtain ⟨UA, uc, rfl, -, -⟩ := htm.1
      clear htm
      have hcon : 0 < ks.length → Calls Tryz.prog 102 #[.slice K ks.length kc, .int .i64 ek] (wr.alloc (.cells #[.int .i64 ek, .int .i64 tick, .int .i64 pd, .int .i64 bb, .slice UA t.length uc] 24)) fun e w' => e = .returned (.bool (ks.contains ek)) ∧ w' = (wr.alloc (.cells #[.int .i64 ek, .int .i64 tick, .int .i64 pd, .int .i64 bb, .slice UA t.length uc] 24)) := by
        intro h0
        obtain ⟨A', c', e, h4, h5⟩ := HSI.out.1.below ((Below.refl wr.heap.size wr).alloc (Nat.le_refl _) (.cells #[.int .i64 ek, .int .i64 tick, .int .i64 pd, .int .i64 bb, .slice UA t.length uc] 24))
        cases e
        obtain ⟨b, off, rfl, h6⟩ := h5 (by intro e; rw [e] at h0; simp at h0)
        have := Tryz.slices_Contains_int b off ks.length kc ks ek _ (Nat.le_refl _) hks (fun j hj => h6 j _ (by rw [List.getD_eq_getElem?_getD, List.getElem?_eq_getElem hj]; rfl))
        rwa [List.take_length] at this
      have HCON := Lib.hid hcon; clear hcon
      have hal : Below wr.heap.size wr (wr.alloc (.cells #[.int .i64 ek, .int .i64 tick, .int .i64 pd, .int .i64 bb, .slice UA t.length uc] 24)) := (Below.refl wr.heap.size wr).alloc (Nat.le_refl _) _
      have hown := own_calls ⟨ek, tick, pd, bb, t⟩ (.slice UA t.length uc) _ (HTM.out.1.below hal) HTM.out.2.1
      have hat : (es.map (·.1))[k]? = some ⟨ek, tick, pd, bb, t⟩ := by rw [List.getElem?_map, List.getElem?_eq_getElem hlt, HPP.out]; rfl
      have hsk : sel pid ks ⟨ek, tick, pd, bb, t⟩ = false → pre.map (·.1) = ((es.map (·.1)).take (k + 1)).filter (sel pid ks) := by
        intro h; rw [take_filter_succ _ _ _ _ hat, h, HP.out.2]; simp
      have hyk : sel pid ks ⟨ek, tick, pd, bb, t⟩ = true → ∀ v : Option Addr × Nat, (pre ++ [((⟨ek, tick, pd, bb, t⟩ : Ev), v)]).map (fun p : ES => p.1) = ((es.map (·.1)).take (k + 1)).filter (sel pid ks) := by
        intro h v; rw [take_filter_succ _ _ _ _ hat, h, List.map_append, HP.out.2]; simp
      unfold evV at hown
      dsimp only at hown
      have HAL := Lib.hid hal; have HOWN := Lib.hid hown; have HSK := Lib.hid hsk; have HYK := Lib.hid hyk; clear hal hown hsk hyk hat
      rcases (show ((pid != 0 && pd != pid && bb != pid) = true) ∨ ((pid != 0) = false ∨ ((pid != 0) = true ∧ (pd != pid) = false) ∨ ((pid != 0) = true ∧ (pd != pid) = true ∧ (bb != pid) = false)) by
        cases (pid != 0) <;> cases (pd != pid) <;> cases (bb != pid) <;> simp) with hf | hf
      · have hs : sel pid ks ⟨ek, tick, pd, bb, t⟩ = false := by simp only [sel, hf, Bool.true_or, Bool.not_true]
        simp only [Bool.and_eq_true] at hf
        obtain ⟨⟨f1, f2⟩, f3⟩ := hf
        gi_wp2
        · exfalso; rename_i h1 h2; cases h1
        · exfalso; rename_i h1 h2; cases h1
        · refine ⟨trivial, ?_⟩
          gi_wp2
          go_roundw
          case rel => exact ⟨k + 1, pre, by go_num, by omega, by have := HP.out.1; omega, HSK.out hs, HJ.out pre wr _ none HJ2.out (grown_of_below HAL.out) (fun r h => (by cases h)), HBX.out.trans (below_x HAL.out (Nat.le_trans hn HBX.out.size))⟩
          case measure => simp [intOf]; omega
      have hf' : (pid != 0 && pd != pid && bb != pid) = false := by rcases hf with h | ⟨h, h'⟩ | ⟨h, h', h''⟩ <;> simp only [*, Bool.and_false, Bool.false_and]
      have HF' := Lib.hid hf'; clear hf'
      rcases hf with f1 | ⟨f1, f2⟩ | ⟨f1, f2, f3⟩
      all_goals
        rcases (show ks.length = 0 ∨ (0 < ks.length ∧ ks.contains ek = true) ∨ (0 < ks.length ∧ ks.contains ek = false) by
          rcases Nat.eq_zero_or_pos ks.length with h | h
          · exact .inl h
          · cases ks.contains ek <;> simp [h]) with g1 | ⟨g1, g2⟩ | ⟨g1, g2⟩
        · have gs : sel pid ks ⟨ek, tick, pd, bb, t⟩ = true := by have g4 : decide (0 < ks.length) = false := decide_eq_false (by omega)
                                                                  simp only [sel, HF'.out, g4, Bool.false_and, Bool.false_or, Bool.not_false]
          have GSX := Lib.hid gs; clear gs
          have g3 : decide (0 < (ks.length : Int)) = false := decide_eq_false (by omega)
          gi_wp2
          refine ⟨trivial, ?_⟩
          gi_wp2
          refine ⟨trivial, fun h => (by cases h), ?_⟩
          refine (callsIn_wide.2 HOWN.out).mono ?_
          rintro r w3 ⟨A3, c3, rfl, ht3, hb3⟩
          have hb4 := HAL.out.trans (hb3.mono HAL.out.size)
          obtain ⟨fn, tmps, assign, body, hy, hR⟩ := HY.out pre (⟨ek, tick, pd, bb, t⟩, A3, c3) w3 (HJ.out pre wr w3 none HJ2.out (grown_of_below hb4) (fun r h => (by cases h))) (ht3.mono (Nat.le_trans hn (Nat.le_trans HBX.out.size HAL.out.size))) (Nat.lt_of_le_of_lt HP.out.1 hlt)
          unfold evE evV at hy
          dsimp only at hy
          have HB4 := Lib.hid hb4; clear hb3 hb4 ht3
          gi_wp2
          refine ⟨fun h => (by cases h), hR.mono ?_⟩
          rintro e W4 (⟨rfl, hj4, hk4⟩ | ⟨rfl, hjx⟩)
          · have HJ4 := Lib.hid hj4; have HK4 := Lib.hid hk4; clear hj4 hk4
            gi_wp2
            go_roundw
            case rel => exact ⟨k + 1, _, by go_num, by omega, by have := HP.out.1; simp; omega, HYK.out GSX.out _, HJ4.out, HBX.out.trans ((below_x HB4.out (Nat.le_trans hn HBX.out.size)).trans HK4.out)⟩
            case measure => simp [intOf]; omega
          · have HJX := Lib.hid hjx; clear hjx
            gi_wp2
            refine bodyPost_ret (results_none rfl _ _ _) rfl ⟨⟨_, rfl⟩, .inr ⟨_, ?_, HJX.out⟩⟩
            rw [HYK.out GSX.out]
            exact (List.take_prefix _ _).filter _
        · have gs : sel pid ks ⟨ek, tick, pd, bb, t⟩ = !(!ks.contains ek) := by have g4 : decide (0 < ks.length) = true := decide_eq_true (by omega)
                                                                                simp only [sel, HF'.out, g4, Bool.true_and, Bool.false_or]
          rw [g2] at gs
          have GSX := Lib.hid gs; clear gs
          have g3 : decide (0 < (ks.length : Int)) = true := decide_eq_true (by omega)
          gi_wp2
          refine ⟨trivial, fun h => (by cases h), ?_⟩
          refine (callsIn_wide.2 (HCON.out g1)).mono ?_
          rw [g2]
          rintro r w3 ⟨rfl, rfl⟩
          gi_wp2
          refine ⟨trivial, fun h => (by cases h), ?_⟩
          refine (callsIn_wide.2 HOWN.out).mono ?_
          rintro r w3 ⟨A3, c3, rfl, ht3, hb3⟩
          have hb4 := HAL.out.trans (hb3.mono HAL.out.size)
          obtain ⟨fn, tmps, assign, body, hy, hR⟩ := HY.out pre (⟨ek, tick, pd, bb, t⟩, A3, c3) w3 (HJ.out pre wr w3 none HJ2.out (grown_of_below hb4) (fun r h => (by cases h))) (ht3.mono (Nat.le_trans hn (Nat.le_trans HBX.out.size HAL.out.size))) (Nat.lt_of_le_of_lt HP.out.1 hlt)
          unfold evE evV at hy
          dsimp only at hy
          have HB4 := Lib.hid hb4; clear hb3 hb4 ht3
          gi_wp2
          refine ⟨fun h => (by cases h), hR.mono ?_⟩
          rintro e W4 (⟨rfl, hj4, hk4⟩ | ⟨rfl, hjx⟩)
          · have HJ4 := Lib.hid hj4; have HK4 := Lib.hid hk4; clear hj4 hk4
            gi_wp2
            go_roundw
            case rel => exact ⟨k + 1, _, by go_num, by omega, by have := HP.out.1; simp; omega, HYK.out GSX.out _, HJ4.out, HBX.out.trans ((below_x HB4.out (Nat.le_trans hn HBX.out.size)).trans HK4.out)⟩
            case measure => simp [intOf]; omega
          · have HJX := Lib.hid hjx; clear hjx
            gi_wp2
            refine bodyPost_ret (results_none rfl _ _ _) rfl ⟨⟨_, rfl⟩, .inr ⟨_, ?_, HJX.out⟩⟩
            rw [HYK.out GSX.out]
            exact (List.take_prefix _ _).filter _
        · have gs : sel pid ks ⟨ek, tick, pd, bb, t⟩ = !(!ks.contains ek) := by have g4 : decide (0 < ks.length) = true := decide_eq_true (by omega)
                                                                                simp only [sel, HF'.out, g4, Bool.true_and, Bool.false_or]
          rw [g2] at gs
          have GSX := Lib.hid gs; clear gs
          have g3 : decide (0 < (ks.length : Int)) = true := decide_eq_true (by omega)
          gi_wp2
          refine ⟨trivial, fun h => (by cases h), ?_⟩
          refine (callsIn_wide.2 (HCON.out g1)).mono ?_
          rw [g2]
          rintro r w3 ⟨rfl, rfl⟩
          gi_wp2
          go_roundw
          case rel => exact ⟨k + 1, pre, by go_num, by omega, by have := HP.out.1; omega, HSK.out GSX.out, HJ.out pre wr _ none HJ2.out (grown_of_below HAL.out) (fun r h => (by cases h)), HBX.out.trans (below_x HAL.out (Nat.le_trans hn HBX.out.size))⟩
          case measure => simp [intOf]; omega
    · have t0 : decide ((k : Int) < (es.length : Int)) = false := decide_eq_false (by omega)
      have t0' : decide (k < es.length) = false := decide_eq_false hlt
      gi_wp2
      go_end0
      exact ⟨⟨_, rfl⟩, .inl ⟨pre, by have h := HP.out.2; rw [List.take_of_length_le (by rw [List.length_map]; omega)] at h; exact h, HJ2.out⟩⟩

theorem of1_seq (m n ob bl bp bk : Nat) (pid : Int) (ks : List Int) (lb rb : Nat) (room lost : Int) (es : List (Ev × Value)) (A : Option Addr) (c : Nat) (G : Option Nat) (w : World) (hks : ks.length ≤ 9223372036854775807) (hel : es.length ≤ 4096) (hn : n ≤ w.heap.size)
    (hin : OfIn n ob bl bp bk pid ks lb rb room lost es A c G w) :
    SeqStopsK (α := ES) Fence.wide m Tryz.prog 101 #[.pointer (some ⟨bl, 0, none⟩), .pointer (some ⟨bp, 0, none⟩), .pointer (some ⟨bk, 0, none⟩)] evE (BelowX n ob)
      (fun ys => ys.map (·.1) = (es.map (·.1)).filter (sel pid ks)) (fun pre => pre.map (·.1) <+: (es.map (·.1)).filter (sel pid ks)) es.length w := by
  intro l J Jx W hW hJ hJx hY h0
  exact of1_core m n ob bl bp bk pid ks lb rb room lost es A c G l J Jx W hks hel (Nat.le_trans hn hW.size) (fun pre x W1 h1 _ h2 => hY pre x W1 h1 h2) hJ (hin.keep (below_x hW hn)) h0
/-- What the iterator stands on, behind Of. -/
theorem ofIn_of {w w1 w2 : World} {ob : Nat} {pid : Int} {ks : List Int} {lb rb : Nat} {room lost : Int} {es : List (Ev × Value)} {A : Option Addr} {c : Nat} {G : Option Nat} (hL : LogAt w lb rb room lost es A c G) (htm : ∀ p ∈ es, SeesT w p.2 p.1.term ∧ p.1.term.length * 32 ≤ 140737488351232)
    (hb : Below w.heap.size w w1) (hob : w.heap.size ≤ ob) (hob1 : ob < w1.heap.size) (ho : OfOut w1 (some ⟨lb, 0, none⟩) pid ks w1.heap.size w2) : OfIn w2.heap.size ob w1.heap.size (w1.heap.size + 1) (w1.heap.size + 2) pid ks lb rb room lost es A c G w2 := by
  have hb2 := ho.be
  have hb3 : Below w.heap.size w w2 := hb.trans (hb2.mono hb.size)
  have hs1 := hb.size
  have hs2 := hb2.size
  have hL2 := hL.below hb3
  have hl1 := hL.lt
  have hl2 : rb < w.heap.size := (Array.getElem?_eq_some_iff.1 hL.ring.blk).1
  have hl3 := fun g hg => (hL.ring.row.lt g hg).1
  have e0 := cell_lt ho.cl
  have e1 := cell_lt ho.cp
  obtain ⟨K, k, e2, e3, e4⟩ := ho.ck
  have e5 := cell_lt e2
  dsimp only at e0 e1 e5
  refine ⟨hL2, ⟨by omega, by omega⟩, ⟨by omega, by omega⟩, fun g hg => ⟨by have := hl3 g hg; omega, by have := hl3 g hg; omega⟩, ho.cl, ⟨e0, by omega⟩, ho.cp, ⟨e1, by omega⟩, ⟨K, k, e2, e3, fun a ha hne => ?_⟩, ⟨e5, by omega⟩, fun p hp => ?_⟩
  · have h1 := e4 a ha
    refine ⟨?_, by omega⟩
    obtain ⟨A', c', e, -, h5⟩ := e3
    cases e
    obtain ⟨b, off, e6, h6⟩ := h5 hne
    rw [ha] at e6
    cases e6
    obtain ⟨k0, hk0⟩ : ∃ k0, ks[0]? = some k0 := by cases ks with
      | nil => exact absurd rfl hne
      | cons x _ => exact ⟨x, rfl⟩
    exact cell_lt (h6 0 k0 hk0)
  · obtain ⟨h1, h2⟩ := htm p hp
    refine ⟨h1.below hb3, h2, fun hne ad m c e => ?_⟩
    have := sees_lt h1 hne ad m c e
    omega
end Go.Proofs.YtejpdfenejbjdaaGreatDoor
