/- Walks: ParseAll's inner function, with what it catches. -/
import Derived.Test.YtebdikbngnolbaaDoorAll
import Derived.Test.YtebdikbngnolbaaDoorParse2
import Derived.Outline
import Derived.Deep.Onto
namespace Go.Proofs.YtebdikbngnolbaaDoor
open Go.RowKit Txt
set_option linter.unusedVariables false
set_option linter.unusedSimpArgs false

theorem info_tcells : (Tryd.prog.info? 23).map (fun i => (i.zero, i.size, i.bytes)) = some (some (.slice none 0 0), 1, 24) := by kernel_rfl
/-- A list of lists of cells that the call owns, from a block on. -/
def OwnTT (base : Nat) (w : World) (v : Value) (l : List (List Cl)) : Prop :=
  ∃ vals : List Value, w.ownsRow base 23 1 v l.length vals ∧ ∀ (j : Nat) (h : j < l.length), ∃ u, vals[j]? = some u ∧ OwnT base w u l[j]
theorem OwnTT.nil (base : Nat) (w : World) : OwnTT base w (.slice none 0 0) [] := ⟨[], World.ownsRow_nil w base _ 1, fun j h => by simp at h⟩
theorem rowTT_keep {base : Nat} {w w' : World} {v : Value} {n : Nat} {vals : List Value} (h : w.ownsRow base 23 1 v n vals) (hk : ∀ g, base ≤ g → g < w.heap.size → w'.heap[g]? = w.heap[g]?) : w'.ownsRow base 23 1 v n vals := by
  obtain ⟨hl, h0 | ⟨g, cap, cur, rfl, hg, hh, r⟩⟩ := h
  · exact ⟨hl, .inl h0⟩
  · refine ⟨hl, .inr ⟨g, cap, cur, rfl, hg, ?_, r⟩⟩
    rw [hk g hg]
    · exact hh
    · rcases Nat.lt_or_ge g w.heap.size with h' | h'
      · exact h'
      · rw [Array.getElem?_eq_none h'] at hh; cases hh
theorem OwnTT.keep {base : Nat} {w w' : World} {v : Value} {l : List (List Cl)} (h : OwnTT base w v l) (hk : ∀ g, base ≤ g → g < w.heap.size → w'.heap[g]? = w.heap[g]?) : OwnTT base w' v l := by
  obtain ⟨vals, h1, h2⟩ := h
  refine ⟨vals, rowTT_keep h1 hk, fun j hj => ?_⟩
  obtain ⟨u, hu, ho⟩ := h2 j hj
  exact ⟨u, hu, ho.keep fun g hg _ hl => hk g hg hl⟩
theorem OwnTT.mono {base base' : Nat} {w : World} {v : Value} {l : List (List Cl)} (h : OwnTT base w v l) (hb : base' ≤ base) : OwnTT base' w v l := by
  obtain ⟨vals, h1, h2⟩ := h
  refine ⟨vals, World.ownsRow.mono h1 hb, fun j hj => ?_⟩
  obtain ⟨u, hu, ho⟩ := h2 j hj
  exact ⟨u, hu, ho.mono hb⟩
theorem OwnTT.sees {base : Nat} {w : World} {v : Value} {l : List (List Cl)} (h : OwnTT base w v l) : SeesTT w v l := by
  obtain ⟨vals, h1, h2⟩ := h
  obtain ⟨hl, ⟨rfl, h0⟩ | ⟨g, cap, cur, rfl, hg, hh, hn, r⟩⟩ := id h1
  · have : l = [] := List.length_eq_zero_iff.1 h0
    subst this
    exact ⟨none, 0, rfl, Nat.le_refl _, fun h => absurd rfl h⟩
  · refine ⟨some ⟨g, 0, none⟩, cap, rfl, hn, fun _ => ⟨_, rfl, ?_, fun j hj => ?_⟩⟩
    · rcases Nat.lt_or_ge g w.heap.size with h' | h'
      · exact h'
      · rw [Array.getElem?_eq_none h'] at hh; cases hh
    · obtain ⟨u, hu, ho⟩ := h2 j hj
      exact ⟨u, World.ownsRow.cells h1 rfl j u hu, ho.sees⟩
theorem tt_apart {base : Nat} {w : World} {v u : Value} {n : Nat} {vals : List Value} {t : List Cl} (h : w.ownsRow base 23 1 v n vals) (h' : OwnT base w u t) : u.ownBlock = none ∨ u.ownBlock ≠ v.ownBlock := by
  obtain ⟨-, ⟨rfl, -⟩ | ⟨g, cap, cur, rfl, -, hg, -⟩⟩ := h'
  · exact .inl rfl
  · right
    obtain ⟨-, ⟨rfl, -⟩ | ⟨g', cap', cur', rfl, -, hg', -⟩⟩ := h
    · simp [Value.ownBlock]
    · simp only [Value.ownBlock]
      intro e
      cases e
      rw [hg] at hg'
      simp at hg'
/-- One more. -/
theorem OwnTT.more {base : Nat} {w w' : World} {v v' u : Value} {l : List (List Cl)} {t : List Cl} {vals : List Value} (hr : w.ownsRow base 23 1 v l.length vals) (he : ∀ (j : Nat) (h : j < l.length), ∃ u, vals[j]? = some u ∧ OwnT base w u l[j]) (hu : OwnT base w u t)
    (hown : w'.ownsRow base 23 1 v' (l.length + 1) (vals ++ [u])) (hg : w.grownBy w' v.ownBlock) : OwnTT base w' v' (l ++ [t]) := by
  have hlen : vals.length = l.length := by have := hr.1; omega
  refine ⟨vals ++ [u], by rw [List.length_append]; exact hown, fun j hj => ?_⟩
  by_cases hjl : j < l.length
  · obtain ⟨x, hx, ho⟩ := he j hjl
    refine ⟨x, by rw [List.getElem?_append_left (by omega)]; exact hx, ?_⟩
    rw [List.getElem_append_left hjl]
    exact World.ownsRow.kept ho hg (tt_apart hr ho)
  · have hj' : j = l.length := by simp at hj; omega
    subst hj'
    refine ⟨u, by rw [List.getElem?_append_right (by omega), hlen]; simp, ?_⟩
    simp only [List.getElem_append_right (Nat.le_refl _), Nat.sub_self, List.getElem_cons_zero]
    exact World.ownsRow.kept hu hg (tt_apart hr hu)

def P3 (B gf gt : Nat) (w : World) (r : List (List Cl) × Int × Nat) (e : Ending) (w' : World) : Prop :=
  e = .returned (.tuple #[]) ∧ Below B w w' ∧ w'.frozen? ⟨gt, 0, none⟩ = false ∧ (∃ v, w'.cell? ⟨gt, 0, none⟩ = some v ∧ (r.2.1 = 0 → OwnTT w.heap.size w' v r.1)) ∧ w'.cell? ⟨gf, 0, none⟩ = some (.int .i64 r.2.1) ∧ w'.cell? ⟨gf, 1, none⟩ = some (.int .i64 (r.2.2 : Int))

/-- What is so at the loop's head, and in the midst of a round. -/
structure QL (B gf gs gt : Nat) (s : ByteArray) (x : Value) (l : List (List Cl)) (w w' : World) : Prop where
  own : OwnTT (w.heap.size + 1) w' x l
  below : Below B w w'
  sz : w.heap.size + 1 ≤ w'.heap.size
  cs : w'.cell? ⟨gs, 0, none⟩ = some (.string s)
  f0 : w'.cell? ⟨gf, 0, none⟩ = some (.int .i64 0)
  f1 : w'.cell? ⟨gf, 1, none⟩ = some (.int .i64 0)
  t0 : w'.cell? ⟨gt, 0, none⟩ = some x
  zf0 : w'.frozen? ⟨gf, 0, none⟩ = false
  zf1 : w'.frozen? ⟨gf, 1, none⟩ = false
  zt : w'.frozen? ⟨gt, 0, none⟩ = false
theorem QL.step {B gf gs gt : Nat} {s : ByteArray} {x : Value} {l : List (List Cl)} {w w1 w2 : World} (h : QL B gf gs gt s x l w w1) (hv : V1 B gf gs gt s w) (hB : B ≤ w.heap.size) (hm : Mv w.heap.size w1 w2) : QL B gf gs gt s x l w w2 := by
  have l1 := hv.lf
  have l2 := hv.lt
  have l3 := hv.ls
  have hsz := h.sz
  have hbf := hm.block gf (by omega) (by omega)
  have hbt := hm.block gt (by omega) (by omega)
  have hbs := hm.block gs (by omega) (by omega)
  refine ⟨h.own.keep fun g hg hgl => hm.block g hgl (by omega), ⟨hm.os.trans h.below.os, hm.tape.trans h.below.tape, hm.output.trans h.below.output, Nat.le_trans h.below.size hm.size, fun k hk => (hm.block k (by omega) (by omega)).trans (h.below.block k hk)⟩, Nat.le_trans hsz hm.size,
    (World.cell?_of_block (w := w1) hbs).trans h.cs, (World.cell?_of_block (w := w1) hbf).trans h.f0, (World.cell?_of_block (w := w1) hbf).trans h.f1, (World.cell?_of_block (w := w1) hbt).trans h.t0,
    (World.frozen?_of_block (w := w1) hbf).trans h.zf0, (World.frozen?_of_block (w := w1) hbf).trans h.zf1, (World.frozen?_of_block (w := w1) hbt).trans h.zt⟩
theorem QL.drewN {B gf gs gt : Nat} {s : ByteArray} {x : Value} {l : List (List Cl)} {w w1 : World} (h : QL B gf gs gt s x l w w1) (n : Nat) : QL B gf gs gt s x l w (w1.drewN n) :=
  ⟨h.own, ⟨h.below.os, h.below.tape, h.below.output, h.below.size, h.below.block⟩, h.sz, h.cs, h.f0, h.f1, h.t0, h.zf0, h.zf1, h.zt⟩
theorem QL.catch {B gf gs gt : Nat} {s : ByteArray} {x : Value} {l : List (List Cl)} {e1 : Int} {a1 : Nat} {w W w2 : World} (h : QL B gf gs gt s x l w W) (hv : V1 B gf gs gt s w) (hne : e1 ≠ 0) (hm : Mv gf W w2)
    (k0 : w2.cell? ⟨gf, 0, none⟩ = some (.int .i64 e1)) (k1 : w2.cell? ⟨gf, 1, none⟩ = some (.int .i64 (a1 : Int))) : P3 B gf gt w ([], e1, a1) (.returned (.tuple #[])) w2 := by
  have hk := hm.block gt (by have := hv.lt; have := h.sz; omega) (Ne.symm hv.nf)
  have hbf := hv.bf
  have hlf := hv.lf
  have hsz := h.below.size
  refine ⟨rfl, ⟨hm.os.trans h.below.os, hm.tape.trans h.below.tape, hm.output.trans h.below.output, Nat.le_trans h.below.size hm.size, fun k hk => (hm.block k (by omega) (by omega)).trans (h.below.block k hk)⟩, (World.frozen?_of_block (w := W) hk).trans h.zt, ⟨x, (World.cell?_of_block (w := W) hk).trans h.t0, fun he => absurd he hne⟩, k0, k1⟩

/-- One more term, put into the result. -/
theorem QL.push {B gf gs gt : Nat} {s : ByteArray} {x v' u : Value} {l : List (List Cl)} {t : List Cl} {w w5 w6 : World} {o : Obj} {vals : List Value} (h : QL B gf gs gt s x l w w5) (hv : V1 B gf gs gt s w) (hB : B ≤ w.heap.size)
    (hr : w5.ownsRow (w.heap.size + 1) 23 1 x l.length vals) (he : ∀ (j : Nat) (h : j < l.length), ∃ u, vals[j]? = some u ∧ OwnT (w.heap.size + 1) w5 u l[j]) (hu : OwnT (w.heap.size + 1) w5 u t)
    (hown : w6.ownsRow (w.heap.size + 1) 23 1 v' (l.length + 1) (vals ++ [u])) (hg : (w5.alloc o).grownBy w6 x.ownBlock) :
    QL B gf gs gt s v' (l ++ [t]) w (w6.setCell ⟨gt, 0, none⟩ v') ∧ (∀ p, Rd w.heap.size s p w5 → Rd w.heap.size s p (w6.setCell ⟨gt, 0, none⟩ v')) ∧ w6.cell? ⟨gt, 0, none⟩ = some x ∧ w6.frozen? ⟨gt, 0, none⟩ = false := by
  have l1 := hv.lf
  have l2 := hv.lt
  have l3 := hv.ls
  have nf := hv.nf
  have ns := hv.ns
  have hge : ∀ g, x.ownBlock = some g → w.heap.size + 1 ≤ g := fun g hg => (World.ownsRow.lt hr g hg).1
  have hsz := h.sz
  have hsz6 : w5.heap.size + 1 ≤ w6.heap.size := by have := hg.size; simpa using this
  have blk : ∀ k, k ≤ w.heap.size → w6.heap[k]? = w5.heap[k]? := fun k hk =>
    (hg.block k (by simp; omega) (fun e => by have := hge k e.symm; omega)).trans (Below.heap_alloc _ _ _ (by omega))
  have blk2 : ∀ k, k ≤ w.heap.size → k ≠ gt → (w6.setCell ⟨gt, 0, none⟩ v').heap[k]? = w5.heap[k]? := fun k hk hn => (Below.heap_setCell _ _ _ _ hn).trans (blk k hk)
  have hc6 : w6.cell? ⟨gt, 0, none⟩ = some x := (World.cell?_of_block (w := w5) (blk gt (by omega))).trans h.t0
  have hf6 : w6.frozen? ⟨gt, 0, none⟩ = false := (World.frozen?_of_block (w := w5) (blk gt (by omega))).trans h.zt
  have hss : (w6.setCell ⟨gt, 0, none⟩ v').heap.size = w6.heap.size := by simp [World.setCell]
  have hm : OwnTT (w.heap.size + 1) w6 v' (l ++ [t]) :=
    OwnTT.more (w := w5.alloc o) (hr.alloc o) (fun j hj => by
      obtain ⟨y, h1, h2⟩ := he j hj
      exact ⟨y, h1, World.ownsRow.alloc h2 o⟩) (World.ownsRow.alloc hu o) hown hg
  have hbt := hv.bt
  refine ⟨⟨hm.keep fun g hgl _ => Below.heap_setCell _ _ _ _ (by simp; omega), ?_, by omega, ?_, ?_, ?_, ?_, ?_, ?_, ?_⟩, fun p hp => hp.keep (by omega) (blk2 _ (Nat.le_refl _) (by omega)), hc6, hf6⟩
  · refine ⟨?_, ?_, ?_, ?_, fun k hk => (blk2 k (by omega) (by omega)).trans (h.below.block k hk)⟩
    · exact hg.os.trans h.below.os
    · exact hg.tape.trans h.below.tape
    · exact hg.output.trans h.below.output
    · have := h.below.size; omega
  · exact (World.cell?_of_block (w := w5) (blk2 gs (by omega) ns)).trans h.cs
  · exact (World.cell?_of_block (w := w5) (blk2 gf (by omega) (by omega))).trans h.f0
  · exact (World.cell?_of_block (w := w5) (blk2 gf (by omega) (by omega))).trans h.f1
  · exact cell_eq hc6 _
  · exact (World.frozen?_of_block (w := w5) (blk2 gf (by omega) (by omega))).trans h.zf0
  · exact (World.frozen?_of_block (w := w5) (blk2 gf (by omega) (by omega))).trans h.zf1
  · rw [World.frozen?_setCell]; exact hf6

set_option maxHeartbeats 8000000 in
set_option maxRecDepth 100000 in
theorem pall1_calls (B gf gs gt : Nat) (s : ByteArray) (R : List (List Cl) × Int × Nat) (w : World) (hv : V1 B gf gs gt s w) (ht0 : w.cell? ⟨gt, 0, none⟩ = some (.slice none 0 0)) (hs : s.size ≤ 65536) (ht : Tabs w) (hB : B ≤ w.heap.size) (hng : ng ≤ B) (hR : parseAllF s (s.size + 1) 0 [] = R) :
    Calls Tryd.prog 25 #[.pointer (some ⟨gf, 0, none⟩), .pointer (some ⟨gs, 0, none⟩), .pointer (some ⟨gt, 0, none⟩)] w (P3 B gf gt w R) := by
  obtain ⟨i1, hi1, hy0, hy1, hy2⟩ := info_parts info_tcells
  have HR := Lib.hid hR; clear hR
  have HV := Lib.hid hv
  have hcs := hv.cs
  have HT := Lib.hid ht; clear ht
  have hq0 : QL B gf gs gt s (.slice none 0 0) [] w (w.alloc (.cells #[.string s, .int .i64 0] 47)) := by
    have hb : Below w.heap.size w (w.alloc (.cells #[.string s, .int .i64 0] 47)) := (Below.refl _ _).alloc (Nat.le_refl _) _
    have hv1 := hv.keep hb.size hb.block
    exact ⟨OwnTT.nil _ _, hb.mono hB, by simp, hv1.cs, hv1.f0, hv1.f1, (hb.cell (p := ⟨gt, 0, none⟩) hv.lt).trans ht0, hv1.zf0, hv1.zf1, hv1.zt⟩
  have HQ0 := Lib.hid hq0; clear hq0 hv ht0
  go_enter_defers Tryd.func25, Tryd.ntmps25
  go_wp2_with fail
  refine (blanks_calls w.heap.size s 0 _ (rd_new s w) (Nat.zero_le _) (by omega)).mono ?_
  rintro e w2 ⟨rfl, hr2, hm2⟩
  have HQ2 := Lib.hid (HQ0.out.step HV.out hB hm2)
  have HD2 := Lib.hid hr2; clear hr2 hm2
  go_wp2_with fail
  go_loopw [] (fun wr => ∃ (k p : Nat) (acc : List (List Cl)) (x : Value), parseAllF s k p acc = R ∧ s.size < p + k ∧ p ≤ s.size ∧ acc.length ≤ p ∧ QL B gf gs gt s x acc w wr ∧ Rd w.heap.size s (skip s p) wr) (fun wr => s.size - (intOf ((wr.cell? ⟨w.heap.size, 1, none⟩).getD undef)).toNat)
  case atStart => exact ⟨s.size + 1, 0, [], .slice none 0 0, HR.out, by omega, Nat.zero_le _, Nat.le_refl _, HQ2.out, HD2.out⟩
  case round =>
    obtain ⟨k, p, acc, x, hf, hkp, hp, hap, hq, hd⟩ := hrel
    obtain ⟨k, rfl⟩ : ∃ j, k = j + 1 := ⟨k - 1, by omega⟩
    have HF := Lib.hid hf; clear hf
    have HQ := Lib.hid hq; clear hq
    have HD := Lib.hid hd; clear hd
    have hsk := skip_le hp
    have hskg := le_skip s p
    have hpos : (wr.cell? ⟨w.heap.size, 1, none⟩).getD undef = .int .i64 (skip s p : Int) := by rw [HD.out.c1]; rfl
    have HPOS := Lib.hid hpos; clear hpos
    have hF := HF.out
    rw [parseAllF] at hF
    have HF2 := Lib.hid hF; clear hF HF
    generalize skip s p = z at *
    have c1 := HD.out.c1
    have hcs := HQ.out.cs
    go_wp2_with fail
    go_quiet (fail)
    have HQ3 := Lib.hid (HQ.out.drewN nq)
    have HD3 := Lib.hid (HD.out.drewN nq)
    clear hcs c1
    generalize wr.drewN nq = wq at *
    have c1 := HD3.out.c1
    by_cases hz : z < s.size
    · have hF := HF2.out
      rw [if_pos hz] at hF
      have HTQ := Lib.hid (HT.out.keep (w' := wq) HQ3.out.below.size fun k hk => HQ3.out.below.block k (by omega))
      have htc := term_calls w.heap.size s (fuel s z) z wq HD3.out hsk (by omega) HTQ.out HT.out.lt (by unfold fuel; omega)
      have hfin : ∀ (e1 : Int) (a1 : Nat) (W w'' : World), QL B gf gs gt s x acc w W → e1 ≠ 0 → R = ([], e1, a1) → Mv gf W w'' → w''.cell? ⟨gf, 0, none⟩ = some (.int .i64 e1) → w''.cell? ⟨gf, 1, none⟩ = some (.int .i64 (a1 : Int)) → P3 B gf gt w R (.returned (.tuple #[])) w'' := by
        intro e1 a1 W w'' h1 h2 h3 h4 h5 h6
        rw [h3]; exact h1.catch HV.out h2 h4 h5 h6
      have HFIN := Lib.hid hfin; clear hfin
      cases hT : term (fuel s z) s z with
      | bad e1 a1 =>
        have hne := term_ne hT
        rw [hT] at hF htc
        have HE := Lib.hid (And.intro hne hF.symm); clear hne hF hT
        have HTC := Lib.hid htc; clear htc HF2
        go_wp2_with fail
        refine (HTC.out).mono ?_
        rintro e w4 ⟨rfl, hm⟩
        have HQ4 := Lib.hid (HQ3.out.step HV.out hB hm); clear hm
        go_wp2
        refine leaves_cons (f := 15) (args := #[.pointer (some ⟨gf, 0, none⟩)]) (by simp) (by simp [go_sem]) ?_
        refine (caught_hit gf e1 (a1 : Int) _ _ _ HQ4.out.f0 HQ4.out.f1 HQ4.out.zf0 HQ4.out.zf1).mono ?_
        rintro e u' w'' ⟨rfl, rfl, hm2, k0, k1⟩
        exact ⟨_, results_none rfl _ _ _, HFIN.out e1 a1 w4 w'' HQ4.out HE.out.1 HE.out.2 hm2 k0 k1⟩
      | ok t q =>
        have hpq := term_p hsk hT
        rw [hT] at hF htc
        simp only at hF
        have HTC := Lib.hid htc; clear htc HF2
        have HF3 := Lib.hid hF; clear hF hT
        go_wp2_with fail
        refine (HTC.out).mono ?_
        rintro e w4 ⟨xt, rfl, ho, hr, hm⟩
        have HQ4 := Lib.hid (HQ3.out.step HV.out hB hm)
        have HO4 := Lib.hid (OwnT.mono ho (base' := w.heap.size + 1) HQ3.out.sz)
        have HD4 := Lib.hid hr; clear hm ho hr
        obtain ⟨Xt, xc, rfl, -, -⟩ := HO4.out.sees
        have hq2 := skip_le hpq.2.1
        have hq1 := le_skip s q
        cases hst : starts s (skip s q) [46] with
        | false =>
          have hw : want s q [46] = .bad 70 (skip s q + common s (skip s q) [46]) := by unfold want; rw [if_neg (by rw [hst]; decide)]
          have hF := HF3.out
          rw [hw] at hF
          have HE := Lib.hid hF.symm; clear hF hw
          have HST := Lib.hid hst; clear hst
          go_wp2_with fail
          refine (want_no w.heap.size s ⟨#[46]⟩ q w4 HD4.out hpq.2.1 (by omega) (by decide) HST.out).mono ?_
          rintro e w5 ⟨rfl, hm⟩
          have HQ5 := Lib.hid (HQ4.out.step HV.out hB hm); clear hm
          unfold thrown
          go_wp2
          refine leaves_cons (f := 15) (args := #[.pointer (some ⟨gf, 0, none⟩)]) (by simp) (by simp [go_sem]) ?_
          refine (caught_hit gf 70 ((skip s q + common s (skip s q) [46] : Nat) : Int) _ _ _ HQ5.out.f0 HQ5.out.f1 HQ5.out.zf0 HQ5.out.zf1).mono ?_
          rintro e u' w'' ⟨rfl, rfl, hm2, k0, k1⟩
          exact ⟨_, results_none rfl _ _ _, HFIN.out 70 _ w5 w'' HQ5.out (by decide) HE.out hm2 k0 k1⟩
        | true =>
          have hw : want s q [46] = .ok () (skip s q + 1) := by unfold want; rw [if_pos hst]; rfl
          have hF := HF3.out
          rw [hw] at hF
          simp only at hF
          have hle := starts_le hq2 hst
          simp only [List.length_cons, List.length_nil] at hle
          have HF4 := Lib.hid hF; clear hF hw HF3
          have HST := Lib.hid hst; clear hst
          go_wp2_with fail
          refine (want_yes w.heap.size s ⟨#[46]⟩ q w4 HD4.out hpq.2.1 (by omega) HST.out).mono ?_
          rintro e w5 ⟨rfl, hr, hm⟩
          have HQ5 := Lib.hid (HQ4.out.step HV.out hB hm)
          have HO5 := Lib.hid (HO4.out.mv hm (by omega))
          have HD5 := Lib.hid hr; clear hr hm
          by_cases hbig : t.length > 1024
          · have hF := HF4.out
            rw [if_pos hbig] at hF
            have HE := Lib.hid hF.symm; clear hF
            have hd : decide ((1024 : Int) < (t.length : Int)) = true := by simp; omega
            go_wp2_with fail
            refine (fail_calls _ _ _ _).mono ?_
            rintro e w6 ⟨rfl, rfl⟩
            go_wp2
            refine leaves_cons (f := 15) (args := #[.pointer (some ⟨gf, 0, none⟩)]) (by simp) (by simp [go_sem]) ?_
            refine (caught_hit gf 7 (z : Int) _ _ _ HQ5.out.f0 HQ5.out.f1 HQ5.out.zf0 HQ5.out.zf1).mono ?_
            rintro e u' w'' ⟨rfl, rfl, hm2, k0, k1⟩
            exact ⟨_, results_none rfl _ _ _, HFIN.out 7 z w6 w'' HQ5.out (by decide) HE.out hm2 k0 k1⟩
          · have hF := HF4.out
            rw [if_neg hbig] at hF
            have HF5 := Lib.hid hF; clear hF HF4
            have hd : decide ((1024 : Int) < (t.length : Int)) = false := by simp; omega
            have t0 := HQ5.out.t0
            have zt := HQ5.out.zt
            have HLN := Lib.hid (And.intro hap (And.intro hskg (And.intro hpq.1 (And.intro hq1 hle))))
            clear hap
            obtain ⟨vals, hrow, hels⟩ := HQ5.out.own
            have HROW := Lib.hid hrow
            have HELS := Lib.hid hels; clear hels
            obtain ⟨XA, xn, xcc, rfl⟩ := own_slice hrow
            clear hrow
            go_wp2_with (at_builtin; refine wpList_append_own _ rfl _ _ 30 rfl (w.heap.size + 1) 23 i1 (.slice none 0 0) 1 24 Tryd.underlying30 hi1 hy0 hy1 hy2 rfl (by decide) _ _ _ rfl (World.ownsRow.alloc HROW.out _) ⟨w5.heap.size, 0, none⟩ 1 1 [.slice Xt t.length xc] rfl rfl ?a1 ?a2 ?a3 ?a4 ?a5 ?_)
            case a1 => exact new_list w5 [.slice Xt t.length xc] _ _ rfl
            case a2 => intro y hy; simp at hy; subst hy; rfl
            case a3 => have := HLN.out.1; unfold maxLen; omega
            case a4 => have := HLN.out.1; omega
            case a5 => have := HQ5.out.sz; simp; omega
            intro v' w6 hown hgrow _
            obtain ⟨hQ6, hD6, hc6, hz6⟩ := HQ5.out.push HV.out hB HROW.out HELS.out HO5.out hown hgrow
            have HQ6 := Lib.hid hQ6
            have HD6 := Lib.hid (hD6 _ HD5.out)
            obtain ⟨VA, vn, vcc, rfl⟩ := own_slice hown
            clear hQ6 hD6 hown hgrow t0 zt
            go_wp2_with fail
            refine (blanks_calls w.heap.size s _ _ HD6.out (by exact hle) (by omega)).mono ?_
            rintro e w7 ⟨rfl, hr7, hm7⟩
            have HQ7 := Lib.hid (HQ6.out.step HV.out hB hm7)
            have hr8 : Rd w.heap.size s (skip s (skip s q + 1)) w7 := hr7
            have HD7 := Lib.hid hr8; clear hr7 hr8 hm7
            go_wp2_with fail
            go_roundw
            case rel => exact ⟨k, skip s q + 1, acc ++ [t], _, HF5.out, by omega, by omega, by have := HLN.out.1; simp only [List.length_append, List.length_cons, List.length_nil]; omega, HQ7.out, HD7.out⟩
            case measure => rw [HPOS.out, HD7.out.c1]; simp [intOf]; have := le_skip s (skip s q + 1); omega
    · have hF := HF2.out
      rw [if_neg hz] at hF
      subst hF
      go_wp2
      refine leaves_cons (f := 15) (args := #[.pointer (some ⟨gf, 0, none⟩)]) (by simp) (by simp [go_sem]) ?_
      refine (caught_idle ⟨gf, 0, none⟩ _).mono ?_
      rintro e u' w'' ⟨rfl, rfl, rfl⟩
      exact ⟨_, results_none rfl _ _ _, rfl, HQ3.out.below, HQ3.out.zt, ⟨_, HQ3.out.t0, fun _ => HQ3.out.own.mono (by omega)⟩, HQ3.out.f0, HQ3.out.f1⟩
end Go.Proofs.YtebdikbngnolbaaDoor

namespace Go.Proofs.YtebdikbngnolbaaDoor
open Go.RowKit Txt
set_option linter.unusedVariables false
set_option linter.unusedSimpArgs false

theorem parseAllF_out (s : ByteArray) : ∀ (k p : Nat) (acc : List (List Cl)), ((parseAllF s k p acc).2.1 ≠ 0 ∧ (parseAllF s k p acc).1 = []) ∨ ((parseAllF s k p acc).2.1 = 0 ∧ (parseAllF s k p acc).2.2 = 0) := by
  intro k
  induction k with
  | zero => intro p acc; left; exact ⟨by simp [parseAllF], rfl⟩
  | succ k ih =>
    intro p acc
    rw [parseAllF]
    split
    · split
      · rename_i e a ht
        left; exact ⟨term_ne ht, rfl⟩
      · rename_i t q ht
        split
        · rename_i e a hw
          left
          refine ⟨?_, rfl⟩
          unfold want at hw
          split at hw
          · cases hw
          · cases hw; show (70 : Int) ≠ 0; decide
        · split
          · left; exact ⟨by show (7 : Int) ≠ 0; decide, rfl⟩
          · exact ih _ _
    · right; exact ⟨rfl, rfl⟩

/-- What comes of ParseAll. -/
def ParseAllOut (w : World) (r : List (List Cl) × Int × Nat) (e : Ending) (w' : World) : Prop :=
  ∃ x, e = .returned (.tuple #[x, .int .i64 r.2.1, .int .i64 (r.2.2 : Int)]) ∧ SeesTT w' x r.1 ∧ Below w.heap.size w w'

theorem results_parseAll (gt : Nat) (A : Option Addr) (n c : Nat) (tmps : Array Value) (w : World) (hp : tmps[2]?.getD undef = .pointer (some ⟨gt, 0, none⟩)) (hc : w.cell? ⟨gt, 0, none⟩ = some (.slice A n c)) :
    (results Tryd.f12 tmps).run Tryd.prog w = .ok (.tuple #[.slice A n c, tmps[3]?.getD undef, tmps[4]?.getD undef]) w := by
  simp [results, Tryd.results12, hp, hc, go_sem]

set_option maxHeartbeats 2000000 in
set_option maxRecDepth 100000 in
theorem parseAll_calls (s : ByteArray) (w : World) (ht : Tabs w) (hs : s.size ≤ 140737488355328) :
    Calls Tryd.prog 12 #[.string s] w (ParseAllOut w (parseAll s)) := by
  have hmf : ∀ (fn : Fn) (first cap : Array Value) (w : World), (Instr.makeFunc fn first cap).run Tryd.prog w = .ok (.func fn first cap) w := fun _ _ _ _ => rfl
  have HT := Lib.hid ht; clear ht
  by_cases hbig : s.size > 65536
  · have e : parseAll s = ([], 4, 0) := by unfold parseAll; rw [if_pos hbig]
    rw [e]; clear e
    go_enter Tryd.func12, Tryd.ntmps12
    go_wp2
    refine bodyPost_ret (results_parseAll (w.heap.size + 1) none 0 0 _ _ rfl (by simp)) rfl ?_
    exact ⟨_, rfl, ⟨none, 0, rfl, Nat.le_refl _, fun h => absurd rfl h⟩, ((Below.refl _ _).alloc (Nat.le_refl _) _).alloc (by simp) _⟩
  · have e : parseAll s = parseAllF s (s.size + 1) 0 [] := by unfold parseAll; rw [if_neg hbig]
    rw [e]; clear e
    have hv : V1 w.heap.size (w.heap.size + 2) w.heap.size (w.heap.size + 1) s (((w.alloc (.cells #[.string s] 9)).alloc (.cells #[.slice none 0 0] 30)).alloc (.cells #[.int .i64 0, .int .i64 0] 42)) := by
      obtain ⟨h0, h1, h2⟩ := heap3 w (.cells #[.string s] 9) (.cells #[.slice none 0 0] 30) (.cells #[.int .i64 0, .int .i64 0] 42)
      refine ⟨?_, ?_, ?_, ?_, ?_, ?_, ?_, ?_, ?_, ?_, ?_, ⟨.slice none 0 0, ?_⟩, ?_, ?_, ?_⟩
      all_goals first | omega | (simp; done) | (simp; omega) | (simp only [World.cell?, World.frozen?, h0, h1, h2]; rfl)
    have ht0 : (((w.alloc (.cells #[.string s] 9)).alloc (.cells #[.slice none 0 0] 30)).alloc (.cells #[.int .i64 0, .int .i64 0] 42)).cell? ⟨w.heap.size + 1, 0, none⟩ = some (.slice none 0 0) := by
      obtain ⟨h0, h1, h2⟩ := heap3 w (.cells #[.string s] 9) (.cells #[.slice none 0 0] 30) (.cells #[.int .i64 0, .int .i64 0] 42)
      simp only [World.cell?, h1]; rfl
    have hb : Below w.heap.size w (((w.alloc (.cells #[.string s] 9)).alloc (.cells #[.slice none 0 0] 30)).alloc (.cells #[.int .i64 0, .int .i64 0] 42)) := (((Below.refl _ _).alloc (Nat.le_refl _) _).alloc (by simp) _).alloc (by simp; omega) _
    have hcall := pall1_calls w.heap.size (w.heap.size + 2) w.heap.size (w.heap.size + 1) s _ _ hv ht0 (by omega) (HT.out.below hb) (by simp; omega) HT.out.lt rfl
    have hout := parseAllF_out s (s.size + 1) 0 []
    generalize parseAllF s (s.size + 1) 0 [] = R at *
    obtain ⟨l, e, a⟩ := R
    simp only at hout
    have HC := Lib.hid hcall; clear hcall
    have HB := Lib.hid hb; clear hb
    clear hv ht0
    have HOUT := Lib.hid hout; clear hout
    go_enter Tryd.func12, Tryd.ntmps12
    go_wp2_with fail
    refine (HC.out).mono ?_
    intro e' w1 h1
    obtain ⟨rfl, hb1, hz, ⟨v, hv, ho⟩, k0, k1⟩ := h1
    simp only at ho k0 k1
    have HB1 := Lib.hid hb1; clear hb1
    have HO := Lib.hid ho; clear ho
    rcases HOUT.out with ⟨hne, rfl⟩ | ⟨rfl, rfl⟩
    · have hcn : (e != 0) = true := by simpa using hne
      clear HOUT hne HO
      go_wp2_with fail
      go_region
      all_goals
        go_wp2
        refine bodyPost_ret (results_parseAll (w.heap.size + 1) none 0 0 _ _ rfl (cell_eq hv _)) rfl ?_
        exact ⟨_, rfl, ⟨none, 0, rfl, Nat.le_refl _, fun h => absurd rfl h⟩, ((HB.out.trans HB1.out).setCell (p := ⟨w.heap.size + 1, 0, none⟩) (by simp) _).drew⟩
    · have hx : SeesTT (w1.setCell ⟨w.heap.size + 1, 0, none⟩ v) v l :=
        ((HO.out rfl).keep fun g hg _ => Below.heap_setCell _ _ _ _ (by simp at hg ⊢; omega)).sees
      have HX := Lib.hid hx
      obtain ⟨A, xc, rfl, hxc, hA⟩ := hx
      clear HOUT hxc hA HO
      go_wp2_with fail
      refine bodyPost_ret (results_parseAll (w.heap.size + 1) A l.length xc _ _ rfl (cell_eq hv _)) rfl ?_
      exact ⟨_, rfl, HX.out, (HB.out.trans HB1.out).setCell (p := ⟨w.heap.size + 1, 0, none⟩) (by simp) _⟩
end Go.Proofs.YtebdikbngnolbaaDoor
