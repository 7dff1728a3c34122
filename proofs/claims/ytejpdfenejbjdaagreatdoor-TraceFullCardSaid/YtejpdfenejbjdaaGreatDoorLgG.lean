/- Walk of TraceFull. -/
import Derived.Test.YtejpdfenejbjdaaGreatDoorLgF
namespace Go.Proofs.YtejpdfenejbjdaaGreatDoor
open Go.RowKit Txt
set_option linter.unusedVariables false
set_option linter.unusedSimpArgs false

def tickE (i : Nat) : Ev := ⟨8, i, 0, 0, []⟩
def ticks (a n : Nat) : List Ev := (List.range' a n).map tickE
theorem ticks_snoc (a n : Nat) : ticks a n ++ [tickE (a + n)] = ticks a (n + 1) := by simp [ticks, List.range'_concat]
theorem ticks_tail (a n : Nat) : (ticks a (n + 1)).tail = ticks (a + 1) n := by simp [ticks, List.range'_succ]
theorem ticks_length (a n : Nat) : (ticks a n).length = n := by simp [ticks]
theorem ticks_at (a n i : Nat) (h : i < n) : (ticks a n)[i]? = some (tickE (a + i)) := by simp [ticks, List.getElem?_range', h]
theorem tick_right (i : Nat) (h : (i : Int) ≤ 1152921504606846976) : evRight (tickE i) = 0 := by
  have e : trow (tickE i).kind = some ⟨⟨#[116, 105, 99, 107]⟩, false, false, false, 0⟩ := rfl
  unfold evRight
  rw [e]
  dsimp only
  rw [if_neg]
  · rfl
  · simp only [tickE, within]
    simp
    omega
theorem tick_sel (i : Nat) : sel 0 [8] (tickE i) = true := by simp [sel, tickE]
theorem ticks_sel (a n : Nat) : (ticks a n).filter (sel 0 [8]) = ticks a n := List.filter_eq_self.2 fun e he => by
  simp only [ticks, List.mem_map] at he
  obtain ⟨i, -, rfl⟩ := he
  exact tick_sel i
theorem countB_bounds (n m : Int) (hm : 0 < m) : 0 ≤ countB n m ∧ countB n m < m := by
  have h1 := Int.tmod_lt_of_pos n hm
  have h2 := Int.lt_tmod_of_pos n hm
  unfold countB
  split <;> omega
/-- What holds when k events were added. -/
structure FullI (w : World) (lb rb : Nat) (R : Nat) (k : Nat) (es : List (Ev × Value)) (A : Option Addr) (c : Nat) (G : Option Nat) (W : World) : Prop where
  lg : LogAt W lb rb (R : Int) ((k - R : Nat) : Int) es A c G
  ev : es.map (·.1) = ticks (k - R) (k - (k - R))
  fm : ∀ p ∈ es, ∃ B d, p.2 = .slice B 0 d
  gb : ∀ g, G = some g → w.heap.size ≤ g
  be : Below w.heap.size w W
theorem FullI.len {w : World} {lb rb R k : Nat} {es : List (Ev × Value)} {A : Option Addr} {c : Nat} {G : Option Nat} {W : World} (h : FullI w lb rb R k es A c G W) : es.length = k - (k - R) := by
  have := congrArg List.length h.ev
  rwa [List.length_map, ticks_length] at this
theorem FullI.terms {w : World} {lb rb R k : Nat} {es : List (Ev × Value)} {A : Option Addr} {c : Nat} {G : Option Nat} {W : World} (h : FullI w lb rb R k es A c G W) : ∀ p ∈ es, SeesT W p.2 p.1.term ∧ p.1.term.length * 32 ≤ 140737488351232 := by
  intro p hp
  obtain ⟨B, d, e⟩ := h.fm p hp
  have : p.1 ∈ ticks (k - R) (k - (k - R)) := by rw [← h.ev]; exact List.mem_map_of_mem hp
  simp only [ticks, List.mem_map] at this
  obtain ⟨i, -, ei⟩ := this
  have et : p.1.term = [] := by rw [← ei]; rfl
  rw [et, e]
  exact ⟨⟨B, d, rfl, Nat.zero_le _, fun h => absurd rfl h⟩, by simp⟩
theorem FullI.step {w : World} {lb rb R k : Nat} {es : List (Ev × Value)} {A : Option Addr} {c : Nat} {G : Option Nat} {W W' : World} (h : FullI w lb rb R k es A c G W) (hR : 1 ≤ R) (hrb : w.heap.size ≤ rb) (ha : LAdd W lb rb (R : Int) ((k - R : Nat) : Int) es G (tickE k) W') :
    ∃ es' A' c' G', FullI w lb rb R (k + 1) es' A' c' G' W' := by
  obtain ⟨u, w1, A', c', G', h1, h2, h3, h4, h5⟩ := ha
  have hlen := h.len
  have hsz := h.be.size
  refine ⟨push (R : Int) es (tickE k, u), A', c', G', ?_, ?_, ?_, ?_, ?_⟩
  · have e1 : lostOf (R : Int) ((k - R : Nat) : Int) es = ((k + 1 - R : Nat) : Int) := by
      unfold lostOf
      split <;> omega
    rw [e1] at h3
    exact h3
  · unfold push
    by_cases ho : (R : Int) < (es.length : Int) + 1
    · rw [if_pos ho, List.map_tail, List.map_append, h.ev]
      have e1 : k = (k - R) + (k - (k - R)) := by omega
      have e2 : List.map (fun x : Ev × Value => x.1) [(tickE k, u)] = [tickE ((k - R) + (k - (k - R)))] := by rw [← e1]; rfl
      rw [e2, ticks_snoc, ticks_tail]
      congr 1 <;> omega
    · rw [if_neg ho, List.map_append, h.ev]
      have e1 : k = (k - R) + (k - (k - R)) := by omega
      have e2 : List.map (fun x : Ev × Value => x.1) [(tickE k, u)] = [tickE ((k - R) + (k - (k - R)))] := by rw [← e1]; rfl
      rw [e2, ticks_snoc]
      congr 1 <;> omega
  · have hu : ∃ B d, u = .slice B 0 d := by
      obtain ⟨B, d, e, -⟩ := h1.1
      exact ⟨B, d, e⟩
    have hall : ∀ p ∈ es ++ [(tickE k, u)], ∃ B d, p.2 = .slice B 0 d := by
      intro p hp
      rcases List.mem_append.1 hp with hp | hp
      · exact h.fm p hp
      · rw [List.mem_singleton] at hp; subst hp; exact hu
    intro p hp
    unfold push at hp
    split at hp
    · exact hall p (List.mem_of_mem_tail hp)
    · exact hall p hp
  · intro g hg
    rcases h5 with rfl | ⟨g', e, hg'⟩
    · exact h.gb g hg
    · rw [e] at hg; cases hg
      have := h2.size; omega
  · have hb := h.be.trans (h2.mono hsz)
    refine ⟨h4.os.trans hb.os, h4.tape.trans hb.tape, h4.output.trans hb.output, Nat.le_trans hb.size h4.size, fun j hj => (h4.block j (Nat.lt_of_lt_of_le hj hb.size) (by omega) fun e => ?_).trans (hb.block j hj)⟩
    have := h.gb j e.symm; omega
theorem seesE_own {B n : Nat} {W : World} {v : Value} {ps : List (Ev × Value)} (h : W.ownsRow B 24 5 v n (ecs ps)) (hn : n = ps.length) : SeesE W v ps := by
  subst hn
  obtain ⟨-, ⟨rfl, h0⟩ | ⟨g, cap, cur, rfl, -, hb, hc, -, hs, ht⟩⟩ := h
  · have : ps = [] := List.length_eq_zero_iff.1 h0
    subst this
    exact ⟨none, 0, rfl, Nat.le_refl _, fun h => absurd rfl h⟩
  · refine ⟨_, cap, rfl, hc, fun _ => ⟨_, rfl, fun j u hj => blk_add rfl hb j u ?_⟩⟩
    have hjl := (List.getElem?_eq_some_iff.1 hj).1
    rw [ecs_length] at hjl
    rw [← ht, List.getElem?_take, if_pos hjl] at hj
    simpa using hj

set_option maxHeartbeats 4000000 in
set_option maxRecDepth 100000 in
theorem tfull_calls (room n : Int) (w : World) (ht : TabsT w) :
    Calls Tryz.prog 6 #[.int .i64 room, .int .i64 n] w fun e w' => e = .returned (.bool true) ∧ Below w.heap.size w w' := by
  have hc1 := rcount_calls room 40 w (by decide) (by decide)
  have hc2 := rcount_calls n 100 w (by decide) (by decide)
  have b1 := countB_bounds room 40 (by decide)
  have b2 := countB_bounds n 100 (by decide)
  generalize countB room 40 = C at *
  generalize countB n 100 = D at *
  obtain ⟨R, rfl⟩ : ∃ R : Nat, C = (R : Int) - 1 := ⟨(C + 1).toNat, by omega⟩
  obtain ⟨N, rfl⟩ : ∃ N : Nat, D = (N : Int) := ⟨D.toNat, by omega⟩
  have HB := Lib.hid (And.intro b1 b2); clear b1 b2
  have hR1 : 1 ≤ R := by have := HB.out; omega
  have hR2 : R ≤ 40 := by have := HB.out; omega
  have hN : N ≤ 100 := by have := HB.out; omega
  clear HB
  have HC1 := Lib.hid hc1; have HC2 := Lib.hid hc2; have HT := Lib.hid ht; clear hc1 hc2 ht
  have HR := Lib.hid (And.intro hR1 (And.intro hR2 hN))
  have ew : IntKind.i64.wrap (1 + ((R : Int) - 1)) = (R : Int) := by
    rw [show (1 : Int) + ((R : Int) - 1) = (R : Int) by omega]; exact (IntWalk.i64_left (R : Int)).trans (IntWalk.wrap64_in (R : Int) (by omega))
  clear hR1 hR2 hN
  go_enter Tryz.func6, Tryz.ntmps6
  go_wp2_with fail
  refine HC1.out.mono ?_
  rintro e w1 ⟨rfl, rfl⟩
  go_wp2_with fail
  refine HC2.out.mono ?_
  rintro e w1 ⟨rfl, rfl⟩
  go_wp2_with fail
  refine (logNew_calls (R : Int) w1 (by have := HR.out; omega) (by have := HR.out; omega)).mono ?_
  rintro e w2 ⟨lb, rb, rfl, hlb, hrb, hlog, hb2⟩
  have hf0 : FullI w1 lb rb R 0 [] none 0 none w2 := ⟨by simpa using hlog, by simp [ticks], fun p hp => (by cases hp), fun g hg => (by cases hg), hb2⟩
  have HF0 := Lib.hid hf0; have HLB := Lib.hid (And.intro hlb hrb); clear hlog hb2 hf0 hlb hrb ew
  go_wp2_with fail
  go_loopw [6] (fun i wr => ∃ k : Nat, i = .int .i64 (k : Int) ∧ k ≤ N ∧ ∃ es A c G, FullI w1 lb rb R k es A c G wr) (fun i _ => N - (intOf i).toNat)
  case atStart => exact ⟨0, rfl, Nat.zero_le _, _, _, _, _, HF0.out⟩
  case round =>
    obtain ⟨k, rfl, hk, es, A, c, G, hf⟩ := hrel
    have HF := Lib.hid hf; clear hf
    have HKN := Lib.hid hk
    by_cases hlt : k < N
    · have t0 : decide ((k : Int) < (N : Int)) = true := decide_eq_true (by omega)
      have t0' : decide (k < N) = true := decide_eq_true hlt
      have hla := ladd_calls lb rb (R : Int) ((k - R : Nat) : Int) es A c G (tickE k) (.slice none 0 0) wr HF.out.lg ⟨none, 0, rfl, Nat.le_refl _, fun h => absurd rfl h⟩ (by simp [tickE]) (by have := HR.out; omega) (by have := HR.out; omega) (by rw [HF.out.len]; omega) (by omega) (by have := HR.out; omega) (fun c hc => by cases hc) (HT.out.tabs.below HF.out.be) (tick_right k (by have := HR.out; omega))
      unfold evV tickE at hla
      dsimp only at hla
      have HLA := Lib.hid hla; clear hla
      have hkb : (k : Int) ≤ 100 := by have := HR.out; omega
      go_wp2_with fail
      refine HLA.out.mono ?_
      rintro e w3 ⟨rfl, ha⟩
      have HA := Lib.hid (HF.out.step HR.out.1 HLB.out.2 ha); clear ha
      go_wp2
      go_roundw
      case rel => exact ⟨k + 1, by go_num, hlt, HA.out⟩
      case measure => simp [intOf]; omega
    · have t0 : decide ((k : Int) < (N : Int)) = false := decide_eq_false (by omega)
      have t0' : decide (k < N) = false := decide_eq_false hlt
      obtain rfl : k = N := by omega
      have hR := HR.out
      have hlen := HF.out.len
      obtain ⟨F, hFe⟩ : ∃ F : Nat, k - R = F := ⟨_, rfl⟩
      have hFk : F ≤ k := by omega
      rw [hFe] at hlen
      have hev := every_calls lb rb _ _ es A c G 8192 wr HF.out.lg HF.out.terms (by omega) (by decide)
      have HEV := Lib.hid hev; clear hev
      by_cases hkR : k < R
      · have hF0 : F = 0 := by omega
        have d0 : decide ((k : Int) - (R : Int) < 0) = true := decide_eq_true (by omega)
        go_wp2_with fail
        refine HEV.out.mono ?_
        rintro e w4 ⟨ys, v, rfl, hrow, hb4, hys⟩
        have hys' : ys.map (·.1) = ticks F (k - F) ∧ ys.length = k - F := by
          rcases hys with ⟨h1, -⟩ | ⟨h1, h2⟩
          · rw [HF.out.ev, hFe] at h1
            refine ⟨h1, ?_⟩
            have := congrArg List.length h1
            rwa [List.length_map, ticks_length] at this
          · have := h1.length_le
            rw [List.length_map, List.length_map, hlen] at this
            omega
        obtain ⟨hy1, hy2⟩ := hys'
        have hse := seesE_own hrow (by simp)
        obtain ⟨A4, n4, c4, rfl⟩ := own_slice hrow
        have hn4 : n4 = ys.length := by
          obtain ⟨_, _, e, -⟩ := hse
          simp only [Value.slice.injEq, List.length_map] at e
          exact e.2.1
        subst hn4
        have hcap : (ys.length : Int) ≤ (c4 : Int) := by
          obtain ⟨_, _, e, h, -⟩ := hse
          simp only [Value.slice.injEq, List.length_map] at e h
          rw [e.2.2]; omega
        have HSE := Lib.hid hse; have HY1 := Lib.hid hy1; have HY2 := Lib.hid hy2; have HB4 := Lib.hid hb4
        have hlg4 := HF.out.lg.below hb4
        have htm4 : ∀ p ∈ es, SeesT w4 p.2 p.1.term ∧ p.1.term.length * 32 ≤ 140737488351232 := fun p hp => ⟨(HF.out.terms p hp).1.below hb4, (HF.out.terms p hp).2⟩
        have hlo := lost_calls hlg4
        have hco := lcount_calls lb rb _ _ es A c G 8 w4 hlg4 htm4 (by omega)
        rw [HF.out.ev, hFe, ticks_sel, ticks_length] at hco
        rw [hFe] at hlo
        have HLO := Lib.hid hlo; have HCO := Lib.hid hco
        clear hlo hco hlg4 htm4 hse hrow hys hy1 hb4
        have d1 : ((ys.length : Int) != (k : Int) - 0) = false := by rw [bne_eq_false_iff_eq]; omega
        have d2 : ((F : Int) != 0) = false := by rw [bne_eq_false_iff_eq]; omega
        have d3 : (((k - F : Nat) : Int) != (ys.length : Int)) = false := by rw [bne_eq_false_iff_eq]; omega
        have d3' : ((k : Int) - (F : Int) != (ys.length : Int)) = false := by rw [bne_eq_false_iff_eq]; omega
        go_wp2_with fail
        refine HLO.out.mono ?_
        rintro e w5 ⟨rfl, rfl⟩
        go_wp2_with fail
        refine HCO.out.mono ?_
        rintro e w6 ⟨rfl, hb6⟩
        have HB6 := Lib.hid hb6
        have hse6 := HSE.out.below hb6
        have HSE6 := Lib.hid hse6
        have hbe6 := (HF.out.be.trans (HB4.out.mono HF.out.be.size)).trans (hb6.mono (Nat.le_trans HF.out.be.size HB4.out.size))
        have HBE6 := Lib.hid hbe6
        clear hb6 hse6 hbe6 HLO HCO
        go_wp2_with fail
        go_loopw [58] (fun i wr => ∃ j : Nat, i = .int .i64 (j : Int) ∧ j ≤ ys.length ∧ Below w6.heap.size w6 wr) (fun i _ => ys.length - (intOf i).toNat)
        case atStart => exact ⟨0, rfl, Nat.zero_le _, Below.refl _ _⟩
        case round =>
          obtain ⟨j, rfl, hj, hbj⟩ := hrel
          have HBJ := Lib.hid hbj; clear hbj
          by_cases hjl : j < ys.length
          · have s0 : decide ((j : Int) < (ys.length : Int)) = true := decide_eq_true (by omega)
            have s0' : decide (j < ys.length) = true := decide_eq_true hjl
            have sj : (j : Int) < (ys.length : Int) := by omega
            obtain ⟨ad, cap', he, hcap', hblk, p0, p1, p2, p3, p4⟩ := (HSE6.out.below HBJ.out).at j (by simpa using hjl)
            simp only [Value.slice.injEq, List.length_map] at he
            obtain ⟨rfl, -, rfl⟩ := he
            have htk : ((ys.map esv)[j]'(by simpa using hjl)).1 = tickE (F + j) := by
              have h1 : (ys.map (·.1))[j]? = some (tickE (F + j)) := by rw [HY1.out]; exact ticks_at _ _ _ (by omega)
              rw [List.getElem?_map, List.getElem?_eq_getElem hjl] at h1
              simpa [esv] using h1
            have hvl : ∃ Bv dv, ((ys.map esv)[j]'(by simpa using hjl)).2 = .slice Bv 0 dv := by
              have h2 : ((ys.map esv)[j]'(by simpa using hjl)).2 = .slice (ys[j].2.1) (ys[j].1.term.length) (ys[j].2.2) := by simp [esv]
              have h3 : ys[j].1 = tickE (F + j) := by rw [← htk]; simp [esv]
              rw [h3] at h2
              exact ⟨_, _, h2⟩
            obtain ⟨Bv, dv, hvl⟩ := hvl
            rw [htk] at p0 p1 p2 p3
            rw [hvl] at p4
            unfold tickE at p0 p1 p2 p3
            dsimp only at p0 p1 p2 p3
            have e9 : (((F + j : Nat) : Int) != 0 + (j : Int)) = false := by rw [bne_eq_false_iff_eq]; omega
            have e9' : ((F : Int) + (j : Int) != 0 + (j : Int)) = false := by rw [bne_eq_false_iff_eq]; omega
            have jb : (j : Int) ≤ 100 := by have := HY2.out; omega
            clear htk hvl hcap'
            go_wp2_with fail
            go_roundw
            case rel => exact ⟨j + 1, by go_num, hjl, HBJ.out.alloc HBJ.out.size _⟩
            case measure => simp [intOf]; omega
          · have s0 : decide ((j : Int) < (ys.length : Int)) = false := decide_eq_false (by omega)
            have s0' : decide (j < ys.length) = false := decide_eq_false hjl
            have hbe := HBE6.out.trans (HBJ.out.mono HBE6.out.size)
            have HBE := Lib.hid hbe; clear hbe
            go_wp2_with fail
            refine (awake_calls _ (HT.out.below HBE.out)).mono ?_
            rintro e w9 ⟨rfl, hb9⟩
            have HB9 := Lib.hid (HBE.out.trans (hb9.mono HBE.out.size)); clear hb9
            go_wp2
            go_ret
            exact ⟨rfl, HB9.out⟩
      · have hF0 : (F : Int) = (k : Int) - (R : Int) := by omega
        have d0 : decide ((k : Int) - (R : Int) < 0) = false := decide_eq_false (by omega)
        go_wp2_with fail
        refine HEV.out.mono ?_
        rintro e w4 ⟨ys, v, rfl, hrow, hb4, hys⟩
        have hys' : ys.map (·.1) = ticks F (k - F) ∧ ys.length = k - F := by
          rcases hys with ⟨h1, -⟩ | ⟨h1, h2⟩
          · rw [HF.out.ev, hFe] at h1
            refine ⟨h1, ?_⟩
            have := congrArg List.length h1
            rwa [List.length_map, ticks_length] at this
          · have := h1.length_le
            rw [List.length_map, List.length_map, hlen] at this
            omega
        obtain ⟨hy1, hy2⟩ := hys'
        have hse := seesE_own hrow (by simp)
        obtain ⟨A4, n4, c4, rfl⟩ := own_slice hrow
        have hn4 : n4 = ys.length := by
          obtain ⟨_, _, e, -⟩ := hse
          simp only [Value.slice.injEq, List.length_map] at e
          exact e.2.1
        subst hn4
        have hcap : (ys.length : Int) ≤ (c4 : Int) := by
          obtain ⟨_, _, e, h, -⟩ := hse
          simp only [Value.slice.injEq, List.length_map] at e h
          rw [e.2.2]; omega
        have HSE := Lib.hid hse; have HY1 := Lib.hid hy1; have HY2 := Lib.hid hy2; have HB4 := Lib.hid hb4
        have hlg4 := HF.out.lg.below hb4
        have htm4 : ∀ p ∈ es, SeesT w4 p.2 p.1.term ∧ p.1.term.length * 32 ≤ 140737488351232 := fun p hp => ⟨(HF.out.terms p hp).1.below hb4, (HF.out.terms p hp).2⟩
        have hlo := lost_calls hlg4
        have hco := lcount_calls lb rb _ _ es A c G 8 w4 hlg4 htm4 (by omega)
        rw [HF.out.ev, hFe, ticks_sel, ticks_length] at hco
        rw [hFe] at hlo
        have HLO := Lib.hid hlo; have HCO := Lib.hid hco
        clear hlo hco hlg4 htm4 hse hrow hys hy1 hb4
        have d1 : ((ys.length : Int) != (k : Int) - ((k : Int) - (R : Int))) = false := by rw [bne_eq_false_iff_eq]; omega
        have d2 : ((F : Int) != ((k : Int) - (R : Int))) = false := by rw [bne_eq_false_iff_eq]; omega
        have d3 : (((k - F : Nat) : Int) != (ys.length : Int)) = false := by rw [bne_eq_false_iff_eq]; omega
        have d3' : ((k : Int) - (F : Int) != (ys.length : Int)) = false := by rw [bne_eq_false_iff_eq]; omega
        go_wp2_with fail
        refine HLO.out.mono ?_
        rintro e w5 ⟨rfl, rfl⟩
        go_wp2_with fail
        refine HCO.out.mono ?_
        rintro e w6 ⟨rfl, hb6⟩
        have HB6 := Lib.hid hb6
        have hse6 := HSE.out.below hb6
        have HSE6 := Lib.hid hse6
        have hbe6 := (HF.out.be.trans (HB4.out.mono HF.out.be.size)).trans (hb6.mono (Nat.le_trans HF.out.be.size HB4.out.size))
        have HBE6 := Lib.hid hbe6
        clear hb6 hse6 hbe6 HLO HCO
        go_wp2_with fail
        go_loopw [58] (fun i wr => ∃ j : Nat, i = .int .i64 (j : Int) ∧ j ≤ ys.length ∧ Below w6.heap.size w6 wr) (fun i _ => ys.length - (intOf i).toNat)
        case atStart => exact ⟨0, rfl, Nat.zero_le _, Below.refl _ _⟩
        case round =>
          obtain ⟨j, rfl, hj, hbj⟩ := hrel
          have HBJ := Lib.hid hbj; clear hbj
          by_cases hjl : j < ys.length
          · have s0 : decide ((j : Int) < (ys.length : Int)) = true := decide_eq_true (by omega)
            have s0' : decide (j < ys.length) = true := decide_eq_true hjl
            have sj : (j : Int) < (ys.length : Int) := by omega
            obtain ⟨ad, cap', he, hcap', hblk, p0, p1, p2, p3, p4⟩ := (HSE6.out.below HBJ.out).at j (by simpa using hjl)
            simp only [Value.slice.injEq, List.length_map] at he
            obtain ⟨rfl, -, rfl⟩ := he
            have htk : ((ys.map esv)[j]'(by simpa using hjl)).1 = tickE (F + j) := by
              have h1 : (ys.map (·.1))[j]? = some (tickE (F + j)) := by rw [HY1.out]; exact ticks_at _ _ _ (by omega)
              rw [List.getElem?_map, List.getElem?_eq_getElem hjl] at h1
              simpa [esv] using h1
            have hvl : ∃ Bv dv, ((ys.map esv)[j]'(by simpa using hjl)).2 = .slice Bv 0 dv := by
              have h2 : ((ys.map esv)[j]'(by simpa using hjl)).2 = .slice (ys[j].2.1) (ys[j].1.term.length) (ys[j].2.2) := by simp [esv]
              have h3 : ys[j].1 = tickE (F + j) := by rw [← htk]; simp [esv]
              rw [h3] at h2
              exact ⟨_, _, h2⟩
            obtain ⟨Bv, dv, hvl⟩ := hvl
            rw [htk] at p0 p1 p2 p3
            rw [hvl] at p4
            unfold tickE at p0 p1 p2 p3
            dsimp only at p0 p1 p2 p3
            have e9 : (((F + j : Nat) : Int) != ((k : Int) - (R : Int)) + (j : Int)) = false := by rw [bne_eq_false_iff_eq]; omega
            have e9' : ((F : Int) + (j : Int) != ((k : Int) - (R : Int)) + (j : Int)) = false := by rw [bne_eq_false_iff_eq]; omega
            have jb : (j : Int) ≤ 100 := by have := HY2.out; omega
            clear htk hvl hcap'
            go_wp2_with fail
            go_roundw
            case rel => exact ⟨j + 1, by go_num, hjl, HBJ.out.alloc HBJ.out.size _⟩
            case measure => simp [intOf]; omega
          · have s0 : decide ((j : Int) < (ys.length : Int)) = false := decide_eq_false (by omega)
            have s0' : decide (j < ys.length) = false := decide_eq_false hjl
            have hbe := HBE6.out.trans (HBJ.out.mono HBE6.out.size)
            have HBE := Lib.hid hbe; clear hbe
            go_wp2_with fail
            refine (awake_calls _ (HT.out.below HBE.out)).mono ?_
            rintro e w9 ⟨rfl, hb9⟩
            have HB9 := Lib.hid (HBE.out.trans (hb9.mono HBE.out.size)); clear hb9
            go_wp2
            go_ret
            exact ⟨rfl, HB9.out⟩
end Go.Proofs.YtejpdfenejbjdaaGreatDoor
