/- Walks: trace: the law's 'every'. -/
import Derived.Test.YtejpdfenejbjdaaGreatDoorLgD
namespace Go.Proofs.YtejpdfenejbjdaaGreatDoor
open Go.RowKit Txt
set_option linter.unusedVariables false
set_option linter.unusedSimpArgs false
attribute [local go_sem] Oper.semAt_some

theorem sel_all (e : Ev) : sel 0 [] e = true := by simp [sel]
theorem filter_all (l : List Ev) : l.filter (sel 0 []) = l := List.filter_eq_self.2 fun e _ => sel_all e
/-- What holds at the head of a round of 'every'. -/
structure EvJ (b B : Nat) (most : Int) (pre : List ES) (W : World) : Prop where
  out : ∃ v, W.heap[b + 1]? = some (.cells #[v] 25 (0, 0)) ∧ W.ownsRow B 24 5 v pre.length (ecs (pre.map esv))
  mo : W.heap[b]? = some (.cells #[.int .i64 most] 3 (0, 0))
  sz : B ≤ W.heap.size
theorem evJ_own (b B : Nat) (most : Int) : Own (EvJ b B most) := by
  intro s X Y row hs hg hr
  obtain ⟨⟨v, h1, h2⟩, h3, h4⟩ := hs
  have hk : ∀ (k : Nat) (o : Obj), X.heap[k]? = some o → o.isCells = true → Y.heap[k]? = X.heap[k]? := fun k o hk hc => hg.block k (Array.getElem?_eq_some_iff.1 hk).1 fun e => by
    obtain ⟨o', ho, hc'⟩ := hr k e.symm
    rw [hk] at ho; cases ho; rw [hc] at hc'; cases hc'
  refine ⟨⟨v, (hk _ _ h1 rfl).trans h1, World.ownsRow.kept h2 hg ?_⟩, (hk _ _ h3 rfl).trans h3, Nat.le_trans h4 hg.size⟩
  obtain ⟨-, ⟨rfl, -⟩ | ⟨g, cap, cur, rfl, -, hb, -⟩⟩ := h2
  · exact .inl rfl
  · refine .inr fun e => ?_
    obtain ⟨o', ho, hc'⟩ := hr g e.symm
    rw [hb] at ho; cases ho; cases hc'
theorem ev_push {b B : Nat} {most : Int} {pre : List ES} {x : ES} {w W W6 : World} {v v' : Value} {o : Obj} (h1 : W.heap[b + 1]? = some (.cells #[v] 25 (0, 0))) (h2 : W.ownsRow B 24 5 v pre.length (ecs (pre.map esv)))
    (h3 : W.heap[b]? = some (.cells #[.int .i64 most] 3 (0, 0))) (hB : b + 2 ≤ B) (hBW : B ≤ W.heap.size) (hbe : Below b w W) (hown : W6.ownsRow B 24 5 v' (pre.length + 1) (ecs (pre.map esv) ++ ec (esv x).1 (esv x).2)) (hg : (W.alloc o).grownBy W6 v.ownBlock) :
    EvJ b B most (pre ++ [x]) (W6.setCell ⟨b + 1, 0, none⟩ v') ∧ (W6.setCell ⟨b + 1, 0, none⟩ v').cell? ⟨b + 1, 0, none⟩ = some v' ∧ Below b w (W6.setCell ⟨b + 1, 0, none⟩ v') ∧ BelowX B (b + 1) W (W6.setCell ⟨b + 1, 0, none⟩ v') ∧ KeepsFrom B W (W6.setCell ⟨b + 1, 0, none⟩ v') ∧
      W6.cell? ⟨b + 1, 0, none⟩ = some v ∧ W6.frozen? ⟨b + 1, 0, none⟩ = false := by
  have hge : ∀ g, v.ownBlock = some g → B ≤ g := fun g hg => (World.ownsRow.lt h2 g hg).1
  have hsz : W.heap.size + 1 ≤ W6.heap.size := by have := hg.size; simpa using this
  have hss : (W6.setCell ⟨b + 1, 0, none⟩ v').heap.size = W6.heap.size := by simp [World.setCell]
  have hk : ∀ k, k < W.heap.size → v.ownBlock ≠ some k → W6.heap[k]? = W.heap[k]? := fun k hk hn => (hg.block k (by simp; omega) (fun e => hn e.symm)).trans (Below.heap_alloc _ _ _ hk)
  have hnb : ∀ k, k < B → v.ownBlock ≠ some k := fun k hk e => by have := hge k e; omega
  have hk6 : W6.heap[b + 1]? = some (.cells #[v] 25 (0, 0)) := (hk (b + 1) (by omega) (hnb _ (by omega))).trans h1
  have hkb : (W6.setCell ⟨b + 1, 0, none⟩ v').heap[b + 1]? = some (.cells #[v'] 25 (0, 0)) := by
    have := blk_set (i := 0) hk6 v'
    simpa using this
  refine ⟨⟨⟨v', hkb, ?_⟩, ?_, by omega⟩, (blk1 hkb).1, ⟨?_, ?_, ?_, ?_, fun k hk' => ?_⟩, ⟨?_, ?_, ?_, ?_, fun k hk' hn => ?_⟩, ⟨by omega, fun k o' _ ho hc => ?_⟩, (blk1 hk6).1, (blk1 hk6).2⟩
  · have e1 : ecs ((pre ++ [x]).map esv) = ecs (pre.map esv) ++ ec (esv x).1 (esv x).2 := by simp [ecs]
    rw [e1, List.length_append, List.length_singleton]
    exact own_keepE hown fun g hgB _ _ => Below.heap_setCell _ _ _ _ (by show g ≠ b + 1; omega)
  · exact (Below.heap_setCell _ _ _ _ (by show b ≠ b + 1; omega)).trans ((hk b (by omega) (hnb _ (by omega))).trans h3)
  · exact hg.os.trans hbe.os
  · exact hg.tape.trans hbe.tape
  · exact hg.output.trans hbe.output
  · have := hbe.size; omega
  · exact (Below.heap_setCell _ _ _ _ (by show k ≠ b + 1; omega)).trans ((hk k (by omega) (hnb _ (by omega))).trans (hbe.block k hk'))
  · exact hg.os
  · exact hg.tape
  · exact hg.output
  · omega
  · exact (Below.heap_setCell _ _ _ _ hn).trans (hk k (by omega) (hnb _ hk'))
  · have hlt := (Array.getElem?_eq_some_iff.1 ho).1
    have hne : k ≠ b + 1 := by rintro rfl; rw [h1] at ho; cases ho; cases hc
    refine (Below.heap_setCell _ _ _ _ hne).trans ((hk k hlt fun e => ?_).trans ho)
    obtain ⟨-, ⟨rfl, -⟩ | ⟨g, cap, cur, rfl, -, hb, -⟩⟩ := h2
    · cases e
    · cases e; rw [hb] at ho; cases ho; cases hc

theorem own_mono {B B' n : Nat} {W : World} {v : Value} {xs : List Value} (h : W.ownsRow B 24 5 v n xs) (hb : B' ≤ B) : W.ownsRow B' 24 5 v n xs := by
  obtain ⟨hl, h0 | ⟨g, cap, cur, rfl, hg, r⟩⟩ := h
  · exact ⟨hl, .inl h0⟩
  · exact ⟨hl, .inr ⟨g, cap, cur, rfl, Nat.le_trans hb hg, r⟩⟩
theorem own_putD {B n D : Nat} {W : World} {v : Value} {xs : List Value} {o' : Obj} (h : W.ownsRow B 24 5 v n xs) (hK : W.heap[D]? = some (.deferred (some []))) : (W.putObj D o').ownsRow B 24 5 v n xs :=
  own_keepE h fun g _ hg _ => World.putObj_heap_other fun e => by
    obtain ⟨-, ⟨rfl, -⟩ | ⟨g', cap, cur, rfl, -, hb, -⟩⟩ := h
    · cases hg
    · cases hg
      have e' : g' = D := e
      rw [e', hK] at hb; cases hb
set_option maxHeartbeats 4000000 in
set_option maxRecDepth 100000 in
theorem every_calls (lb rb : Nat) (room lost : Int) (es : List (Ev × Value)) (A : Option Addr) (c : Nat) (G : Option Nat) (most : Int) (w : World) (hL : LogAt w lb rb room lost es A c G) (htm : ∀ p ∈ es, SeesT w p.2 p.1.term ∧ p.1.term.length * 32 ≤ 140737488351232) (hel : es.length ≤ 4096) (hm : 1 ≤ most) :
    Calls Tryz.prog 31 #[.pointer (some ⟨lb, 0, none⟩), .int .i64 most] w fun e w' => ∃ (ys : List ES) (v : Value), e = .returned v ∧ w'.ownsRow w.heap.size 24 5 v ys.length (ecs (ys.map esv)) ∧ Below w.heap.size w w' ∧
      ((ys.map (·.1) = es.map (·.1) ∧ (ys.length : Int) < most) ∨ (ys.map (·.1) <+: es.map (·.1) ∧ (ys.length : Int) = most)) := by
  obtain ⟨i0, hi, hz0, hz1, hz2⟩ := info_parts info_ev
  refine (callsIn_wide (n := 4)).1 ?_
  have hro : Fence.wide.round = none := rfl
  refine callsIn_of_wp_marks Tryz.func31 rfl trivial ?_ hro
  simp only [Tryz.ntmps31, List.size_toArray, List.length_cons, List.length_nil, Nat.reduceAdd, Nat.reduceSub, Array.replicate_succ, Array.replicate_zero, List.push_toArray, List.append_toArray, List.nil_append, List.cons_append]
  have hfn : ∀ (fn : Fn) (first cap : Array Value) (w : World), (binOp BinOp.eql 99 (.func fn first cap) .nilFunc).run Tryz.prog w = .ok (.bool false) w := fun _ _ _ _ => by kernel_rfl
  have hb1 := ((Below.refl w.heap.size w).alloc (Nat.le_refl _) (.cells #[.int .i64 most] 3)).alloc (by simp) (.cells #[.slice none 0 0] 25)
  obtain ⟨W1, hW1⟩ : ∃ W1, (w.alloc (.cells #[.int .i64 most] 3)).alloc (.cells #[.slice none 0 0] 25) = W1 := ⟨_, rfl⟩
  have hs1 : W1.heap.size = w.heap.size + 2 := by rw [← hW1]; simp
  have hm0 : W1.heap[w.heap.size]? = some (.cells #[.int .i64 most] 3 (0, 0)) := by rw [← hW1]; exact (Below.heap_alloc _ _ _ (by simp)).trans (heap_alloc_new w _)
  have hm1 : W1.heap[w.heap.size + 1]? = some (.cells #[.slice none 0 0] 25 (0, 0)) := by
    rw [← hW1]
    have := heap_alloc_new (w.alloc (.cells #[.int .i64 most] 3)) (.cells #[.slice none 0 0] 25)
    rwa [World.size_alloc] at this
  rw [hW1] at hb1
  have HW1 := Lib.hid hW1; have HB1 := Lib.hid hb1; have HS1 := Lib.hid hs1; have HM := Lib.hid (And.intro hm0 hm1); have HL := Lib.hid hL; have HTM := Lib.hid htm
  clear hW1 hb1 hs1 hm0 hm1 hL htm
  gi_wp2
  rw [HW1.out]
  gi_wp2
  refine ⟨trivial, ?_⟩
  refine (callsIn_wide.2 (all_calls (some ⟨lb, 0, none⟩) W1)).mono ?_
  rintro e w2 ⟨rfl, ho⟩
  have hin := ofIn_of (ob := w.heap.size + 1) HL.out HTM.out HB1.out (by omega) (by rw [HS1.out]; omega) ho
  have hseq := of1_seq 3 _ _ _ _ _ _ _ _ _ _ _ _ _ _ _ w2 (by simp) hel (Nat.le_refl _) hin
  have HSEQ := Lib.hid hseq; have HO := Lib.hid ho.be; clear hin hseq ho
  have hb2 : Below w.heap.size w w2 := HB1.out.trans (HO.out.mono HB1.out.size)
  have hsz : W1.heap.size ≤ w2.heap.size := HO.out.size
  rw [HS1.out] at hsz
  have hi0 : EvJ w.heap.size w2.heap.size most [] w2 := ⟨⟨_, (HO.out.block _ (by rw [HS1.out]; omega)).trans HM.out.2, World.ownsRow_nil _ _ _ 5⟩, (HO.out.block _ (by rw [HS1.out]; omega)).trans HM.out.1, Nat.le_refl _⟩
  unfold ofV
  gi_wp2
  refine wpIn_rangeFunc_ownH (n := 4) hro (by decide) (gf := 101) rfl trivial (enters_of Tryz.func101 (by kernel_rfl) rfl)
    HSEQ.out (fun h k => h.trans k) (fun W l o o' h1 h2 h3 h4 => below_x (belowK_b (w := w2) (Nat.le_refl _) W l o o' h1 h2 h3 h4) (Nat.le_refl _)) (Below.refl _ _) (fun _ => rfl)
    (fun pre W => (EvJ w.heap.size w2.heap.size most pre W ∧ Below w.heap.size w W) ∧ (pre.length : Int) < most)
    (fun cd pre W => (EvJ w.heap.size w2.heap.size most pre W ∧ Below w.heap.size w W) ∧ (cd = Code.exit 0 ∧ (pre.length : Int) = most))
    (OwnFrom.and (OwnFrom.and (Own.from (evJ_own _ _ _) _) (ownFrom_below (Nat.le_refl _) (by omega))) (ownFrom_pure _ _))
    (fun cd => OwnFrom.and (OwnFrom.and (Own.from (evJ_own _ _ _) _) (ownFrom_below (Nat.le_refl _) (by omega))) (ownFrom_pure _ _))
    ⟨⟨hi0, hb2⟩, by simpa using (by omega : (0 : Int) < most)⟩
    (fun x a' W => ∃ Bx, W.heap[Bx]? = some (.cells #[.int .i64 x.1.kind, .int .i64 x.1.tick, .int .i64 x.1.pid, .int .i64 x.1.by_, .slice x.2.1 x.1.term.length x.2.2] 24 (0, 0)) ∧ a' = { tmps := #[.pointer (some ⟨lb, 0, none⟩), .int .i64 most, undef, .pointer (some ⟨w.heap.size, 0, none⟩), .slice none 0 0, .pointer (some ⟨w.heap.size + 1, 0, none⟩), ofV W1.heap.size, .pointer (some ⟨Bx, 0, none⟩), .pointer (some ⟨lb, 0, none⟩), ofV W1.heap.size, ofV W1.heap.size, .bool false, ofV W1.heap.size, evV x.1 (.slice x.2.1 x.1.term.length x.2.2), undef, undef, undef, undef, undef, undef, undef, undef, undef], defers := [] })
    (fun x a' _ X Y row hs hg hr => by
      obtain ⟨Bx, h2, h3⟩ := hs
      exact ⟨Bx, (hg.block Bx (Array.getElem?_eq_some_iff.1 h2).1 fun e => by
        obtain ⟨-, o', ho, hc'⟩ := hr Bx e.symm
        rw [h2] at ho; cases ho; cases hc').trans h2, h3⟩)
    ?assign ?body ?done ?stop
  case assign =>
    rintro l pre ⟨⟨k, q, p, b, tm⟩, A1, c1⟩ W K ⟨⟨hJ, hB⟩, hf⟩ hK
    have hJ2 := evJ_own _ _ _ _ _ _ none hJ (grown_of_below ((Below.refl W.heap.size W).alloc (Nat.le_refl _) (.cells #[.int .i64 k, .int .i64 q, .int .i64 p, .int .i64 b, .slice A1 tm.length c1] 24))) (fun r h => by cases h)
    have HK := Lib.hid hK; have HJ := Lib.hid hJ2; have HB := Lib.hid hB; have HF := Lib.hid hf; have HSZ := Lib.hid hJ.sz
    clear hK hJ hB hf hJ2
    unfold evE evV
    dsimp only
    gi_wp2
    exact HK.out _ _ ((KeepsOthers.alloc _ _).from _) (below_x ((Below.refl W.heap.size W).alloc (Nat.le_refl _) _) HSZ.out) ⟨⟨HJ.out, HB.out.alloc HB.out.size _⟩, HF.out⟩ ⟨W.heap.size, heap_alloc_new _ _, rfl⟩
  case body =>
    rintro l pre ⟨⟨k, q, p, b, tm⟩, A1, c1⟩ a' W hl - ⟨⟨⟨⟨v, h1, h2⟩, h3, h4⟩, hB⟩, hf⟩ ⟨Bx, hx, rfl⟩ hlt
    dsimp only at hx
    have hlt' : pre.length < 4096 := Nat.lt_of_lt_of_le hlt hel
    have k1 := (blk1 h1).1
    obtain ⟨a0, a1, a2, a3, a4, -⟩ := blk5 hx
    have hpu := fun (W6 : World) (v' : Value) (o : Obj) h h' => ev_push (o := o) (W6 := W6) (v' := v') (x := (⟨k, q, p, b, tm⟩, A1, c1)) h1 h2 h3 (by omega : w.heap.size + 2 ≤ w2.heap.size) h4 hB h h'
    have HPU := Lib.hid hpu; have HROW := Lib.hid (World.ownsRow.alloc h2 (.cells #[.int .i64 k, .int .i64 q, .int .i64 p, .int .i64 b, .slice A1 tm.length c1] 24)); have HF := Lib.hid hf; have H4 := Lib.hid h4; have HLT := Lib.hid hlt'
    obtain ⟨A0, n0, cc0, rfl⟩ := own_slice h2
    clear hpu h1 h2 h3 h4 hB hf hx hlt
    unfold ofV evV
    dsimp only
    gi_wp2_with (gi_at_builtin; refine wpListIn_append_own _ rfl _ _ 25 rfl w2.heap.size 24 i0 (.agg #[.int .i64 0, .int .i64 0, .int .i64 0, .int .i64 0, .slice none 0 0]) 5 56 Tryz.underlying25 hi hz0 hz1 hz2 rfl (by decide) _ _ _ rfl HROW.out ⟨_, 0, none⟩ 1 1 (ec ⟨k, q, p, b, tm⟩ (.slice A1 tm.length c1)) rfl rfl ?b1 (ec_oneCell _ _ _ _) ?b3 ?b4 ?b5 ?_)
    case b1 => exact new_list _ (ec ⟨k, q, p, b, tm⟩ (.slice A1 tm.length c1)) _ _ (by first | rfl | simp)
    case b3 => have := HLT.out; unfold maxLen; omega
    case b4 => have := HLT.out; omega
    case b5 => have := H4.out; simp; omega
    intro v6 W6 hown hgrow _
    obtain ⟨hJ6, k6, hB6, hX6, hF6, kk, kz⟩ := HPU.out W6 v6 _ hown hgrow
    obtain ⟨A6, n6, cc6, rfl⟩ := own_slice hown
    have hn6 : n6 = pre.length + 1 := by
      obtain ⟨-, ⟨e, h0⟩ | ⟨g, cap, cur, e, -⟩⟩ := hown
      · omega
      · cases e; rfl
    subst hn6
    obtain ⟨km, -⟩ := blk1 hJ6.mo
    have HJ6 := Lib.hid hJ6; have HB6 := Lib.hid hB6; have HX6 := Lib.hid hX6; have HF6 := Lib.hid hF6
    clear hown hgrow hJ6 hB6 hX6 hF6 k1 a0 a1 a2 a3 a4
    by_cases hmo : most ≤ (pre.length : Int) + 1
    · have d1 : decide (most ≤ (pre.length : Int) + 1) = true := by simpa using hmo
      have HMO := Lib.hid hmo; clear hmo
      gi_wp2
      exact ⟨HF6.out, ⟨HJ6.out, HB6.out⟩, rfl, by have := HF.out; have := HMO.out; simp; omega⟩
    · have d1 : decide (most ≤ (pre.length : Int) + 1) = false := by simpa using hmo
      have HMO := Lib.hid hmo; clear hmo
      gi_wp2
      exact ⟨HF6.out, HX6.out, ⟨HJ6.out, HB6.out⟩, by have := HMO.out; simp; omega⟩
  case done =>
    rintro D ys W hD hys ⟨⟨⟨⟨v, h1, h2⟩, h3, h4⟩, hB⟩, hf⟩ hK
    have k1 := (blk1 h1).1
    have HK := Lib.hid hK; have HROW := Lib.hid h2; have HB := Lib.hid hB; have HF := Lib.hid hf
    obtain ⟨A0, n0, cc0, rfl⟩ := own_slice h2
    clear h1 h2 h3 h4 hB hf hK
    gi_wp2
    refine ⟨by simp, .inl ⟨_, _, rfl, run_takeDeferred HK.out, ?_⟩⟩
    exact ⟨_, results_tmp rfl _ _ _, ys, _, rfl, own_mono (own_putD HROW.out HK.out) (by omega), HB.out.trans (belowK_b (w := w) (Nat.le_refl _) W D _ _ (by omega) HK.out rfl rfl), .inl ⟨by rw [hys, filter_all], HF.out⟩⟩
  case stop =>
    rintro D cd pre W hD hys ⟨⟨⟨⟨v, h1, h2⟩, h3, h4⟩, hB⟩, rfl, hf⟩ hK
    have k1 := (blk1 h1).1
    have HK := Lib.hid hK; have HROW := Lib.hid h2; have HB := Lib.hid hB; have HF := Lib.hid hf
    obtain ⟨A0, n0, cc0, rfl⟩ := own_slice h2
    clear h1 h2 h3 h4 hB hf hK
    gi_wp2
    refine ⟨by simp, .inl ⟨_, _, rfl, run_takeDeferred HK.out, ?_⟩⟩
    exact ⟨_, results_tmp rfl _ _ _, pre, _, rfl, own_mono (own_putD HROW.out HK.out) (by omega), HB.out.trans (belowK_b (w := w) (Nat.le_refl _) W D _ _ (by omega) HK.out rfl rfl), .inr ⟨by rw [filter_all] at hys; exact hys, HF.out⟩⟩
end Go.Proofs.YtejpdfenejbjdaaGreatDoor
