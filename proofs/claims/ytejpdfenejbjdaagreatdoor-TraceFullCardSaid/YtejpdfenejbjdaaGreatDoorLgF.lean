/- Walks: trace: how many a log has of a kind. -/
import Derived.Test.YtejpdfenejbjdaaGreatDoorLgE
namespace Go.Proofs.YtejpdfenejbjdaaGreatDoor
open Go.RowKit Txt
set_option linter.unusedVariables false
set_option linter.unusedSimpArgs false
attribute [local go_sem] Oper.semAt_some

/-- What holds at the head of a round of Count. -/
def CntJ (b B : Nat) (pre : List ES) (W : World) : Prop := W.heap[b]? = some (.cells #[.int .i64 (pre.length : Int)] 3 (0, 0)) ∧ B ≤ W.heap.size
theorem cntJ_own (b B : Nat) : Own (CntJ b B) := by
  intro s X Y row hs hg hr
  obtain ⟨h1, h2⟩ := hs
  refine ⟨(hg.block b (Array.getElem?_eq_some_iff.1 h1).1 fun e => ?_).trans h1, Nat.le_trans h2 hg.size⟩
  obtain ⟨o', ho, hc'⟩ := hr b e.symm
  rw [h1] at ho; cases ho; cases hc'
set_option maxHeartbeats 4000000 in
set_option maxRecDepth 100000 in
theorem lcount_calls (lb rb : Nat) (room lost : Int) (es : List (Ev × Value)) (A : Option Addr) (c : Nat) (G : Option Nat) (k : Int) (w : World) (hL : LogAt w lb rb room lost es A c G) (htm : ∀ p ∈ es, SeesT w p.2 p.1.term ∧ p.1.term.length * 32 ≤ 140737488351232) (hel : es.length ≤ 4096) :
    Calls Tryz.prog 33 #[.pointer (some ⟨lb, 0, none⟩), .int .i64 k] w fun e w' => e = .returned (.int .i64 (((es.map (·.1)).filter (sel 0 [k])).length : Int)) ∧ Below w.heap.size w w' := by
  refine (callsIn_wide (n := 4)).1 ?_
  have hro : Fence.wide.round = none := rfl
  refine callsIn_of_wp_marks Tryz.func33 rfl trivial ?_ hro
  simp only [Tryz.ntmps33, List.size_toArray, List.length_cons, List.length_nil, Nat.reduceAdd, Nat.reduceSub, Array.replicate_succ, Array.replicate_zero, List.push_toArray, List.append_toArray, List.nil_append, List.cons_append]
  have hb1 := ((Below.refl w.heap.size w).alloc (Nat.le_refl _) (.cells #[.int .i64 0] 3)).alloc (by simp) (.cells #[.int .i64 k] 3)
  have hone := one_int (w.alloc (.cells #[.int .i64 0] 3)) k
  rw [World.size_alloc] at hone
  obtain ⟨W1, hW1⟩ : ∃ W1, (w.alloc (.cells #[.int .i64 0] 3)).alloc (.cells #[.int .i64 k] 3) = W1 := ⟨_, rfl⟩
  have hs1 : W1.heap.size = w.heap.size + 2 := by rw [← hW1]; simp
  have hm0 : W1.heap[w.heap.size]? = some (.cells #[.int .i64 0] 3 (0, 0)) := by rw [← hW1]; exact (Below.heap_alloc _ _ _ (by simp)).trans (heap_alloc_new w _)
  rw [hW1] at hb1 hone
  have HW1 := Lib.hid hW1; have HB1 := Lib.hid hb1; have HS1 := Lib.hid hs1; have HM := Lib.hid hm0; have HL := Lib.hid hL; have HTM := Lib.hid htm; have HONE := Lib.hid hone
  clear hW1 hb1 hs1 hm0 hL htm hone
  gi_wp2
  rw [HW1.out]
  refine ⟨trivial, ?_⟩
  refine (callsIn_wide.2 (of_calls (some ⟨lb, 0, none⟩) 0 _ [k] W1 HONE.out (by simp))).mono ?_
  rintro e w2 ⟨rfl, ho⟩
  have hin := ofIn_of (ob := w.heap.size) HL.out HTM.out HB1.out (Nat.le_refl _) (by rw [HS1.out]; omega) ho
  have hseq := of1_seq 3 _ _ _ _ _ _ _ _ _ _ _ _ _ _ _ w2 (by simp) hel (Nat.le_refl _) hin
  have HSEQ := Lib.hid hseq; have HO := Lib.hid ho.be; clear hin hseq ho
  have hb2 : Below w.heap.size w w2 := HB1.out.trans (HO.out.mono HB1.out.size)
  have hsz : W1.heap.size ≤ w2.heap.size := HO.out.size
  rw [HS1.out] at hsz
  have hi0 : CntJ w.heap.size w2.heap.size [] w2 := ⟨(HO.out.block _ (by rw [HS1.out]; omega)).trans HM.out, Nat.le_refl _⟩
  unfold ofV
  gi_wp2
  refine wpIn_rangeFunc_ownH (n := 4) hro (by decide) (gf := 101) rfl trivial (enters_of Tryz.func101 (by kernel_rfl) rfl)
    HSEQ.out (fun h k => h.trans k) (fun W l o o' h1 h2 h3 h4 => below_x (belowK_b (w := w2) (Nat.le_refl _) W l o o' h1 h2 h3 h4) (Nat.le_refl _)) (Below.refl _ _) (fun _ => rfl)
    (fun pre W => CntJ w.heap.size w2.heap.size pre W ∧ Below w.heap.size w W)
    (fun cd pre W => False)
    (OwnFrom.and (Own.from (cntJ_own _ _) _) (ownFrom_below (Nat.le_refl _) (by omega)))
    (fun cd _ _ _ _ hs _ _ => hs)
    ⟨hi0, hb2⟩
    (fun x a' W => ∃ v, a' = { tmps := #[.pointer (some ⟨lb, 0, none⟩), .int .i64 k, undef, undef, .int .i64 0, .pointer (some ⟨w.heap.size, 0, none⟩), .pointer (some ⟨lb, 0, none⟩), .int .i64 k, .slice (some ⟨w.heap.size + 1, 0, none⟩) 1 1, ofV W1.heap.size, v, undef, undef, undef], defers := [] })
    (fun x a' _ X Y row hs hg hr => hs)
    ?assign ?body ?done ?stop
  case assign =>
    rintro l pre ⟨⟨k', q, p, b, tm⟩, A1, c1⟩ W K ⟨hJ, hB⟩ hK
    have HK := Lib.hid hK; have HJ := Lib.hid hJ; have HB := Lib.hid hB
    clear hK hJ hB
    unfold evE evV
    dsimp only
    gi_wp2
    exact HK.out _ _ (KeepsFrom.refl _ _) (BelowX.refl _ _ _) ⟨HJ.out, HB.out⟩ ⟨.agg #[.int .i64 k', .int .i64 q, .int .i64 p, .int .i64 b, .slice A1 tm.length c1], by simp [ofV]⟩
  case body =>
    rintro l pre x a' W hl - ⟨⟨h1, h4⟩, hB⟩ ⟨v, rfl⟩ hlt
    have hlt' : pre.length < 4096 := Nat.lt_of_lt_of_le hlt hel
    obtain ⟨k1, z1⟩ := blk1 h1
    have HB := Lib.hid hB; have H1 := Lib.hid h1; have H4 := Lib.hid h4; clear h1 h4 hB hlt
    unfold ofV
    gi_wp2
    have hbk := blk_set (i := 0) H1.out (.int .i64 ((pre.length : Int) + 1))
    have hc : (⟨w.heap.size, 0, none⟩ : Addr).block = w.heap.size := rfl
    refine ⟨⟨by simp [World.setCell], fun j o' _ ho hcc => ?_⟩, ⟨rfl, rfl, rfl, by simp [World.setCell], fun j hj hn => Below.heap_setCell _ _ _ _ hn⟩, ⟨?_, by simp [World.setCell]; exact H4.out⟩, ?_⟩
    · have hne : j ≠ w.heap.size := by rintro rfl; rw [H1.out] at ho; cases ho; cases hcc
      exact (Below.heap_setCell _ _ _ _ hne).trans ho
    · rw [List.length_append, List.length_singleton]
      simpa using hbk
    · exact HB.out.setCell (p := ⟨w.heap.size, 0, none⟩) (Nat.le_refl _) _
  case done =>
    rintro D ys W hD hys ⟨⟨h1, h4⟩, hB⟩ hK
    obtain ⟨k1, z1⟩ := blk1 h1
    have HK := Lib.hid hK; have HB := Lib.hid hB
    clear h1 h4 hB hK
    gi_wp2
    refine ⟨by simp, .inl ⟨_, _, rfl, run_takeDeferred HK.out, ?_⟩⟩
    refine ⟨_, results_tmp rfl _ _ _, ?_, HB.out.trans (belowK_b (w := w) (Nat.le_refl _) W D _ _ (by omega) HK.out rfl rfl)⟩
    have := congrArg List.length hys
    rw [List.length_map] at this
    rw [← this]
    rfl
  case stop => intro D cd pre W _ _ h; exact h.elim
end Go.Proofs.YtejpdfenejbjdaaGreatDoor
