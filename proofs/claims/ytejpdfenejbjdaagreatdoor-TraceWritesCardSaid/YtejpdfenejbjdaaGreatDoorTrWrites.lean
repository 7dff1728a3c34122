/- TraceWrites: any events, which stay: their lines, read again. For every input, in whatever memory; the listed library variables hold what the program's text lays. -/
import Derived.Test.YtejpdfenejbjdaaGreatDoorTwA
import Derived.Test.YtejpdfenejbjdaaGreatDoorTrO
import Derived.Test.YtejpdfenejbjdaaGreatDoorTie
import Derived.Test.YtejpdfenejbjdaaGreatDoorCards
import Derived.SevenTiedAt
import Derived.SizedLaws
import Derived.ChangeSame
import Derived.Carry
namespace Go.Proofs.YtejpdfenejbjdaaGreatDoor
open Go.ChangeShapes Go.WideShapes Go.ChangeAt Go.RowKit Go.Lib Txt
set_option linter.unusedVariables false
set_option linter.unusedSimpArgs false

/-- An argument's weights are among all. -/
theorem weights_of {H : Type} {P : Program} {ts : List TypeId} {ds : List (DataW H)} (h : (DataW.weightsEach P ts ds).all (· ≤ reachBytes) = true) {j : Nat} {t : TypeId} {d : DataW H} (ht : ts[j]? = some t) (hd : ds[j]? = some d) : (d.weights P t).all (· ≤ reachBytes) = true :=
  List.all_eq_true.2 fun n hn => List.all_eq_true.1 h n (DataW.weights_mem_each ht hd n hn)

set_option maxRecDepth 100000 in
theorem twrites_lifted (os : Os) (started : os.Started) (H : Type) (enc : TypeId × Value → H) :
    ReturnsInHanded {} Tryz.checked os 5 .any (fun w args => (Rows.traceWritesSpec.pre enc Tryz.prog Tryz.f5 [] false w args ∧ laidMetH Tryz.prog Rows.traceWritesRow.laid w) ∧ sizedMet enc Tryz.prog Tryz.f5 (OpenSpec.ofChange Rows.traceWritesSpec) false w args)
      (Rows.traceWritesSpec.post enc Tryz.prog Tryz.f5 false true false false) := by
  refine row_lift (C := Tryz.checked) (X := fun w => laidMetH Tryz.prog Rows.traceWritesRow.laid w) (fun _ _ hh h => h.of_heap hh) own started (by kernel_rfl) Tryz.func5
    (ChangeSpec.witness_shaped (enc := enc) (C := Tryz.checked) (os := os) (X := fun w _ => laidMetH Tryz.prog Rows.traceWritesRow.laid w) false (startW os) #[.slice none 0 0, .slice none 0 0] 8 rfl (World.shaped_of_RefB (by kernel_rfl) (by kernel_rfl)) (by kernel_rfl) (by kernel_rfl) (by kernel_rfl) (start_met os _)) ?_
  intro W base args ds gs before hval0 hW hsz hL hsh
  have hval : ∀ (j : Nat) t v, Tryz.f5.params[j]? = some t → args[j]? = some v → Value.okWide Tryz.prog W .any base t v := hval0
  have hW' := hW
  obtain ⟨p, q, hA0, hV, rfl, hfz, hnd⟩ := hW
  have hA : DataW.TrodAll enc Tryz.prog W 0 (fun _ => true) true Tryz.f5.params.toList args.toList ds p := hA0
  rw [Tryz.params5] at hA hval
  obtain ⟨v0, v1, d0, d1, p0, p1, rfl, rfl, rfl, h0, h1⟩ := trodAll_two hA
  obtain ⟨rfl, rfl⟩ := trodVars_none hV
  have hL' : laidMet Tryz.prog Rows.traceWritesRow.laid W := by
    rw [MakeChecks.laidMetH_plain _ _ _ (by kernel_rfl)] at hL; exact hL
  have ht : TabsT W := tabsT_of hsh (Lib.laidMet.reads hL' (by simp [Rows.traceWritesRow])) (Lib.laidMet.reads hL' (by simp [Rows.traceWritesRow])) (Lib.laidMet.reads hL' (by simp [Rows.traceWritesRow])) (Lib.laidMet.reads hL' (by simp [Rows.traceWritesRow])) (Lib.laidMet.reads hL' (by simp [Rows.traceWritesRow])) (Lib.laidMet.reads hL' (by simp [Rows.traceWritesRow]))
  have hsz' : (DataW.weightsEach Tryz.prog (Tryz.f5.params.toList ++ Rows.traceWritesSpec.plain.varTypes Tryz.prog) ([d0, d1] ++ [])).all (· ≤ reachBytes) = true := hsz
  have hw0 := weights_of (j := 0) (t := 25) (d := d0) hsz' (by rw [Tryz.params5]; rfl) rfl
  have hw1 := weights_of (j := 1) (t := 25) (d := d1) hsz' (by rw [Tryz.params5]; rfl) rfl
  obtain ⟨a0, l0, c0, rfl⟩ := okWide_slice Tryz.underlying25 (hval 0 25 v0 rfl rfl)
  obtain ⟨a1, l1, c1, rfl⟩ := okWide_slice Tryz.underlying25 (hval 1 25 v1 rfl rfl)
  have h0k := h0
  have h1k := h1
  obtain ⟨fuel0, hf0⟩ := h0
  obtain ⟨fuel1, hf1⟩ := h1
  obtain ⟨x0, ps, e0, hx0, hs0, ho0, hn0⟩ := open_evs hf0 hw0
  obtain ⟨x1, ms, e1, hx1, hs1, ho1, hn1⟩ := open_evs hf1 hw1
  obtain rfl : Value.slice a0 l0 c0 = x0 := by simpa [Value.cells] using e0
  obtain rfl : Value.slice a1 l1 c1 = x1 := by simpa [Value.cells] using e1
  clear hA0 hval0 hf0 hf1 e0 e1
  simp only [List.append_nil] at hW'
  have hlt0 : ∀ x ∈ p0, x.block < W.heap.size := fun x hx => hW'.lt x (by simp [hx])
  have hlt1 : ∀ x ∈ p1, x.block < W.heap.size := fun x hx => hW'.lt x (by simp [hx])
  refine (twrites_calls _ _ ps ms W hx0 hx1 hs0 hs1 ho0 ho1 hn0 hn1 ht).mono fun e' W' ⟨he, hb⟩ => ?_
  subst he
  refine ⟨_, rfl, law_post hW' (fun _ _ _ => trodAll_mk1 (shut_bool Tryz.underlying4 _)) (fun sp hsp => ?_) (fun _ => rfl) hb
    (ok_one (by kernel_rfl) rfl (okWide_bool_mk Tryz.underlying4 _))⟩
  have hr := trodAll_mk2 (WideElems.Trod_stays (sp' := sp) (show laidOutB Tryz.prog = true by kernel_rfl) (by kernel_rfl) (of_decide_eq_true (by kernel_rfl)) h0k (fun x hx => hb.same (hlt0 x hx)) (fun x hx => hsp x (by simp [hx])))
    (WideElems.Trod_stays (sp' := sp) (show laidOutB Tryz.prog = true by kernel_rfl) (by kernel_rfl) (of_decide_eq_true (by kernel_rfl)) h1k (fun x hx => hb.same (hlt1 x hx)) (fun x hx => hsp x (by simp [hx])))
  simp only [List.append_nil] at hr ⊢
  exact hr

theorem writes_row : Rows.TraceWritesSaid :=
  OpenClaim.holds_of_wide 5 Tryz.f5 rfl rfl rfl rfl rfl rfl rfl ⟨rfl, rfl, rfl, rfl, rfl⟩ rfl rfl rfl rfl rfl (by kernel_rfl) Tryz.func5 (by kernel_rfl)
    (of_decide_eq_true (by kernel_rfl)) (by unfold Func.isWrapper; first | (rw [if_pos (by decide +kernel)]; kernel_rfl) | (rw [if_neg (by decide +kernel)]; exact ⟨rfl, rfl⟩))
    (fun os started H enc _ => twrites_lifted os started H enc)

/-- The tied card. -/
theorem traceWrites_holds : Rows.TraceWritesCardSaid :=
  Claim7.holds_tied_plain_at .later [] [.data, .data, .data, .data, .sentinel, .sentinel, .pinned] true (true, Rows.traceWritesCard.stood.harness.2) true
    writes_row (fun _ h => by cases h) (by kernel_rfl) (fun _ h => by cases h) traceWrites_row_tie rfl ⟨rfl, rfl⟩ (by kernel_rfl) rfl
    (fun f fn hf hfn => by
      obtain rfl : f = 5 := Option.some.inj ((show Tryz.prog.funcNamed "parley/parleylaw28.TraceWrites" = some 5 by kernel_rfl).symm.trans hf) |>.symm
      obtain rfl : fn = Tryz.f5 := (Option.some.inj (Tryz.func5.symm.trans hfn)).symm
      exact ⟨by kernel_rfl, fun j t ht => by
        rw [Tryz.params5] at ht
        have hm : t ∈ [25, 25] := by simpa using Array.mem_of_getElem? ht
        have hall : ([25, 25].all fun u => !Tryz.prog.wantsStandIn u) = true := by kernel_rfl
        exact (show Tryz.prog.wantsStandIn t = false by simpa using List.all_eq_true.1 hall t (by simpa using hm))⟩)
    (by kernel_rfl)
#print axioms traceWrites_holds
end Go.Proofs.YtejpdfenejbjdaaGreatDoor
