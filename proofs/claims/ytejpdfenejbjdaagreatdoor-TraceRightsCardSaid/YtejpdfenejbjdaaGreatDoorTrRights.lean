/- TraceRights: right, the same, its line. For every input, in whatever memory; the listed library variables hold what the program's text lays. -/
import Derived.Test.YtejpdfenejbjdaaGreatDoorRfQ
import Derived.Test.YtejpdfenejbjdaaGreatDoorTrO
import Derived.Test.YtejpdfenejbjdaaGreatDoorTie
import Derived.Test.YtejpdfenejbjdaaGreatDoorCards
import Derived.SevenTiedAt
import Derived.SizedLaws
import Derived.ChangeSame
import Derived.Carry
namespace Go.Proofs.YtejpdfenejbjdaaGreatDoor
open Go.ChangeShapes Go.WideShapes Go.ChangeAt Go.RowKit Go.Lib Txt
set_option linter.unusedVariables false

/-- An argument's weights are among all. -/
theorem weights_of {H : Type} {P : Program} {ts : List TypeId} {ds : List (DataW H)} (h : (DataW.weightsEach P ts ds).all (· ≤ reachBytes) = true) {j : Nat} {t : TypeId} {d : DataW H} (ht : ts[j]? = some t) (hd : ds[j]? = some d) : (d.weights P t).all (· ≤ reachBytes) = true :=
  List.all_eq_true.2 fun n hn => List.all_eq_true.1 h n (DataW.weights_mem_each ht hd n hn)

set_option maxRecDepth 100000 in
theorem trights_lifted (os : Os) (started : os.Started) (H : Type) (enc : TypeId × Value → H) :
    ReturnsInHanded {} Tryz.checked os 3 .any (fun w args => (Rows.traceRightsSpec.pre enc Tryz.prog Tryz.f3 [] false w args ∧ laidMetH Tryz.prog Rows.traceRightsRow.laid w) ∧ sizedMet enc Tryz.prog Tryz.f3 (OpenSpec.ofChange Rows.traceRightsSpec) false w args)
      (Rows.traceRightsSpec.post enc Tryz.prog Tryz.f3 false true false false) := by
  refine row_lift (C := Tryz.checked) (X := fun w => laidMetH Tryz.prog Rows.traceRightsRow.laid w) (fun _ _ hh h => h.of_heap hh) own started (by kernel_rfl) Tryz.func3
    (ChangeSpec.witness_shaped (enc := enc) (C := Tryz.checked) (os := os) (X := fun w _ => laidMetH Tryz.prog Rows.traceRightsRow.laid w) false (startW os) #[.agg #[.int .i64 0, .int .i64 0, .int .i64 0, .int .i64 0, .slice none 0 0], .agg #[.int .i64 0, .int .i64 0, .int .i64 0, .int .i64 0, .slice none 0 0]] 8 rfl (World.shaped_of_RefB (by kernel_rfl) (by kernel_rfl)) (by kernel_rfl) (by kernel_rfl) (by kernel_rfl) (start_met os _)) ?_
  intro W base args ds gs before hval0 hW hsz hL hsh
  have hval : ∀ (j : Nat) t v, Tryz.f3.params[j]? = some t → args[j]? = some v → Value.okWide Tryz.prog W .any base t v := hval0
  have hW' := hW
  obtain ⟨p, q, hA0, hV, rfl, hfz, hnd⟩ := hW
  have hA : DataW.TrodAll enc Tryz.prog W 0 (fun _ => true) true Tryz.f3.params.toList args.toList ds p := hA0
  rw [Tryz.params3] at hA hval
  obtain ⟨v0, v1, d0, d1, p0, p1, rfl, rfl, rfl, h0, h1⟩ := trodAll_two hA
  obtain ⟨rfl, rfl⟩ := trodVars_none hV
  have hL' : laidMet Tryz.prog Rows.traceRightsRow.laid W := by
    rw [MakeChecks.laidMetH_plain _ _ _ (by kernel_rfl)] at hL; exact hL
  have ht : TabsT W := tabsT_of hsh (Lib.laidMet.reads hL' (by simp [Rows.traceRightsRow])) (Lib.laidMet.reads hL' (by simp [Rows.traceRightsRow])) (Lib.laidMet.reads hL' (by simp [Rows.traceRightsRow])) (Lib.laidMet.reads hL' (by simp [Rows.traceRightsRow])) (Lib.laidMet.reads hL' (by simp [Rows.traceRightsRow])) (Lib.laidMet.reads hL' (by simp [Rows.traceRightsRow]))
  have hsz' : (DataW.weightsEach Tryz.prog (Tryz.f3.params.toList ++ Rows.traceRightsSpec.plain.varTypes Tryz.prog) ([d0, d1] ++ [])).all (· ≤ reachBytes) = true := hsz
  have hw0 := weights_of (j := 0) (t := 24) (d := d0) hsz' (by rw [Tryz.params3]; rfl) rfl
  have hw1 := weights_of (j := 1) (t := 24) (d := d1) hsz' (by rw [Tryz.params3]; rfl) rfl
  obtain ⟨cs0, rfl, hcs0⟩ := okWide_struct Tryz.underlying24 (hval 0 24 v0 rfl rfl)
  obtain ⟨cs1, rfl, hcs1⟩ := okWide_struct Tryz.underlying24 (hval 1 24 v1 rfl rfl)
  have h0k := h0
  have h1k := h1
  obtain ⟨fuel0, hf0⟩ := h0
  obtain ⟨fuel1, hf1⟩ := h1
  obtain ⟨e, A, c, e0, hin⟩ := trod_ev hf0 hw0
  obtain ⟨f, B, d, e1, hin1⟩ := trod_ev hf1 hw1
  obtain rfl : cs0 = #[.int .i64 e.kind, .int .i64 e.tick, .int .i64 e.pid, .int .i64 e.by_, .slice A e.term.length c] := by
    apply Array.toList_inj.1
    simpa [Value.cells] using e0
  obtain rfl : cs1 = #[.int .i64 f.kind, .int .i64 f.tick, .int .i64 f.pid, .int .i64 f.by_, .slice B f.term.length d] := by
    apply Array.toList_inj.1
    simpa [Value.cells] using e1
  clear hA0 hval0 hf0 hf1 e0 e1 hcs0 hcs1
  simp only [List.append_nil] at hW'
  have hlt0 : ∀ x ∈ p0, x.block < W.heap.size := fun x hx => hW'.lt x (by simp [hx])
  have hlt1 : ∀ x ∈ p1, x.block < W.heap.size := fun x hx => hW'.lt x (by simp [hx])
  refine (trights_calls e f A B c d W hin hin1 ht).mono fun e' W' ⟨he, hb⟩ => ?_
  subst he
  refine ⟨_, rfl, law_post hW' (fun _ _ _ => trodAll_mk1 (shut_bool Tryz.underlying4 _)) (fun sp hsp => ?_) (fun _ => rfl) hb
    (ok_one (by kernel_rfl) rfl (okWide_bool_mk Tryz.underlying4 _))⟩
  have hr := trodAll_mk2 (WideElems.Trod_stays (sp' := sp) (show laidOutB Tryz.prog = true by kernel_rfl) (by kernel_rfl) (of_decide_eq_true (by kernel_rfl)) h0k (fun x hx => hb.same (hlt0 x hx)) (fun x hx => hsp x (by simp [hx])))
    (WideElems.Trod_stays (sp' := sp) (show laidOutB Tryz.prog = true by kernel_rfl) (by kernel_rfl) (of_decide_eq_true (by kernel_rfl)) h1k (fun x hx => hb.same (hlt1 x hx)) (fun x hx => hsp x (by simp [hx])))
  simp only [List.append_nil] at hr ⊢
  exact hr

theorem rights_row : Rows.TraceRightsSaid :=
  OpenClaim.holds_of_wide 3 Tryz.f3 rfl rfl rfl rfl rfl rfl rfl ⟨rfl, rfl, rfl, rfl, rfl⟩ rfl rfl rfl rfl rfl (by kernel_rfl) Tryz.func3 (by kernel_rfl)
    (of_decide_eq_true (by kernel_rfl)) (by unfold Func.isWrapper; first | (rw [if_pos (by decide +kernel)]; kernel_rfl) | (rw [if_neg (by decide +kernel)]; exact ⟨rfl, rfl⟩))
    (fun os started H enc _ => trights_lifted os started H enc)

/-- The tied card. -/
theorem traceRights_holds : Rows.TraceRightsCardSaid :=
  Claim7.holds_tied_plain_at .later [] [.data, .data, .data, .data, .sentinel, .sentinel, .pinned] true (true, Rows.traceRightsCard.stood.harness.2) true
    rights_row (fun _ h => by cases h) (by kernel_rfl) (fun _ h => by cases h) traceRights_row_tie rfl ⟨rfl, rfl⟩ (by kernel_rfl) rfl
    (fun f fn hf hfn => by
      obtain rfl : f = 3 := Option.some.inj ((show Tryz.prog.funcNamed "parley/parleylaw28.TraceRights" = some 3 by kernel_rfl).symm.trans hf) |>.symm
      obtain rfl : fn = Tryz.f3 := (Option.some.inj (Tryz.func3.symm.trans hfn)).symm
      exact ⟨by kernel_rfl, fun j t ht => by
        rw [Tryz.params3] at ht
        have hm : t ∈ [24, 24] := by simpa using Array.mem_of_getElem? ht
        have hall : ([24, 24].all fun u => !Tryz.prog.wantsStandIn u) = true := by kernel_rfl
        exact (show Tryz.prog.wantsStandIn t = false by simpa using List.all_eq_true.1 hall t hm)⟩)
    (by kernel_rfl)
#print axioms traceRights_holds
end Go.Proofs.YtejpdfenejbjdaaGreatDoor
