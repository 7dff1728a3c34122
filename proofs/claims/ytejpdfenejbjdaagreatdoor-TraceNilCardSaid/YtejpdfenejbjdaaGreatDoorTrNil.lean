/- TraceNil: of a nil log. For every input, in whatever memory; the listed library variables hold what the program's text lays. -/
import Derived.Test.YtejpdfenejbjdaaGreatDoorTrM
import Derived.Test.YtejpdfenejbjdaaGreatDoorTrO
import Derived.Test.YtejpdfenejbjdaaGreatDoorTie
import Derived.Test.YtejpdfenejbjdaaGreatDoorCards
import Derived.SevenTiedAt
import Derived.SizedLaws
import Derived.ChangeSame
import Derived.Carry
namespace Go.Proofs.YtejpdfenejbjdaaGreatDoor
open Go.ChangeShapes Go.WideShapes Go.ChangeAt Go.RowKit Go.Lib Txt
set_option linter.unusedVariables false

/-- An argument's weights are among all. -/
theorem weights_of {H : Type} {P : Program} {ts : List TypeId} {ds : List (DataW H)} (h : (DataW.weightsEach P ts ds).all (· ≤ reachBytes) = true) {j : Nat} {t : TypeId} {d : DataW H} (ht : ts[j]? = some t) (hd : ds[j]? = some d) : (d.weights P t).all (· ≤ reachBytes) = true :=
  List.all_eq_true.2 fun n hn => List.all_eq_true.1 h n (DataW.weights_mem_each ht hd n hn)

set_option maxRecDepth 100000 in
theorem tnil_lifted (os : Os) (started : os.Started) (H : Type) (enc : TypeId × Value → H) :
    ReturnsInHanded {} Tryz.checked os 7 .any (fun w args => (Rows.traceNilSpec.pre enc Tryz.prog Tryz.f7 [] false w args ∧ laidMetH Tryz.prog Rows.traceNilRow.laid w) ∧ sizedMet enc Tryz.prog Tryz.f7 (OpenSpec.ofChange Rows.traceNilSpec) false w args)
      (Rows.traceNilSpec.post enc Tryz.prog Tryz.f7 false true false false) := by
  refine row_lift (C := Tryz.checked) (X := fun w => laidMetH Tryz.prog Rows.traceNilRow.laid w) (fun _ _ hh h => h.of_heap hh) own started (by kernel_rfl) Tryz.func7
    (ChangeSpec.witness_shaped (enc := enc) (C := Tryz.checked) (os := os) (X := fun w _ => laidMetH Tryz.prog Rows.traceNilRow.laid w) false (startW os) #[.agg #[.int .i64 0, .int .i64 0, .int .i64 0, .int .i64 0, .slice none 0 0], .int .i64 0, .slice none 0 0] 8 rfl (World.shaped_of_RefB (by kernel_rfl) (by kernel_rfl)) (by kernel_rfl) (by kernel_rfl) (by kernel_rfl) (start_met os _)) ?_
  intro W base args ds gs before hval0 hW hsz hL hsh
  have hval : ∀ (j : Nat) t v, Tryz.f7.params[j]? = some t → args[j]? = some v → Value.okWide Tryz.prog W .any base t v := hval0
  have hW' := hW
  obtain ⟨p, q, hA0, hV, rfl, hfz, hnd⟩ := hW
  have hA : DataW.TrodAll enc Tryz.prog W 0 (fun _ => true) true Tryz.f7.params.toList args.toList ds p := hA0
  rw [Tryz.params7] at hA hval
  obtain ⟨v0, v1, v2, d0, d1, d2, p0, p1, p2, rfl, rfl, rfl, h0, h1, h2⟩ := trodAll_three hA
  obtain ⟨rfl, rfl⟩ := trodVars_none hV
  have hL' : laidMet Tryz.prog Rows.traceNilRow.laid W := by
    rw [MakeChecks.laidMetH_plain _ _ _ (by kernel_rfl)] at hL; exact hL
  have ht : TabsT W := tabsT_of hsh (Lib.laidMet.reads hL' (by simp [Rows.traceNilRow])) (Lib.laidMet.reads hL' (by simp [Rows.traceNilRow])) (Lib.laidMet.reads hL' (by simp [Rows.traceNilRow])) (Lib.laidMet.reads hL' (by simp [Rows.traceNilRow])) (Lib.laidMet.reads hL' (by simp [Rows.traceNilRow])) (Lib.laidMet.reads hL' (by simp [Rows.traceNilRow]))
  have hsz' : (DataW.weightsEach Tryz.prog (Tryz.f7.params.toList ++ Rows.traceNilSpec.plain.varTypes Tryz.prog) ([d0, d1, d2] ++ [])).all (· ≤ reachBytes) = true := hsz
  have hw0 := weights_of (j := 0) (t := 24) (d := d0) hsz' (by rw [Tryz.params7]; rfl) rfl
  have hw2 := weights_of (j := 2) (t := 50) (d := d2) hsz' (by rw [Tryz.params7]; rfl) rfl
  obtain ⟨cs0, rfl, hcs0⟩ := okWide_struct Tryz.underlying24 (hval 0 24 v0 rfl rfl)
  obtain ⟨z1, rfl, rfl, rfl, hz1⟩ := open_int (k := .i64) Tryz.underlying2 (hval 1 2 v1 rfl rfl) h1
  obtain ⟨a2, l2, c2, rfl⟩ := okWide_slice Tryz.underlying50 (hval 2 50 v2 rfl rfl)
  have h0k := h0
  have h2k := h2
  obtain ⟨fuel0, hf0⟩ := h0
  obtain ⟨fuel2, hf2⟩ := h2
  obtain ⟨e, A, c, e0, hin⟩ := trod_ev hf0 hw0
  obtain ⟨x2, ks, e2, hx2, hk2, -⟩ := open_is hf2 hw2
  obtain rfl : cs0 = #[.int .i64 e.kind, .int .i64 e.tick, .int .i64 e.pid, .int .i64 e.by_, .slice A e.term.length c] := by
    apply Array.toList_inj.1
    simpa [Value.cells] using e0
  obtain rfl : Value.slice a2 l2 c2 = x2 := by simpa [Value.cells] using e2
  clear hA0 hval0 hf0 hf2 e0 e2 hcs0
  simp only [List.append_nil] at hW'
  have hlt0 : ∀ x ∈ p0, x.block < W.heap.size := fun x hx => hW'.lt x (by simp [hx])
  have hlt2 : ∀ x ∈ p2, x.block < W.heap.size := fun x hx => hW'.lt x (by simp [hx])
  refine (tnil_calls e A _ c z1 _ ks W hx2 (by omega) ht).mono fun e' W' ⟨he, hb⟩ => ?_
  subst he
  refine ⟨_, rfl, law_post hW' (fun _ _ _ => trodAll_mk1 (shut_bool Tryz.underlying4 _)) (fun sp hsp => ?_) (fun _ => rfl) hb
    (ok_one (by kernel_rfl) rfl (okWide_bool_mk Tryz.underlying4 _))⟩
  have hr := trodAll_mk3 (WideElems.Trod_stays (sp' := sp) (show laidOutB Tryz.prog = true by kernel_rfl) (by kernel_rfl) (of_decide_eq_true (by kernel_rfl)) h0k (fun x hx => hb.same (hlt0 x hx)) (fun x hx => hsp x (by simp [hx])))
    (shut_int (enc := enc) (P := Tryz.prog) (w := W') (base := 0) (spare := sp) (held := true) Tryz.underlying2 hz1)
    (WideElems.Trod_stays (sp' := sp) (show laidOutB Tryz.prog = true by kernel_rfl) (by kernel_rfl) (of_decide_eq_true (by kernel_rfl)) h2k (fun x hx => hb.same (hlt2 x hx)) (fun x hx => hsp x (by simp [hx])))
  simp only [List.nil_append, List.append_nil] at hr ⊢
  exact hr

theorem nil_row : Rows.TraceNilSaid :=
  OpenClaim.holds_of_wide 7 Tryz.f7 rfl rfl rfl rfl rfl rfl rfl ⟨rfl, rfl, rfl, rfl, rfl⟩ rfl rfl rfl rfl rfl (by kernel_rfl) Tryz.func7 (by kernel_rfl)
    (of_decide_eq_true (by kernel_rfl)) (by unfold Func.isWrapper; first | (rw [if_pos (by decide +kernel)]; kernel_rfl) | (rw [if_neg (by decide +kernel)]; exact ⟨rfl, rfl⟩))
    (fun os started H enc _ => tnil_lifted os started H enc)

/-- The tied card. -/
theorem traceNil_holds : Rows.TraceNilCardSaid :=
  Claim7.holds_tied_plain_at .later [] [.data, .data, .data, .data, .sentinel, .sentinel, .pinned] true (true, Rows.traceNilCard.stood.harness.2) true
    nil_row (fun _ h => by cases h) (by kernel_rfl) (fun _ h => by cases h) traceNil_row_tie rfl ⟨rfl, rfl⟩ (by kernel_rfl) rfl
    (fun f fn hf hfn => by
      obtain rfl : f = 7 := Option.some.inj ((show Tryz.prog.funcNamed "parley/parleylaw28.TraceNil" = some 7 by kernel_rfl).symm.trans hf) |>.symm
      obtain rfl : fn = Tryz.f7 := (Option.some.inj (Tryz.func7.symm.trans hfn)).symm
      exact ⟨by kernel_rfl, fun j t ht => by
        rw [Tryz.params7] at ht
        have hm : t ∈ [24, 2, 50] := by simpa using Array.mem_of_getElem? ht
        have hall : ([24, 2, 50].all fun u => !Tryz.prog.wantsStandIn u) = true := by kernel_rfl
        exact (show Tryz.prog.wantsStandIn t = false by simpa using List.all_eq_true.1 hall t hm)⟩)
    (by kernel_rfl)
#print axioms traceNil_holds
end Go.Proofs.YtejpdfenejbjdaaGreatDoor
