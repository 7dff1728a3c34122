/- TextBlanks: blanks ahead of a text and behind it change no term. For every input, in whatever memory; the listed library tables hold what the program's text lays. -/
import Derived.Test.YtebdikbngnolbaaDoorBlanksW
import Derived.Test.YtebdikbngnolbaaDoorStart
import Derived.Test.YtebdikbngnolbaaDoorTie
import Derived.Test.YtebdikbngnolbaaDoorCards
import Derived.SevenTiedAt
import Derived.SizedLaws
import Derived.ChangeSame
namespace Go.Proofs.YtebdikbngnolbaaDoor
open Go.ChangeShapes Go.WideShapes Go.ChangeAt Go.RowKit Go.Lib Txt
open Go.ChangeMaps (open_string shut_string)
set_option linter.unusedVariables false

theorem blanks_met (os : Os) (args : Array Value) : laidMetH Tryd.prog Rows.textBlanksRow.laid ((startW os).forCall (fun _ _ => 0) ⟨#[], args, []⟩).memory :=
  laidMetH_of_parts3 (fuel := 8) (laidMet_of_run' 8 (by kernel_rfl) (by kernel_rfl)) (by kernel_rfl) (by kernel_rfl)

set_option maxRecDepth 100000 in
theorem blanks_lifted (os : Os) (started : os.Started) (H : Type) (enc : TypeId × Value → H) :
    ReturnsInHanded {} Tryd.checked os 3 .any (fun w args => (Rows.textBlanksSpec.pre enc Tryd.prog Tryd.f3 [] false w args ∧ laidMetH Tryd.prog Rows.textBlanksRow.laid w) ∧ sizedMet enc Tryd.prog Tryd.f3 (OpenSpec.ofChange Rows.textBlanksSpec) false w args)
      (Rows.textBlanksSpec.post enc Tryd.prog Tryd.f3 false true false false) := by
  refine returnsInHanded_of_change_and (C := Tryd.checked) (X := fun w _ => laidMetH Tryd.prog Rows.textBlanksRow.laid w) (fun _ _ _ hh h => h.of_heap hh) own started (by kernel_rfl) Tryd.func3
    (ChangeSpec.witness_shaped (enc := enc) (C := Tryd.checked) (os := os) (X := fun w _ => laidMetH Tryd.prog Rows.textBlanksRow.laid w) false (startW os) #[.string ⟨#[]⟩, .int .i64 0, .int .i64 0] 8 rfl (World.shaped_of_RefB (by kernel_rfl) (by kernel_rfl)) (by kernel_rfl) (by kernel_rfl) (by kernel_rfl) (blanks_met os _)) ?_
  intro W base args ds gs before hval0 hW _ hsz hL _
  have hval : ∀ (j : Nat) t v, Tryd.f3.params[j]? = some t → args[j]? = some v → Value.okWide Tryd.prog W .any base t v := hval0
  have hW' := hW
  obtain ⟨p, q, hA0, hV, rfl, hfz, hnd⟩ := hW
  have hA : DataW.TrodAll enc Tryd.prog W 0 (fun _ => true) true Tryd.f3.params.toList args.toList ds p := hA0
  rw [Tryd.params3] at hA hval
  obtain ⟨v0, v1, v2, d0, d1, d2, p0, p1, p2, rfl, rfl, rfl, h0, h1, h2⟩ := trodAll_three hA
  obtain ⟨rfl, rfl⟩ := trodVars_none hV
  obtain ⟨s, rfl, rfl, rfl, hs⟩ := open_string Tryd.underlying9 (hval 0 9 v0 rfl rfl) h0
  obtain ⟨x, rfl, rfl, rfl, wx⟩ := open_int Tryd.underlying3 (hval 1 3 v1 rfl rfl) h1
  obtain ⟨y, rfl, rfl, rfl, wy⟩ := open_int Tryd.underlying3 (hval 2 3 v2 rfl rfl) h2
  have hL' : laidMet Tryd.prog Rows.textBlanksRow.laid W := by
    rw [MakeChecks.laidMetH_plain _ _ _ (by kernel_rfl)] at hL; exact hL
  have ht : Tabs W := tabs_of (Lib.laidMet.reads hL' (by simp [Rows.textBlanksRow])) (Lib.laidMet.reads hL' (by simp [Rows.textBlanksRow])) (Lib.laidMet.reads hL' (by simp [Rows.textBlanksRow])) (Lib.laidMet.reads hL' (by simp [Rows.textBlanksRow]))
  have hsz' : (DataW.weightsEach Tryd.prog (Tryd.f3.params.toList ++ Rows.textBlanksSpec.plain.varTypes Tryd.prog) ([.lit (.string s.data.toList), .lit (.int .i64 x), .lit (.int .i64 y)] ++ [])).all (· ≤ reachBytes) = true := hsz
  have hsl := sized_string (j := 0) (t := 9) (bytes := s.data.toList) hsz' (by rw [Tryd.params3]; rfl) rfl
  have hs2 : s.size ≤ 140737488351232 := by
    have e : s.data.toList.length = s.size := by simp
    rw [e] at hsl
    exact hsl
  have bx := bounds_i64 wx
  have bY := bounds_i64 wy
  clear hA0 hval0
  simp only [List.append_nil] at hW'
  refine (tblanks_calls s x y W bx.1 (by have := bx.2; omega) bY.1 (by have := bY.2; omega) hs2 ht).mono fun e W' ⟨he, hb⟩ => ?_
  subst he
  exact ⟨_, rfl, law_post hW' (fun _ _ _ => trodAll_mk1 (shut_bool Tryd.underlying4 _)) (fun sp _ => trodAll_mk3 (shut_string Tryd.underlying9 hs) (shut_int Tryd.underlying3 wx) (shut_int Tryd.underlying3 wy)) (fun _ => rfl) hb
    (ok_one (by kernel_rfl) rfl (okWide_bool_mk Tryd.underlying4 _))⟩

theorem blanks_row : Rows.TextBlanksSaid :=
  OpenClaim.holds_of_wide 3 Tryd.f3 rfl rfl rfl rfl rfl rfl rfl ⟨rfl, rfl, rfl, rfl, rfl⟩ rfl rfl rfl rfl rfl (by kernel_rfl) Tryd.func3 (by kernel_rfl)
    (of_decide_eq_true (by kernel_rfl)) (by unfold Func.isWrapper; first | (rw [if_pos (by decide +kernel)]; kernel_rfl) | (rw [if_neg (by decide +kernel)]; exact ⟨rfl, rfl⟩))
    (fun os started H enc _ => blanks_lifted os started H enc)

/-- The tied card. -/
theorem textBlanks_holds : Rows.TextBlanksCardSaid :=
  Claim7.holds_tied_plain_at .later [] [.data, .data, .data, .data, .pinned] true (true, Rows.textBlanksCard.stood.harness.2) true
    blanks_row (fun _ h => by cases h) (by kernel_rfl) (fun _ h => by cases h) textBlanks_row_tie rfl ⟨rfl, rfl⟩ (by kernel_rfl) rfl
    (fun f fn hf hfn => by
      obtain rfl : f = 3 := Option.some.inj ((show Tryd.prog.funcNamed "parley/parleylaw07.TextBlanks" = some 3 by kernel_rfl).symm.trans hf) |>.symm
      obtain rfl : fn = Tryd.f3 := (Option.some.inj (Tryd.func3.symm.trans hfn)).symm
      exact ⟨by kernel_rfl, fun j t ht => by
        rw [Tryd.params3] at ht
        have hm : t ∈ [9, 3, 3] := by simpa using Array.mem_of_getElem? ht
        have hall : ([9, 3, 3].all fun u => !Tryd.prog.wantsStandIn u) = true := by kernel_rfl
        exact (show Tryd.prog.wantsStandIn t = false by simpa using List.all_eq_true.1 hall t hm)⟩)
    (by kernel_rfl)
#print axioms textBlanks_holds
end Go.Proofs.YtebdikbngnolbaaDoor
