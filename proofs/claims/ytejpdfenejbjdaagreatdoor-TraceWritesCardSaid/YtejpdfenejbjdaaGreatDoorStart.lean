/- From the listed variables to what the walks ask; a start that fits. -/
import Derived.Test.YtejpdfenejbjdaaGreatDoorRows
import Derived.Test.YtejpdfenejbjdaaGreatDoorCells
import Derived.ProofKit
import Derived.LaidMore
import Derived.LaidHandle
import Derived.OpenShut
import Derived.Lib.LaidU8
import Derived.Stop.Joined
import Derived.ChangeSame
namespace Go.Proofs.YtejpdfenejbjdaaGreatDoor
open Go.ChangeShapes Go.WideShapes Go.ChangeAt Go.RowKit Go.Lib Txt
set_option linter.unusedVariables false
set_option linter.unusedSimpArgs false

theorem own : ownKnob Tryz.prog.godebug = none := by kernel_rfl
theorem tab_of_reads {P : Program} {W : World} {name : String} {k : IntKind} {zs : List Int} {g t e n : Nat} (hg : P.globalNamed name = some g) (hty : (P.globals[g]?).map (·.type) = some t) (ht : P.underlying t = some (.array n e)) (he : P.underlying e = some (.int k)) (hce : P.cellsOf e = 1) (hct : P.cellsOf t = n)
    (h : VarReads P W name (tabData k zs)) : TabIs P W name k zs := by
  obtain ⟨g', t', cs, fuel, p, hg', hty', hvar, hd⟩ := h
  obtain rfl := Option.some.inj (hg.symm.trans hg')
  obtain rfl := Option.some.inj (hty.symm.trans hty')
  have hcs := cells_of_tab ht he hce hct hd
  unfold TabIs
  rw [hvar, ← hcs]
theorem tabs_of {W : World} (h1 : VarReads Tryz.prog W "unicode/utf8.first" Rows.laid_unicode_utf8_first) (h2 : VarReads Tryz.prog W "unicode/utf8.acceptRanges" Rows.laid_unicode_utf8_acceptRanges)
    (h3 : VarReads Tryz.prog W "internal/strconv.uint64pow10" Rows.laid_internal_strconv_uint64pow10) (h4 : VarReads Tryz.prog W "math/bits.deBruijn64tab" Rows.laid_math_bits_deBruijn64tab) : Tabs W := by
  have e1 : Rows.laid_unicode_utf8_first = firstData := by kernel_rfl
  have e2 : (Rows.laid_unicode_utf8_acceptRanges : DataW Unit) = acceptData := by kernel_rfl
  have e3 : (Rows.laid_internal_strconv_uint64pow10 : DataW Unit) = tabData .u64 pow10Tab := by kernel_rfl
  have e4 : (Rows.laid_math_bits_deBruijn64tab : DataW Unit) = tabData .u8 [0, 1, 56, 2, 57, 49, 28, 3, 61, 58, 42, 50, 38, 29, 17, 4, 62, 47, 59, 36, 45, 43, 51, 22, 53, 39, 33, 30, 24, 18, 12, 5, 63, 55, 48, 27, 60, 41, 37, 16, 46, 35, 44, 21, 52, 32, 23, 11, 54, 26, 40, 15, 34, 20, 31, 10, 25, 14, 19, 9, 13, 8, 7, 6] := by kernel_rfl
  rw [e1] at h1
  rw [e2] at h2
  rw [e3] at h3
  rw [e4] at h4
  have hu : Lib.Utf8Tabs 6 7 W := utf8Tabs_of_reads (ρ := Tryz.lays260_ren) Tryz.lays260 ⟨by kernel_rfl, by kernel_rfl, by kernel_rfl, by kernel_rfl, by kernel_rfl, by kernel_rfl, by kernel_rfl⟩ h1 h2
  have hp : TabIs Tryz.prog W "internal/strconv.uint64pow10" .u64 pow10Tab := tab_of_reads (g := 0) (t := 170) (e := 142) (n := 20) (by kernel_rfl) (by kernel_rfl) Tryz.underlying170 Tryz.underlying142 (by kernel_rfl) (by kernel_rfl) h3
  have hd := tab_of_reads (g := 5) (t := 220) (e := 5) (n := 64) (by kernel_rfl) (by kernel_rfl) Tryz.underlying220 Tryz.underlying5 (by kernel_rfl) (by kernel_rfl) h4
  have hc := World.var?_cell (P := Tryz.prog) (w := W) (show Tryz.prog.globalNamed "math/bits.deBruijn64tab" = some 5 by kernel_rfl) hd 15
  have hc' : W.cell? ⟨5, 15, none⟩ = some (.int .u8 4) := hc
  have hp0 := World.var?_cell (P := Tryz.prog) (w := W) (show Tryz.prog.globalNamed "internal/strconv.uint64pow10" = some 0 by kernel_rfl) hp 0
  have hp0' : W.cell? ⟨0, 0, none⟩ = some (.int .u64 1) := hp0
  refine ⟨?_, hu, hp, hc'⟩
  have l1 := cell_lt hc'
  have l2 := cell_lt hp0'
  have l3 := cell_lt (hu.1 0 (by decide))
  have l4 := cell_lt (hu.2 0 (by decide)).1
  simp only at l1 l2 l3 l4
  unfold ng
  simp only [List.foldl_cons, List.foldl_nil]
  omega

/-- How a law's row ends whose call leaves all that was there: its one result, its arguments read again, no variable. -/
theorem law_post {H : Type} {enc : TypeId × Value → H} {P : Program} {fn : Func} {sp : ChangeSpec} {ap fr ho ag : Bool} {w u : World} {xs : Array Value} {r : Value} {ds : List (DataW H)} {places : List MemPlace}
    (whole : DataW.Whole enc P fn.params.toList sp.vars ap w xs.toList ds [] places)
    (result : ∀ (n : Nat) (see : Nat → Bool) (held : Bool), DataW.TrodAll enc P u n see held fn.resultTypes.toList (r.resultList fn.resultTypes.size) (sp.fn H (ds ++ [])).results [])
    (arguments : ∀ see : Nat → Bool, (∀ p ∈ places, see p.block = true) → DataW.TrodAll enc P u 0 see true fn.params.toList xs.toList (sp.fn H (ds ++ [])).args places)
    (variables : ∀ see : Nat → Bool, DataW.TrodVars enc P u see sp.vars (sp.fn H (ds ++ [])).vars [])
    (low : Below w.heap.size w u)
    (fine : ∀ (j : Nat) (t : TypeId) (y : Value), fn.resultTypes[j]? = some t → (r.resultList fn.resultTypes.size)[j]? = some y → Value.okWide P u .any 0 t y) :
    sp.post enc P fn ap fr ho ag w xs r u := by
  have old : ∀ p ∈ places, p.block < w.heap.size := fun p hp => whole.lt p hp
  have seen : ∀ p ∈ places, (fun b => decide (b < w.heap.size)) p.block = true := fun p hp => decide_eq_true (old p hp)
  obtain ⟨_, _, _, _, _, thawed, distinct⟩ := id whole
  have placed : ∀ (b off : Nat), MemPlace.cell b off ∈ places → u.frozen? ⟨b, off, none⟩ = false := fun b off hp => (low.frozen (old _ hp)).trans (thawed b off hp)
  refine ⟨ds, [], places, [], places, [], whole, result _ _ _, arguments _ seen, variables _, World.keptBut_mono (fun p hp => ⟨hp, .inr (.inl hp)⟩) (low.frame (· ∈ places)), fun _ => ?_⟩
  refine ⟨fine, _, _, [] ++ places, ⟨[] ++ places, [], trodAll_append (arguments _ fun _ _ => rfl) (result _ _ _), variables _, (List.append_nil _).symm, fun b off hp => placed b off hp, distinct⟩, fun p hp _ => ?_⟩
  simpa using hp

/-- A start: the door's own heap, the pinned table laid. -/
noncomputable def startW (os : Os) : World :=
  { World.doorLaid Tryz.prog 400 os with heap := (World.doorLaid Tryz.prog 400 os).heap.modify 6 fun
    | .cells _ t fz => .cells (firstTab.map fun z => Value.int .u8 z).toArray t fz
    | o => o }
end Go.Proofs.YtejpdfenejbjdaaGreatDoor
