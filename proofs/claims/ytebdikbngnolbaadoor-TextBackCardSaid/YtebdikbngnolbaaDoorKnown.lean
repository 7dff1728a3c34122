/- Walks: the law's fixed calls. -/
import Derived.Test.YtebdikbngnolbaaDoorPrint
namespace Go.Proofs.YtebdikbngnolbaaDoor
open Go.RowKit Txt
set_option linter.unusedVariables false
set_option linter.unusedSimpArgs false

def KB : ByteArray := { data := #[123, 111, 107, 44, 91, 49, 44, 45, 50, 93, 44, 60, 60, 34, 120, 34, 62, 62, 125] }
def KT : List Cl := [⟨5, 3, .empty⟩, ⟨2, 0, { data := #[111, 107] }⟩, ⟨7, 0, .empty⟩, ⟨1, 1, .empty⟩, ⟨7, 0, .empty⟩, ⟨1, -2, .empty⟩, ⟨6, 0, .empty⟩, ⟨8, 0, { data := #[120] }⟩]
theorem known_parse : parse KB = (KT, 0, 0) := by kernel_rfl
theorem known_right : right KT = (0, 0) := by kernel_rfl
theorem itoa_1 : Lib.itoa 1 = [49] := by
  unfold Lib.itoa; rw [if_neg (by decide)]; exact Lib.decDigits_one (i := 1) (by decide)
theorem itoa_2 : Lib.itoa (-2) = [45, 50] := by
  unfold Lib.itoa; rw [if_pos (by decide)]
  have : Lib.decDigits 2 = [50] := Lib.decDigits_one (i := 2) (by decide)
  show 45 :: Lib.decDigits 2 = _
  rw [this]
theorem known_quote : quote { data := #[111, 107] } = ([111, 107], 0) := by kernel_rfl
theorem known_shown : shown [120] = [60, 60, 34, 120, 34, 62, 62] := by kernel_rfl
theorem known_print : print KT = (KB.data.toList, 0) := by
  unfold print
  rw [known_right, if_neg (by decide)]
  have : printF KT [] [] = some KB.data.toList := by
    simp [KT, KB, printF, printC, leaf, closed, itoa_1, itoa_2, known_quote, known_shown]
  rw [this]
theorem known_fits : ∀ c ∈ KT, fits c := by
  intro c hc
  simp only [KT, List.mem_cons, List.not_mem_nil, or_false] at hc
  unfold fits
  rcases hc with rfl | rfl | rfl | rfl | rfl | rfl | rfl | rfl <;> simp
theorem known_texts : TextsOk KT := by
  intro c hc
  simp only [KT, List.mem_cons, List.not_mem_nil, or_false] at hc
  rcases hc with rfl | rfl | rfl | rfl | rfl | rfl | rfl | rfl <;> decide

set_option maxHeartbeats 1000000 in
set_option maxRecDepth 100000 in
theorem known_calls (w : World) (ht : Tabs w) : Calls Tryd.prog 7 #[] w fun e w' => e = .returned (.bool true) ∧ Below w.heap.size w w' := by
  have HT := Lib.hid ht; clear ht
  have hp := parse_calls KB w HT.out (by decide)
  rw [known_parse] at hp
  have HP := Lib.hid hp; clear hp
  have hq : ∀ x w', SeesT w' x KT → Tabs w' → Calls Tryd.prog 9 #[x] w' fun e w'' => e = .returned (.tuple #[.string KB, .int .i64 0]) ∧ Below w'.heap.size w' w'' := by
    intro x w' hx ht
    have := print_calls x KT w' hx known_texts known_fits ht
    rw [known_print] at this
    exact this
  have HQ := Lib.hid hq; clear hq
  unfold KB at HP HQ
  go_enter Tryd.func7, Tryd.ntmps7
  go_wp2_with fail
  refine (HP.out).mono ?_
  rintro e w1 ⟨x, rfl, hx, hb1⟩
  have HX := Lib.hid hx
  obtain ⟨A, cap, rfl, -, -⟩ := hx
  have HB1 := Lib.hid hb1; clear hb1
  have hl8 : (KT.length : Int) = 8 := rfl
  go_wp2_with fail
  refine (HQ.out _ _ HX.out (HT.out.below HB1.out)).mono ?_
  rintro e w2 ⟨rfl, hb2⟩
  have HB2 := Lib.hid (HB1.out.trans (hb2.mono HB1.out.size)); clear hb2
  go_wp2
  go_ret
  exact ⟨rfl, HB2.out⟩
end Go.Proofs.YtebdikbngnolbaaDoor
