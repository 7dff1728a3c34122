/- Walks: trace: the law's fixed calls. -/
import Derived.Test.YtejpdfenejbjdaaGreatDoorTrK
namespace Go.Proofs.YtejpdfenejbjdaaGreatDoor
open Go.RowKit Txt
set_option linter.unusedVariables false
set_option linter.unusedSimpArgs false

def KE : Ev := ⟨2, 12, 5, 1, [⟨2, 0, { data := #[111, 107] }⟩]⟩
def KL : ByteArray := { data := #[49, 50, 32, 115, 101, 110, 100, 32, 60, 49, 62, 32, 60, 53, 62, 32, 111, 107] }
theorem itoa_12 : Lib.itoa 12 = [49, 50] := by
  unfold Lib.itoa; rw [if_neg (by decide)]; exact Lib.decDigits_two (i := 12) (by decide) (by decide)
theorem itoa_1' : Lib.itoa 1 = [49] := by
  unfold Lib.itoa; rw [if_neg (by decide)]; exact Lib.decDigits_one (i := 1) (by decide)
theorem itoa_5 : Lib.itoa 5 = [53] := by
  unfold Lib.itoa; rw [if_neg (by decide)]; exact Lib.decDigits_one (i := 5) (by decide)
theorem known_quote' : quote { data := #[111, 107] } = ([111, 107], 0) := by kernel_rfl
theorem ke_print : evPrint KE = (KL.data.toList, 0) := by
  have hr : evRight KE = 0 := by kernel_rfl
  have hrt : right KE.term = (0, 0) := by kernel_rfl
  have hp : print KE.term = ([111, 107], 0) := by
    unfold print
    rw [hrt, if_neg (by decide)]
    have : printF KE.term [] [] = some [111, 107] := by
      simp [KE, printF, printC, leaf, closed, known_quote']
    rw [this]
  unfold evPrint
  rw [hr, if_neg (by decide)]
  have ht : trow KE.kind = some ⟨⟨#[115, 101, 110, 100]⟩, true, true, false, 1⟩ := by kernel_rfl
  rw [ht]
  simp only
  rw [if_pos (by decide), hp]
  simp [evHead, KE, KL, itoa_12, itoa_1', itoa_5, whoB]
theorem ke_fits : ∀ c ∈ KE.term, fits c := by
  intro c hc
  simp only [KE, List.mem_cons, List.not_mem_nil, or_false] at hc
  unfold fits
  subst hc; simp
theorem ke_texts : TextsOk KE.term := by
  intro c hc
  simp only [KE, List.mem_cons, List.not_mem_nil, or_false] at hc
  subst hc; decide

set_option maxHeartbeats 2000000 in
set_option maxRecDepth 100000 in
theorem awake_calls (w : World) (ht : TabsT w) : Calls Tryz.prog 17 #[] w fun e w' => e = .returned (.bool true) ∧ Below w.heap.size w w' := by
  have HT := Lib.hid ht; clear ht
  have hq : ∀ x w', SeesT w' x KE.term → Tabs w' → Calls Tryz.prog 14 #[.agg #[.int .i64 2, .int .i64 12, .int .i64 5, .int .i64 1, x]] w' fun e w'' => e = .returned (.tuple #[.string ⟨#[49, 50, 32, 115, 101, 110, 100, 32, 60, 49, 62, 32, 60, 53, 62, 32, 111, 107]⟩, .int .i64 0]) ∧ Below w'.heap.size w' w'' := by
    intro x w' hx ht
    have := tprint_calls KE x w' hx ke_texts ke_fits (by simp [fit64, KE]) (by simp [fit64, KE]) (by simp [fit64, KE]) ht
    rw [ke_print] at this
    exact this
  have HQ := Lib.hid hq; clear hq
  have hp := fun W h => tparse_calls ⟨#[55, 32, 116, 105, 99, 107]⟩ W h
  rw [parse_tick] at hp
  have HP := Lib.hid hp; clear hp
  have hp0 := fun W h => tparse_calls ⟨#[48, 55, 32, 116, 105, 99, 107]⟩ W h
  rw [parse_tick0] at hp0
  have HP0 := Lib.hid hp0; clear hp0
  go_enter Tryz.func17, Tryz.ntmps17
  go_wp2_with fail
  have hs : ∀ W : World, SeesT (W.alloc (.cells #[.int .i64 2, .int .i64 0, .string ⟨#[111, 107]⟩] 74)) (.slice (some ⟨W.heap.size, 0, none⟩) 1 1) KE.term := by
    intro W
    refine ⟨some ⟨W.heap.size, 0, none⟩, 1, rfl, by decide, fun _ => ⟨_, rfl, fun j u hj => ?_⟩⟩
    exact new_list W [.int .i64 2, .int .i64 0, .string ⟨#[111, 107]⟩] _ _ rfl j u hj
  refine (HQ.out _ _ (hs _) (HT.out.tabs.below ((Below.refl _ _).alloc (Nat.le_refl _) _))).mono ?_
  rintro e w1 ⟨rfl, hb1⟩
  have HB1 := Lib.hid (((Below.refl w.heap.size w).alloc (Nat.le_refl _) (.cells #[.int .i64 2, .int .i64 0, .string ⟨#[111, 107]⟩] 74)).trans (hb1.mono (by simp))); clear hb1 hs
  go_wp2_with fail
  refine (HP.out _ (HT.out.below HB1.out)).mono ?_
  rintro e w2 ⟨x, rfl, hx, hb2⟩
  have HB2 := Lib.hid (HB1.out.trans (hb2.mono HB1.out.size)); clear hb2
  obtain ⟨XA, xc, rfl, -, -⟩ := hx
  unfold evV
  dsimp only [List.length_nil]
  go_wp2_with fail
  have hb3 := HB2.out.alloc HB2.out.size (.cells #[.int .i64 8, .int .i64 7, .int .i64 0, .int .i64 0, .slice XA 0 xc] 24)
  have HB3 := Lib.hid hb3; clear hb3
  have q0 : ∀ w4, Below (w2.alloc (.cells #[.int .i64 8, .int .i64 7, .int .i64 0, .int .i64 0, .slice XA 0 xc] 24)).heap.size (w2.alloc (.cells #[.int .i64 8, .int .i64 7, .int .i64 0, .int .i64 0, .slice XA 0 xc] 24)) w4 → w4.cell? ⟨w2.heap.size, 0, none⟩ = some (.int .i64 8) ∧ w4.cell? ⟨w2.heap.size, 1, none⟩ = some (.int .i64 7) := by
    intro w4 hb
    have he := (evAt_new w2 ⟨8, 7, 0, 0, []⟩ (.slice XA 0 xc)).below hb
    exact ⟨he.c0, he.c1⟩
  have Q0 := Lib.hid q0; clear q0
  refine (HP0.out _ (HT.out.below HB3.out)).mono ?_
  rintro e w4 ⟨y, rfl, hy, hb4⟩
  have q0 := Q0.out _ hb4
  have HB4 := Lib.hid (HB3.out.trans (hb4.mono HB3.out.size))
  have hz : w2.heap.size < w4.heap.size := by have := hb4.size; simp at this; omega
  clear hb4
  obtain ⟨YA, yc, rfl, -, -⟩ := hy
  unfold evV
  dsimp only [noEv, List.length_nil]
  have q1 := q0.1
  have q2 := q0.2
  clear q0
  go_wp2
  go_ret
  exact ⟨rfl, HB4.out.alloc HB4.out.size _⟩
end Go.Proofs.YtejpdfenejbjdaaGreatDoor
