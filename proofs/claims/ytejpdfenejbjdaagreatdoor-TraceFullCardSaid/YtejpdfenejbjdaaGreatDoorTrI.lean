/- Walks: trace: Parse's inner function, which cuts a word off the rest. -/
import Derived.Test.YtejpdfenejbjdaaGreatDoorTrH
import Derived.Test.YtejpdfenejbjdaaGreatDoorBackA
namespace Go.Proofs.YtejpdfenejbjdaaGreatDoor
open Go.RowKit Txt
set_option linter.unusedVariables false
set_option linter.unusedSimpArgs false

/-- The word, and what stands behind it. -/
def cutA (s : ByteArray) : ByteArray := ⟨(Lib.cut s.data.toList [32]).1.toArray⟩
def cutR (s : ByteArray) : ByteArray := ⟨(Lib.cut s.data.toList [32]).2.1.toArray⟩
set_option maxHeartbeats 1000000 in
theorem cut_calls (g : Nat) (s : ByteArray) (w : World) (hc : w.cell? ⟨g, 0, none⟩ = some (.string s)) (hz : w.frozen? ⟨g, 0, none⟩ = false) (hs : s.size ≤ 1048576) (ht : TabsT w) :
    Calls Tryz.prog 57 #[.pointer (some ⟨g, 0, none⟩)] w fun e w' => e = .returned (.string (cutA s)) ∧ ∃ n, w' = (w.drewN n).setCell ⟨g, 0, none⟩ (.string (cutR s)) := by
  obtain ⟨m, hm⟩ := ht.mx
  clear ht
  have HM := Lib.hid hm; clear hm
  have ha : (⟨(Lib.cut s.data.toList [32]).1.toArray⟩ : ByteArray) = cutA s := rfl
  have hr : (⟨(Lib.cut s.data.toList [32]).2.1.toArray⟩ : ByteArray) = cutR s := rfl
  have HC := Lib.hid (Tryz.strings_Cut s ⟨#[32]⟩ m w (by omega) HM.out)
  change Hid (Calls _ _ _ _ fun e w' => e = .returned (.tuple #[.string ⟨(Lib.cut s.data.toList [32]).1.toArray⟩, .string ⟨(Lib.cut s.data.toList [32]).2.1.toArray⟩, .bool (Lib.cut s.data.toList [32]).2.2]) ∧ ∃ n, w' = w.drewN n) at HC
  rw [ha, hr] at HC
  clear ha hr
  generalize (Lib.cut s.data.toList [32]).2.2 = ok at HC
  go_enter Tryz.func57, Tryz.ntmps57
  go_wp2_with fail
  refine (HC.out).mono ?_
  rintro e w1 ⟨rfl, n, rfl⟩
  go_wp2
  go_ret
  exact ⟨rfl, n, rfl⟩
end Go.Proofs.YtejpdfenejbjdaaGreatDoor

namespace Go.Proofs.YtejpdfenejbjdaaGreatDoor
open Go.RowKit Txt
set_option linter.unusedVariables false
set_option linter.unusedSimpArgs false

def noEv : Ev := ⟨0, 0, 0, 0, []⟩
/-- What the words of a line say, the row known. -/
def evOf (kind tick : Int) (r : TRow) (rest : ByteArray) : Option Ev :=
  let by_ := if r.by_ then pidB (cutA rest) else 0
  let rest1 := if r.by_ then cutR rest else rest
  let pid := if r.pid then pidB (cutA rest1) else 0
  let rest2 := if r.pid then cutR rest1 else rest1
  if rest2.size = 0 then some ⟨kind, tick, pid, by_, []⟩
  else if (parse rest2).2.1 ≠ 0 then none else some ⟨kind, tick, pid, by_, (parse rest2).1⟩
def parts (s : ByteArray) : List ByteArray := Lib.splitB ⟨#[32]⟩ 0 (min 3 (s.size + 1) - 1) s
/-- Parse: a line's event, the error. -/
def evParse (s : ByteArray) : Ev × Int :=
  if s.size > 1048576 then (noEv, 180)
  else match parts s with
    | a :: b :: c => match trow (kindB b) with
      | none => (noEv, 180)
      | some r => match evOf (kindB b) (numB a) r (c.headD .empty) with
        | none => (noEv, 180)
        | some e => if (evPrint e).2 ≠ 0 then (noEv, 180) else if (evPrint e).1 = s.data.toList then (e, 0) else (noEv, 180)
    | _ => (noEv, 180)
theorem parse_tick : evParse ⟨#[55, 32, 116, 105, 99, 107]⟩ = (⟨8, 7, 0, 0, []⟩, 0) := by
  have hp : parts ⟨#[55, 32, 116, 105, 99, 107]⟩ = [⟨#[55]⟩, ⟨#[116, 105, 99, 107]⟩] := by kernel_rfl
  have hk : kindB ⟨#[116, 105, 99, 107]⟩ = 8 := by kernel_rfl
  have hn : numB ⟨#[55]⟩ = 7 := by kernel_rfl
  have hi : Lib.itoa 7 = [55] := by unfold Lib.itoa; rw [if_neg (by decide)]; exact Lib.decDigits_one (i := 7) (by decide)
  have hr : evRight ⟨8, 7, 0, 0, []⟩ = 0 := by kernel_rfl
  unfold evParse
  rw [if_neg (by decide), hp]
  simp only [hk, hn]
  simp [trow, evOf, evPrint, hr, evHead, hi]
theorem parse_tick0 : evParse ⟨#[48, 55, 32, 116, 105, 99, 107]⟩ = (noEv, 180) := by
  have hp : parts ⟨#[48, 55, 32, 116, 105, 99, 107]⟩ = [⟨#[48, 55]⟩, ⟨#[116, 105, 99, 107]⟩] := by kernel_rfl
  have hk : kindB ⟨#[116, 105, 99, 107]⟩ = 8 := by kernel_rfl
  have hn : numB ⟨#[48, 55]⟩ = 7 := by kernel_rfl
  have hi : Lib.itoa 7 = [55] := by unfold Lib.itoa; rw [if_neg (by decide)]; exact Lib.decDigits_one (i := 7) (by decide)
  have hr : evRight ⟨8, 7, 0, 0, []⟩ = 0 := by kernel_rfl
  unfold evParse
  rw [if_neg (by decide), hp]
  simp only [hk, hn]
  simp [trow, evOf, evPrint, hr, evHead, hi]
end Go.Proofs.YtejpdfenejbjdaaGreatDoor
