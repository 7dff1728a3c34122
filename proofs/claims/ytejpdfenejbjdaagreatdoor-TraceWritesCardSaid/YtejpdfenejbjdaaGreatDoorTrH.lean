/- Walks: trace: a number of a text; a pid of a text; a word's kind. -/
import Derived.Test.YtejpdfenejbjdaaGreatDoorTrF
import Derived.Test.YtejpdfenejbjdaaGreatDoorShelf
import Derived.Lib.AtoiErrMem
import Derived.Test.YtejpdfenejbjdaaGreatDoorBackA
namespace Go.Proofs.YtejpdfenejbjdaaGreatDoor
open Go.RowKit Txt
set_option linter.unusedVariables false
set_option linter.unusedSimpArgs false

/-- The tables, the search's bound, and the two errors of strconv. -/
structure TabsT (w : World) : Prop where
  tabs : Tabs w
  mx : ∃ m, w.cell? ⟨1, 0, none⟩ = some (.int .i64 m)
  sy : ∃ te pe, w.cell? ⟨2, 0, none⟩ = some (.iface te pe)
  rg : ∃ te pe, w.cell? ⟨3, 0, none⟩ = some (.iface te pe)
theorem TabsT.below {w w' : World} (h : TabsT w) (hb : Below w.heap.size w w') : TabsT w' := by
  obtain ⟨m, h1⟩ := h.mx
  obtain ⟨te, pe, h2⟩ := h.sy
  obtain ⟨tf, pf, h3⟩ := h.rg
  exact ⟨h.tabs.below hb, ⟨m, (hb.cell (cell_lt h1)).trans h1⟩, ⟨te, pe, (hb.cell (cell_lt h2)).trans h2⟩, ⟨tf, pf, (hb.cell (cell_lt h3)).trans h3⟩⟩

/-- A number of a text; -1: it is none. -/
def numB (s : ByteArray) : Int := match Lib.parseIntB 64 s.data.toList with | .ok v => v | _ => -1
set_option maxHeartbeats 1000000 in
theorem number_calls (s : ByteArray) (w : World) (hs : s.size ≤ 281474976710656) (ht : TabsT w) :
    Calls Tryz.prog 56 #[.string s] w fun e w' => e = .returned (.int .i64 (numB s)) ∧ Below w.heap.size w w' := by
  unfold numB
  obtain ⟨te, pe, h2⟩ := ht.sy
  obtain ⟨tf, pf, h3⟩ := ht.rg
  clear ht
  have HS := Lib.hid h2; clear h2
  have HR := Lib.hid h3; clear h3
  cases hp : Lib.parseIntB 64 s.data.toList with
  | ok v =>
    have HP := Lib.hid hp; clear hp
    go_enter Tryz.func56, Tryz.ntmps56
    go_wp2_with fail
    refine (Tryz.strconv_ParseInt_10_at64_ok s (by omega) v HP.out _).mono ?_
    rintro e w1 ⟨rfl, hw⟩
    have hb : Below w.heap.size w w1 := by
      rcases hw with rfl | ⟨t, rfl⟩
      · exact Below.refl _ _
      · exact Lib.bytesWorld_below _ _ _
    clear hw
    go_wp2
    go_ret
    exact ⟨rfl, hb⟩
  | range =>
    have HP := Lib.hid hp; clear hp
    go_enter Tryz.func56, Tryz.ntmps56
    go_wp2_with fail
    refine (Tryz.strconv_ParseInt_10_at64_range s hs HP.out _ _ HR.out (.inr ⟨_, _, rfl⟩)).mono ?_
    rintro e w1 ⟨N, rfl, -, -, hb⟩
    go_wp2
    go_ret
    exact ⟨rfl, hb⟩
  | _ =>
    have HP := Lib.hid hp; clear hp
    go_enter Tryz.func56, Tryz.ntmps56
    go_wp2_with fail
    refine (Tryz.strconv_ParseInt_10_at64_syntax s hs HP.out _ _ HS.out (.inr ⟨_, _, rfl⟩)).mono ?_
    rintro e w1 ⟨N, rfl, -, -, hb⟩
    go_wp2
    go_ret
    exact ⟨rfl, hb⟩
def trimB (s : ByteArray) : ByteArray := ⟨(Lib.trimSuffix (Lib.trimPrefix s.data.toList [60]) [62]).toArray⟩
/-- A pid of a text; -1: it is none. -/
def pidB (s : ByteArray) : Int := if (s.toList == [45]) = true then 0 else numB (trimB s)
theorem trimB_size (s : ByteArray) : (trimB s).size ≤ s.size ∧ (⟨(Lib.trimPrefix s.data.toList [60]).toArray⟩ : ByteArray).size ≤ s.size := by
  have h1 : (Lib.trimPrefix s.data.toList [60]).length ≤ s.size := by
    have e : s.data.toList.length = s.size := by simp
    unfold Lib.trimPrefix
    split
    · rw [List.length_drop]; omega
    · omega
  have h2 : (Lib.trimSuffix (Lib.trimPrefix s.data.toList [60]) [62]).length ≤ (Lib.trimPrefix s.data.toList [60]).length := by
    unfold Lib.trimSuffix
    split
    · rw [List.length_take]; omega
    · exact Nat.le_refl _
  refine ⟨?_, ?_⟩
  · have : (trimB s).size = (Lib.trimSuffix (Lib.trimPrefix s.data.toList [60]) [62]).length := by simp [trimB, ByteArray.size]
    omega
  · have : (⟨(Lib.trimPrefix s.data.toList [60]).toArray⟩ : ByteArray).size = (Lib.trimPrefix s.data.toList [60]).length := by simp [ByteArray.size]
    omega
theorem pid_calls (s : ByteArray) (w : World) (hs : s.size ≤ 281474976710656) (ht : TabsT w) :
    Calls Tryz.prog 59 #[.string s] w fun e w' => e = .returned (.int .i64 (pidB s)) ∧ Below w.heap.size w w' := by
  have HT := Lib.hid ht; clear ht
  by_cases h : (s.toList == [45]) = true
  · have e : pidB s = 0 := by unfold pidB; rw [if_pos h]
    rw [e]; clear e
    go_enter Tryz.func59, Tryz.ntmps59
    go_wp2
    go_ret
    exact ⟨rfl, Below.refl _ _⟩
  · have e : pidB s = numB (trimB s) := by unfold pidB; rw [if_neg h]
    rw [e]
    have hq : (s.toList == [45]) = false := by simpa using h
    have hsz := trimB_size s
    have hn := number_calls (trimB s) w (by omega) HT.out
    have HN := Lib.hid hn; clear hn e h
    have HSZ := Lib.hid hsz; clear hsz
    go_enter Tryz.func59, Tryz.ntmps59
    go_wp2_with fail
    refine (Tryz.strings_TrimPrefix s ⟨#[60]⟩ _).mono ?_
    rintro e1 w1 ⟨rfl, rfl⟩
    go_wp2_with fail
    refine (Tryz.strings_TrimSuffix _ ⟨#[62]⟩ _ (by have := HSZ.out.2; exact Nat.le_trans this (by omega))).mono ?_
    rintro e2 w2 ⟨rfl, rfl⟩
    go_wp2_with fail
    refine (HN.out).mono ?_
    rintro e3 w3 ⟨rfl, hb⟩
    go_wp2
    go_ret
    exact ⟨rfl, hb⟩

def kindW : Nat → List UInt8
  | 1 => [115, 112, 97, 119, 110]
  | 2 => [115, 101, 110, 100]
  | 3 => [116, 97, 107, 101]
  | 4 => [108, 97, 116, 101]
  | 5 => [101, 120, 105, 116]
  | 6 => [100, 114, 111, 112]
  | 7 => [110, 97, 109, 101]
  | 8 => [116, 105, 99, 107]
  | _ => []
/-- A word's kind; 0: none: from a kind on. -/
def kindFrom (s : ByteArray) : Nat → Nat → Int
  | 0, _ => 0
  | n + 1, k => if (kindW k == s.toList) = true then (k : Int) else kindFrom s n (k + 1)
def kindB (s : ByteArray) : Int := kindFrom s 8 1
set_option maxHeartbeats 4000000 in
theorem kindOf_calls (s : ByteArray) (w : World) : Calls Tryz.prog 55 #[.string s] w fun e w' => e = .returned (.int .i64 (kindB s)) ∧ Below w.heap.size w w' := by
  generalize hv : kindB s = v
  have HV := Lib.hid hv; clear hv
  go_enter Tryz.func55, Tryz.ntmps55
  go_wp2_with fail
  go_loopw [3] (fun i wr => ∃ k n : Nat, k + n = 9 ∧ 1 ≤ k ∧ i = .int .i64 k ∧ kindFrom s n k = v ∧ Below w.heap.size w wr) (fun i _ => 9 - (intOf i).toNat)
  case atStart => exact ⟨1, 8, rfl, by omega, rfl, HV.out, Below.refl _ _⟩
  case round =>
    obtain ⟨k, n, hkn, hk, rfl, hf, hb⟩ := hrel
    have HF := Lib.hid hf; clear hf
    have HB := Lib.hid hb; clear hb
    obtain rfl | rfl | rfl | rfl | rfl | rfl | rfl | rfl | rfl : k = 1 ∨ k = 2 ∨ k = 3 ∨ k = 4 ∨ k = 5 ∨ k = 6 ∨ k = 7 ∨ k = 8 ∨ k = 9 := by omega
    · obtain rfl : n = 8 := by omega
      clear hkn hk
      go_wp2_with fail
      refine (rowOf_1 _).mono ?_
      rintro e w1 ⟨rfl, hb⟩
      have HB1 := Lib.hid (HB.out.trans (hb.mono HB.out.size)); clear hb
      unfold rowV
      dsimp only
      unfold termFn
      cases hq : ([115, 112, 97, 119, 110] == s.toList) with
      | true =>
        have HQ := Lib.hid hq
        go_wp2
        go_ret
        refine ⟨?_, HB1.out.alloc HB1.out.size _⟩
        have := HF.out
        rw [kindFrom, if_pos (show (kindW 1 == s.toList) = true from HQ.out)] at this
        rw [← this]; rfl
      | false =>
        have HQ := Lib.hid hq
        go_wp2
        go_roundw
        case rel => exact ⟨2, 7, rfl, by omega, rfl, by have := HF.out; rw [kindFrom, if_neg (by rw [show kindW 1 = [115, 112, 97, 119, 110] from rfl, HQ.out]; decide)] at this; exact this, HB1.out.alloc HB1.out.size _⟩
        case measure => simp [intOf]
    · obtain rfl : n = 7 := by omega
      clear hkn hk
      go_wp2_with fail
      refine (rowOf_2 _).mono ?_
      rintro e w1 ⟨rfl, hb⟩
      have HB1 := Lib.hid (HB.out.trans (hb.mono HB.out.size)); clear hb
      unfold rowV
      dsimp only
      unfold termFn
      cases hq : ([115, 101, 110, 100] == s.toList) with
      | true =>
        have HQ := Lib.hid hq
        go_wp2
        go_ret
        refine ⟨?_, HB1.out.alloc HB1.out.size _⟩
        have := HF.out
        rw [kindFrom, if_pos (show (kindW 2 == s.toList) = true from HQ.out)] at this
        rw [← this]; rfl
      | false =>
        have HQ := Lib.hid hq
        go_wp2
        go_roundw
        case rel => exact ⟨3, 6, rfl, by omega, rfl, by have := HF.out; rw [kindFrom, if_neg (by rw [show kindW 2 = [115, 101, 110, 100] from rfl, HQ.out]; decide)] at this; exact this, HB1.out.alloc HB1.out.size _⟩
        case measure => simp [intOf]
    · obtain rfl : n = 6 := by omega
      clear hkn hk
      go_wp2_with fail
      refine (rowOf_3 _).mono ?_
      rintro e w1 ⟨rfl, hb⟩
      have HB1 := Lib.hid (HB.out.trans (hb.mono HB.out.size)); clear hb
      unfold rowV
      dsimp only
      unfold termFn
      cases hq : ([116, 97, 107, 101] == s.toList) with
      | true =>
        have HQ := Lib.hid hq
        go_wp2
        go_ret
        refine ⟨?_, HB1.out.alloc HB1.out.size _⟩
        have := HF.out
        rw [kindFrom, if_pos (show (kindW 3 == s.toList) = true from HQ.out)] at this
        rw [← this]; rfl
      | false =>
        have HQ := Lib.hid hq
        go_wp2
        go_roundw
        case rel => exact ⟨4, 5, rfl, by omega, rfl, by have := HF.out; rw [kindFrom, if_neg (by rw [show kindW 3 = [116, 97, 107, 101] from rfl, HQ.out]; decide)] at this; exact this, HB1.out.alloc HB1.out.size _⟩
        case measure => simp [intOf]
    · obtain rfl : n = 5 := by omega
      clear hkn hk
      go_wp2_with fail
      refine (rowOf_4 _).mono ?_
      rintro e w1 ⟨rfl, hb⟩
      have HB1 := Lib.hid (HB.out.trans (hb.mono HB.out.size)); clear hb
      unfold rowV
      dsimp only
      unfold termFn
      cases hq : ([108, 97, 116, 101] == s.toList) with
      | true =>
        have HQ := Lib.hid hq
        go_wp2
        go_ret
        refine ⟨?_, HB1.out.alloc HB1.out.size _⟩
        have := HF.out
        rw [kindFrom, if_pos (show (kindW 4 == s.toList) = true from HQ.out)] at this
        rw [← this]; rfl
      | false =>
        have HQ := Lib.hid hq
        go_wp2
        go_roundw
        case rel => exact ⟨5, 4, rfl, by omega, rfl, by have := HF.out; rw [kindFrom, if_neg (by rw [show kindW 4 = [108, 97, 116, 101] from rfl, HQ.out]; decide)] at this; exact this, HB1.out.alloc HB1.out.size _⟩
        case measure => simp [intOf]
    · obtain rfl : n = 4 := by omega
      clear hkn hk
      go_wp2_with fail
      refine (rowOf_5 _).mono ?_
      rintro e w1 ⟨rfl, hb⟩
      have HB1 := Lib.hid (HB.out.trans (hb.mono HB.out.size)); clear hb
      unfold rowV
      dsimp only
      unfold termFn
      cases hq : ([101, 120, 105, 116] == s.toList) with
      | true =>
        have HQ := Lib.hid hq
        go_wp2
        go_ret
        refine ⟨?_, HB1.out.alloc HB1.out.size _⟩
        have := HF.out
        rw [kindFrom, if_pos (show (kindW 5 == s.toList) = true from HQ.out)] at this
        rw [← this]; rfl
      | false =>
        have HQ := Lib.hid hq
        go_wp2
        go_roundw
        case rel => exact ⟨6, 3, rfl, by omega, rfl, by have := HF.out; rw [kindFrom, if_neg (by rw [show kindW 5 = [101, 120, 105, 116] from rfl, HQ.out]; decide)] at this; exact this, HB1.out.alloc HB1.out.size _⟩
        case measure => simp [intOf]
    · obtain rfl : n = 3 := by omega
      clear hkn hk
      go_wp2_with fail
      refine (rowOf_6 _).mono ?_
      rintro e w1 ⟨rfl, hb⟩
      have HB1 := Lib.hid (HB.out.trans (hb.mono HB.out.size)); clear hb
      unfold rowV
      dsimp only
      unfold termFn
      cases hq : ([100, 114, 111, 112] == s.toList) with
      | true =>
        have HQ := Lib.hid hq
        go_wp2
        go_ret
        refine ⟨?_, HB1.out.alloc HB1.out.size _⟩
        have := HF.out
        rw [kindFrom, if_pos (show (kindW 6 == s.toList) = true from HQ.out)] at this
        rw [← this]; rfl
      | false =>
        have HQ := Lib.hid hq
        go_wp2
        go_roundw
        case rel => exact ⟨7, 2, rfl, by omega, rfl, by have := HF.out; rw [kindFrom, if_neg (by rw [show kindW 6 = [100, 114, 111, 112] from rfl, HQ.out]; decide)] at this; exact this, HB1.out.alloc HB1.out.size _⟩
        case measure => simp [intOf]
    · obtain rfl : n = 2 := by omega
      clear hkn hk
      go_wp2_with fail
      refine (rowOf_7 _).mono ?_
      rintro e w1 ⟨rfl, hb⟩
      have HB1 := Lib.hid (HB.out.trans (hb.mono HB.out.size)); clear hb
      unfold rowV
      dsimp only
      unfold termFn
      cases hq : ([110, 97, 109, 101] == s.toList) with
      | true =>
        have HQ := Lib.hid hq
        go_wp2
        go_ret
        refine ⟨?_, HB1.out.alloc HB1.out.size _⟩
        have := HF.out
        rw [kindFrom, if_pos (show (kindW 7 == s.toList) = true from HQ.out)] at this
        rw [← this]; rfl
      | false =>
        have HQ := Lib.hid hq
        go_wp2
        go_roundw
        case rel => exact ⟨8, 1, rfl, by omega, rfl, by have := HF.out; rw [kindFrom, if_neg (by rw [show kindW 7 = [110, 97, 109, 101] from rfl, HQ.out]; decide)] at this; exact this, HB1.out.alloc HB1.out.size _⟩
        case measure => simp [intOf]
    · obtain rfl : n = 1 := by omega
      clear hkn hk
      go_wp2_with fail
      refine (rowOf_8 _).mono ?_
      rintro e w1 ⟨rfl, hb⟩
      have HB1 := Lib.hid (HB.out.trans (hb.mono HB.out.size)); clear hb
      unfold rowV
      dsimp only
      unfold termFn
      cases hq : ([116, 105, 99, 107] == s.toList) with
      | true =>
        have HQ := Lib.hid hq
        go_wp2
        go_ret
        refine ⟨?_, HB1.out.alloc HB1.out.size _⟩
        have := HF.out
        rw [kindFrom, if_pos (show (kindW 8 == s.toList) = true from HQ.out)] at this
        rw [← this]; rfl
      | false =>
        have HQ := Lib.hid hq
        go_wp2
        go_roundw
        case rel => exact ⟨9, 0, rfl, by omega, rfl, by have := HF.out; rw [kindFrom, if_neg (by rw [show kindW 8 = [116, 105, 99, 107] from rfl, HQ.out]; decide)] at this; exact this, HB1.out.alloc HB1.out.size _⟩
        case measure => simp [intOf]
    · obtain rfl : n = 0 := by omega
      go_wp2
      go_ret
      exact ⟨by rw [← HF.out]; rfl, HB.out⟩
end Go.Proofs.YtejpdfenejbjdaaGreatDoor

namespace Go.Proofs.YtejpdfenejbjdaaGreatDoor
open Go.RowKit Txt
set_option linter.unusedVariables false
set_option linter.unusedSimpArgs false

/-- The word, and what stands behind it. -/
def cutA (s : ByteArray) : ByteArray := ⟨(Lib.cut s.data.toList [32]).1.toArray⟩
def cutR (s : ByteArray) : ByteArray := ⟨(Lib.cut s.data.toList [32]).2.1.toArray⟩
set_option maxHeartbeats 1000000 in
theorem cut_calls (g : Nat) (s : ByteArray) (w : World) (hc : w.cell? ⟨g, 0, none⟩ = some (.string s)) (hz : w.frozen? ⟨g, 0, none⟩ = false) (hs : s.size ≤ 1048576) (ht : TabsT w) :
    Calls Tryz.prog 57 #[.pointer (some ⟨g, 0, none⟩)] w fun e w' => e = .returned (.string (cutA s)) ∧ ∃ n, w' = (w.drewN n).setCell ⟨g, 0, none⟩ (.string (cutR s)) := by
  obtain ⟨m, hm⟩ := ht.mx
  clear ht
  have HM := Lib.hid hm; clear hm
  have ha : (⟨(Lib.cut s.data.toList [32]).1.toArray⟩ : ByteArray) = cutA s := rfl
  have hr : (⟨(Lib.cut s.data.toList [32]).2.1.toArray⟩ : ByteArray) = cutR s := rfl
  have HC := Lib.hid (Tryz.strings_Cut s ⟨#[32]⟩ m w (by omega) HM.out)
  change Hid (Calls _ _ _ _ fun e w' => e = .returned (.tuple #[.string ⟨(Lib.cut s.data.toList [32]).1.toArray⟩, .string ⟨(Lib.cut s.data.toList [32]).2.1.toArray⟩, .bool (Lib.cut s.data.toList [32]).2.2]) ∧ ∃ n, w' = w.drewN n) at HC
  rw [ha, hr] at HC
  clear ha hr
  generalize (Lib.cut s.data.toList [32]).2.2 = ok at HC
  go_enter Tryz.func57, Tryz.ntmps57
  go_wp2_with fail
  refine (HC.out).mono ?_
  rintro e w1 ⟨rfl, n, rfl⟩
  go_wp2
  go_ret
  exact ⟨rfl, n, rfl⟩
end Go.Proofs.YtejpdfenejbjdaaGreatDoor

namespace Go.Proofs.YtejpdfenejbjdaaGreatDoor
open Go.RowKit Txt
set_option linter.unusedVariables false
set_option linter.unusedSimpArgs false

def noEv : Ev := ⟨0, 0, 0, 0, []⟩
/-- What the words of a line say, the row known. -/
def evOf (kind tick : Int) (r : TRow) (rest : ByteArray) : Option Ev :=
  let by_ := if r.by_ then pidB (cutA rest) else 0
  let rest1 := if r.by_ then cutR rest else rest
  let pid := if r.pid then pidB (cutA rest1) else 0
  let rest2 := if r.pid then cutR rest1 else rest1
  if rest2.size = 0 then some ⟨kind, tick, pid, by_, []⟩
  else if (parse rest2).2.1 ≠ 0 then none else some ⟨kind, tick, pid, by_, (parse rest2).1⟩
def parts (s : ByteArray) : List ByteArray := Lib.splitB ⟨#[32]⟩ 0 (min 3 (s.size + 1) - 1) s
/-- Parse: a line's event, the error. -/
def evParse (s : ByteArray) : Ev × Int :=
  if s.size > 1048576 then (noEv, 180)
  else match parts s with
    | a :: b :: c => match trow (kindB b) with
      | none => (noEv, 180)
      | some r => match evOf (kindB b) (numB a) r (c.headD .empty) with
        | none => (noEv, 180)
        | some e => if (evPrint e).2 ≠ 0 then (noEv, 180) else if (evPrint e).1 = s.data.toList then (e, 0) else (noEv, 180)
    | _ => (noEv, 180)
theorem parse_tick : evParse ⟨#[55, 32, 116, 105, 99, 107]⟩ = (⟨8, 7, 0, 0, []⟩, 0) := by
  have hp : parts ⟨#[55, 32, 116, 105, 99, 107]⟩ = [⟨#[55]⟩, ⟨#[116, 105, 99, 107]⟩] := by kernel_rfl
  have hk : kindB ⟨#[116, 105, 99, 107]⟩ = 8 := by kernel_rfl
  have hn : numB ⟨#[55]⟩ = 7 := by kernel_rfl
  have hi : Lib.itoa 7 = [55] := by unfold Lib.itoa; rw [if_neg (by decide)]; exact Lib.decDigits_one (i := 7) (by decide)
  have hr : evRight ⟨8, 7, 0, 0, []⟩ = 0 := by kernel_rfl
  unfold evParse
  rw [if_neg (by decide), hp]
  simp only [hk, hn]
  simp [trow, evOf, evPrint, hr, evHead, hi]
theorem parse_tick0 : evParse ⟨#[48, 55, 32, 116, 105, 99, 107]⟩ = (noEv, 180) := by
  have hp : parts ⟨#[48, 55, 32, 116, 105, 99, 107]⟩ = [⟨#[48, 55]⟩, ⟨#[116, 105, 99, 107]⟩] := by kernel_rfl
  have hk : kindB ⟨#[116, 105, 99, 107]⟩ = 8 := by kernel_rfl
  have hn : numB ⟨#[48, 55]⟩ = 7 := by kernel_rfl
  have hi : Lib.itoa 7 = [55] := by unfold Lib.itoa; rw [if_neg (by decide)]; exact Lib.decDigits_one (i := 7) (by decide)
  have hr : evRight ⟨8, 7, 0, 0, []⟩ = 0 := by kernel_rfl
  unfold evParse
  rw [if_neg (by decide), hp]
  simp only [hk, hn]
  simp [trow, evOf, evPrint, hr, evHead, hi]
end Go.Proofs.YtejpdfenejbjdaaGreatDoor
