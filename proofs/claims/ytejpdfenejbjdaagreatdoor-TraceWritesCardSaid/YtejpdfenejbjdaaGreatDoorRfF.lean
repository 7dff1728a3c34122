/- Walks: the reference: is a binary plain. -/
import Derived.Test.YtejpdfenejbjdaaGreatDoorRfD
import Derived.Test.YtejpdfenejbjdaaGreatDoorShown
import Derived.Lib.AppendStr
namespace Go.Proofs.YtejpdfenejbjdaaGreatDoor
open Go.RowKit Txt
set_option linter.unusedVariables false
set_option linter.unusedSimpArgs false

theorem plainB_no {l : List UInt8} {c : UInt8} (h : c ∈ l) (hc : plainC c = false) : plainB l = false := by
  unfold plainB
  have : (l.all fun c => decide (32 ≤ c.toNat) && decide (c.toNat ≤ 126)) = false := by
    rw [Bool.eq_false_iff]
    intro h2
    have := List.all_eq_true.1 h2 c h
    unfold plainC at hc
    rw [hc] at this; cases this
  rw [this, Bool.and_false]
set_option maxHeartbeats 1000000 in
theorem r7plain_calls (s : ByteArray) (t : Bool) (w : World) (hs : s.size ≤ 140737488355328) (h : plainB s.data.toList = t) :
    Calls Tryz.prog 170 #[.string s] w fun e w' => e = .returned (.bool t) ∧ w' = w := by
  have hlen : s.data.toList.length = s.size := by simp
  have H := Lib.hid h; clear h
  have HL := Lib.hid hlen; clear hlen
  go_enter Tryz.func170, Tryz.ntmps170
  go_wp2
  go_loop [3] (fun i => ∃ k : Nat, k ≤ s.size ∧ i = .int .i64 k ∧ (s.data.toList.take k).all plainC = true) (fun i => s.size - (intOf i).toNat)
  case atStart => exact ⟨0, Nat.zero_le _, rfl, rfl⟩
  case round =>
    obtain ⟨k, hk, rfl, hp⟩ := hrel
    have HP := Lib.hid hp; clear hp
    by_cases hlt : k < s.size
    · have hel : s.data.toList[k]'(by simpa using hlt) = s[k] := by simp; rfl
      have htk : (s.data.toList.take (k + 1)).all plainC = ((s.data.toList.take k).all plainC && plainC s[k]) := by
        rw [List.take_succ_eq_append_getElem (by simpa using hlt), List.all_append, hel]; simp
      have hmem : s[k] ∈ s.data.toList := by rw [← hel]; exact List.getElem_mem _
      have HTK := Lib.hid htk; clear htk hel
      have HM := Lib.hid hmem; clear hmem
      by_cases h32 : s[k].toNat < 32
      · have t1 : decide (s[k].toNat < 32) = true := decide_eq_true h32
        have t1i : decide ((s[k].toNat : Int) < 32) = true := decide_eq_true (by omega)
        obtain rfl : t = false := by
          rw [← H.out]; exact plainB_no HM.out (by unfold plainC; rw [decide_eq_false (by omega)]; rfl)
        clear h32
        go_wp2
        go_ret
        exact ⟨rfl, rfl⟩
      · have t1 : decide (s[k].toNat < 32) = false := decide_eq_false h32
        have t1i : decide ((s[k].toNat : Int) < 32) = false := decide_eq_false (by omega)
        by_cases h126 : 126 < s[k].toNat
        · have t2 : decide (126 < s[k].toNat) = true := decide_eq_true h126
          have t2i : decide ((126 : Int) < (s[k].toNat : Int)) = true := decide_eq_true (by omega)
          obtain rfl : t = false := by
            rw [← H.out]; exact plainB_no HM.out (by unfold plainC; rw [decide_eq_false (p := s[k].toNat ≤ 126) (by omega), Bool.and_false])
          clear h32 h126
          go_wp2
          go_ret
          exact ⟨rfl, rfl⟩
        · have t2 : decide (126 < s[k].toNat) = false := decide_eq_false h126
          have t2i : decide ((126 : Int) < (s[k].toNat : Int)) = false := decide_eq_false (by omega)
          have hpc : plainC s[k] = true := by unfold plainC; rw [decide_eq_true (by omega), decide_eq_true (by omega)]; rfl
          have HPC := Lib.hid hpc; clear hpc h32 h126
          go_wp2
          go_round
          case rel => exact ⟨k + 1, by omega, by go_num, by rw [HTK.out, HP.out, HPC.out]; rfl⟩
          case measure => simp [intOf]; omega
    · obtain rfl : k = s.size := by omega
      have ht : t = !s.toList.isEmpty := by
        rw [← H.out, isEmpty_size]
        unfold plainB
        have := HP.out
        rw [List.take_of_length_le (by rw [HL.out]; exact Nat.le_refl _)] at this
        have e : (s.data.toList.all fun c => decide (32 ≤ c.toNat) && decide (c.toNat ≤ 126)) = true := this
        rw [e, Bool.and_true]
        by_cases h0 : s.size = 0
        · have : s.data.toList = [] := List.length_eq_zero_iff.1 (by rw [HL.out, h0])
          simp [this, h0]
        · have : s.data.toList ≠ [] := fun e => h0 (by rw [← HL.out, e]; rfl)
          simp [this, h0]
      have HTT := Lib.hid ht; clear ht
      go_wp2
      go_ret
      exact ⟨by rw [HTT.out]; rfl, rfl⟩
end Go.Proofs.YtejpdfenejbjdaaGreatDoor

namespace Go.Proofs.YtejpdfenejbjdaaGreatDoor
open Go.RowKit Txt
set_option linter.unusedVariables false
set_option linter.unusedSimpArgs false

theorem OwnB.appendS {base : Nat} {w : World} {v : Value} {t l : List UInt8} {s : ByteArray} (h : w.ownsRow base 5 1 v (t.length + s.size) (Lib.byteCells t ++ Lib.strCells s)) (hl : s.data.toList = l) : OwnB base w v (t ++ l) := by
  subst hl
  show w.ownsRow _ _ _ _ _ _
  rw [byteCells_append, List.length_append]
  have e : s.data.toList.length = s.size := by simp
  rw [e]; exact h
set_option maxHeartbeats 8000000 in
set_option maxRecDepth 100000 in
theorem r7binary_calls (s : ByteArray) (w : World) (hs : s.size ≤ 1024) (ht : Tabs w) :
    Calls Tryz.prog 116 #[.string s] w fun e w' => e = .returned (.string (Txt.bytes (Txt.shown s.data.toList))) ∧ Below w.heap.size w w' := by
  have HT := Lib.hid ht; clear ht
  have hlen : s.data.toList.length = s.size := by simp
  have HL := Lib.hid hlen; clear hlen
  obtain ⟨i0, hi, hz0, hz1, hz2⟩ := info_parts info_u8
  have HO := Lib.hid (OwnB.nil w.heap.size w)
  have HB := Lib.hid (Below.refl w.heap.size w)
  generalize hRS : Txt.shown s.data.toList = RS
  have HRS := Lib.hid hRS; clear hRS
  have hplain := r7plain_calls s
  cases hP : plainB s.data.toList with
  | true =>
    have hRES : Txt.shown s.data.toList = [60, 60, 34] ++ slashed s.data.toList ++ [34, 62, 62] := by unfold Txt.shown; rw [hP]; rfl
    rw [HRS.out] at hRES
    have HRES := Lib.hid hRES; clear hRES
    have hpc := fun W => hplain true W (by omega) hP
    have HPC := Lib.hid hpc; clear hpc hplain hP
    go_enter Tryz.func116, Tryz.ntmps116
    have hge1 := Lib.hid HO.out.own_ge
    go_wp2_with (at_builtin; refine Lib.wpList_append_own_string _ rfl _ _ 91 9 rfl w.heap.size 5 i0 Tryz.underlying91 Tryz.underlying9 hi hz0 hz1 hz2 _ _ _ rfl HO.out ⟨#[60, 60]⟩ rfl ?a1 ?b1 ?c1 ?_)
    case a1 => unfold maxLen; (try simp only [List.length_append, List.length_cons, List.length_nil]) <;> first | omega | (simp; done) | (simp; omega) | (simp [ByteArray.size]; done) | (simp [ByteArray.size]; omega)
    case b1 => (try simp only [List.length_append, List.length_cons, List.length_nil]) <;> first | omega | (simp; done) | (simp; omega) | (simp [ByteArray.size]; done) | (simp [ByteArray.size]; omega)
    case c1 => exact HB.out.size
    intro v1 x1 hown hgrow _
    have HO1 : Hid (OwnB w.heap.size x1 v1 ([] ++ [60, 60])) := Lib.hid (OwnB.appendS (t := []) (s := ⟨#[60, 60]⟩) (by first | exact hown | simpa using hown | simpa [ByteArray.size] using hown) rfl)
    have HB1 := Lib.hid (HB.out.grown hgrow HB.out.size hge1.out)
    clear hown hgrow hge1
    go_wp2_with fail
    refine (HPC.out _).mono ?_
    rintro e w' ⟨rfl, rfl⟩
    have hge2 := Lib.hid HO1.out.own_ge
    go_wp2_with (at_builtin; refine wpList_append_own _ rfl _ _ 91 rfl w.heap.size 5 i0 (.int .u8 0) 1 1 Tryz.underlying91 hi hz0 hz1 hz2 rfl (by decide) _ _ _ rfl (World.ownsRow.alloc HO1.out _) ⟨_, 0, none⟩ 1 1 (Lib.byteCells [34]) rfl rfl ?a2 (byteCells_oneCell _) ?b2 ?c2 ?d2 ?_)
    case a2 => exact new_list _ (Lib.byteCells [34]) _ _ rfl
    case b2 => unfold maxLen; (try simp only [List.length_append, List.length_cons, List.length_nil]); omega
    case c2 => (try simp only [List.length_append, List.length_cons, List.length_nil]); omega
    case d2 => have := HB1.out.size; simp; omega
    intro v2 x2 hown hgrow _
    have HO2 : Hid (OwnB w.heap.size x2 v2 (([] ++ [60, 60]) ++ [34])) := Lib.hid (OwnB.appended (u := [34]) hown (by simp))
    have HB2 := Lib.hid ((HB1.out.alloc HB1.out.size _).grown hgrow (by have := HB1.out.size; simp; omega) hge2.out)
    clear hown hgrow hge2
    go_wp2_with fail
    go_loopw [3, 4] (fun v i wr => ∃ k : Nat, k ≤ s.size ∧ i = .int .i64 k ∧ OwnB w.heap.size wr v ([60, 60, 34] ++ slashed (s.data.toList.take k)) ∧ Below w.heap.size w wr) (fun _ i _ => s.size - (intOf i).toNat)
    case atStart => exact ⟨0, Nat.zero_le _, rfl, HO2.out, HB2.out⟩
    case round =>
      obtain ⟨k, hk, rfl, ho, hb⟩ := hrel
      have HO := Lib.hid ho; clear ho
      have HB := Lib.hid hb; clear hb
      clear HO1 HO2 HB1 HB2
      by_cases hlt : k < s.size
      · have hsc := slashed_take s.data.toList k (by simpa using hlt)
        have hel : s.data.toList[k]'(by simpa using hlt) = s[k] := by simp; rfl
        rw [hel] at hsc
        have hsl := slashed_len (s.data.toList.take k)
        rw [List.length_take, HL.out, Nat.min_eq_left hk] at hsl
        by_cases hc : s[k] = 34 ∨ s[k] = 92
        · rw [if_pos hc] at hsc
          have hcases : (((s[k].toNat : Int) == 34) = true ∧ ((s[k].toNat : Int) == 92) = false) ∨ (((s[k].toNat : Int) == 34) = false ∧ ((s[k].toNat : Int) == 92) = true) := by
            rcases hc with e | e <;> rw [e] <;> decide
          have HSC := Lib.hid hsc; clear hsc hel hc
          rcases hcases with ⟨h34, h92⟩ | ⟨h34, h92⟩
          all_goals
            have hge3 := Lib.hid HO.out.own_ge
            go_wp2_with (at_builtin; refine wpList_append_own _ rfl _ _ 91 rfl w.heap.size 5 i0 (.int .u8 0) 1 1 Tryz.underlying91 hi hz0 hz1 hz2 rfl (by decide) _ _ _ rfl (World.ownsRow.alloc HO.out _) ⟨_, 0, none⟩ 1 1 (Lib.byteCells [92]) rfl rfl ?a3 (byteCells_oneCell _) ?b3 ?c3 ?d3 ?_)
            case a3 => exact new_list _ (Lib.byteCells [92]) _ _ rfl
            case b3 => unfold maxLen; (try simp only [List.length_append, List.length_cons, List.length_nil]); omega
            case c3 => (try simp only [List.length_append, List.length_cons, List.length_nil]); omega
            case d3 => have := HB.out.size; simp; omega
            intro v3 x3 hown hgrow _
            have HO3 : Hid (OwnB w.heap.size x3 v3 (([60, 60, 34] ++ slashed (s.data.toList.take k)) ++ [92])) := Lib.hid (OwnB.appended (u := [92]) hown (by simp))
            have HB3 := Lib.hid ((HB.out.alloc HB.out.size _).grown hgrow (by have := HB.out.size; simp; omega) hge3.out)
            clear hown hgrow hge3
            have hge4 := Lib.hid HO3.out.own_ge
            go_wp2_with (at_builtin; refine wpList_append_own _ rfl _ _ 91 rfl w.heap.size 5 i0 (.int .u8 0) 1 1 Tryz.underlying91 hi hz0 hz1 hz2 rfl (by decide) _ _ _ rfl (World.ownsRow.alloc HO3.out _) ⟨_, 0, none⟩ 1 1 (Lib.byteCells [s[k]]) rfl rfl ?a4 (byteCells_oneCell _) ?b4 ?c4 ?d4 ?_)
            case a4 => exact new_list _ (Lib.byteCells [s[k]]) _ _ rfl
            case b4 => unfold maxLen; (try simp only [List.length_append, List.length_cons, List.length_nil]); omega
            case c4 => (try simp only [List.length_append, List.length_cons, List.length_nil]); omega
            case d4 => have := HB3.out.size; simp; omega
            intro v4 x4 hown hgrow _
            have HO4 : Hid (OwnB w.heap.size x4 v4 (([60, 60, 34] ++ slashed (s.data.toList.take k) ++ [92]) ++ [s[k]])) := Lib.hid (OwnB.appended (u := [s[k]]) hown (by simp))
            have HB4 := Lib.hid ((HB3.out.alloc HB3.out.size _).grown hgrow (by have := HB3.out.size; simp; omega) hge4.out)
            clear hown hgrow hge4
            go_wp2
            go_roundw
            case rel => exact ⟨k + 1, by omega, by go_num, by rw [HSC.out]; have := HO4.out; rw [List.append_assoc, List.append_assoc] at this; exact this, HB4.out⟩
            case measure => simp [intOf]; omega
        · rw [if_neg hc] at hsc
          have h34 : ((s[k].toNat : Int) == 34) = false := ne_byte' _ 34 (by omega) fun e => hc (.inl e)
          have h92 : ((s[k].toNat : Int) == 92) = false := ne_byte' _ 92 (by omega) fun e => hc (.inr e)
          have HSC := Lib.hid hsc; clear hsc hel hc
          have hge5 := Lib.hid HO.out.own_ge
          go_wp2_with (at_builtin; refine wpList_append_own _ rfl _ _ 91 rfl w.heap.size 5 i0 (.int .u8 0) 1 1 Tryz.underlying91 hi hz0 hz1 hz2 rfl (by decide) _ _ _ rfl (World.ownsRow.alloc HO.out _) ⟨_, 0, none⟩ 1 1 (Lib.byteCells [s[k]]) rfl rfl ?a5 (byteCells_oneCell _) ?b5 ?c5 ?d5 ?_)
          case a5 => exact new_list _ (Lib.byteCells [s[k]]) _ _ rfl
          case b5 => unfold maxLen; (try simp only [List.length_append, List.length_cons, List.length_nil]); omega
          case c5 => (try simp only [List.length_append, List.length_cons, List.length_nil]); omega
          case d5 => have := HB.out.size; simp; omega
          intro v5 x5 hown hgrow _
          have HO4 : Hid (OwnB w.heap.size x5 v5 (([60, 60, 34] ++ slashed (s.data.toList.take k)) ++ [s[k]])) := Lib.hid (OwnB.appended (u := [s[k]]) hown (by simp))
          have HB4 := Lib.hid ((HB.out.alloc HB.out.size _).grown hgrow (by have := HB.out.size; simp; omega) hge5.out)
          clear hown hgrow hge5
          go_wp2
          go_roundw
          case rel => exact ⟨k + 1, by omega, by go_num, by rw [HSC.out]; have := HO4.out; rw [List.append_assoc] at this; exact this, HB4.out⟩
          case measure => simp [intOf]; omega
      · have hO := HO.out
        rw [List.take_of_length_le (by rw [HL.out]; omega)] at hO
        have HO2 := Lib.hid hO; clear hO HO
        have hsl := slashed_len s.data.toList
        rw [HL.out] at hsl
        have hge6 := Lib.hid HO2.out.own_ge
        go_wp2_with (at_builtin; refine wpList_append_own _ rfl _ _ 91 rfl w.heap.size 5 i0 (.int .u8 0) 1 1 Tryz.underlying91 hi hz0 hz1 hz2 rfl (by decide) _ _ _ rfl (World.ownsRow.alloc HO2.out _) ⟨_, 0, none⟩ 1 1 (Lib.byteCells [34]) rfl rfl ?a6 (byteCells_oneCell _) ?b6 ?c6 ?d6 ?_)
        case a6 => exact new_list _ (Lib.byteCells [34]) _ _ rfl
        case b6 => unfold maxLen; (try simp only [List.length_append, List.length_cons, List.length_nil]); omega
        case c6 => (try simp only [List.length_append, List.length_cons, List.length_nil]); omega
        case d6 => have := HB.out.size; simp; omega
        intro v6 x6 hown hgrow _
        have HO5 : Hid (OwnB w.heap.size x6 v6 (([60, 60, 34] ++ slashed s.data.toList) ++ [34])) := Lib.hid (OwnB.appended (u := [34]) hown (by simp))
        have HB5 := Lib.hid ((HB.out.alloc HB.out.size _).grown hgrow (by have := HB.out.size; simp; omega) hge6.out)
        clear hown hgrow hge6
        have hge7 := Lib.hid HO5.out.own_ge
        go_wp2_with (at_builtin; refine Lib.wpList_append_own_string _ rfl _ _ 91 9 rfl w.heap.size 5 i0 Tryz.underlying91 Tryz.underlying9 hi hz0 hz1 hz2 _ _ _ rfl HO5.out ⟨#[62, 62]⟩ rfl ?a7 ?b7 ?c7 ?_)
        case a7 => unfold maxLen; (try simp only [List.length_append, List.length_cons, List.length_nil]) <;> first | omega | (simp; done) | (simp; omega) | (simp [ByteArray.size]; done) | (simp [ByteArray.size]; omega)
        case b7 => (try simp only [List.length_append, List.length_cons, List.length_nil]) <;> first | omega | (simp; done) | (simp; omega) | (simp [ByteArray.size]; done) | (simp [ByteArray.size]; omega)
        case c7 => exact HB5.out.size
        intro v7 x7 hown hgrow _
        have HO6 : Hid (OwnB w.heap.size x7 v7 (([60, 60, 34] ++ slashed s.data.toList ++ [34]) ++ [62, 62])) := Lib.hid (OwnB.appendS (t := ([60, 60, 34] ++ slashed s.data.toList ++ [34])) (s := ⟨#[62, 62]⟩) (by first | exact hown | simpa using hown | simpa [ByteArray.size] using hown) rfl)
        have HB6 := Lib.hid (HB5.out.grown hgrow HB5.out.size hge7.out)
        clear hown hgrow hge7
        have hcv0 := conv_own HO6.out
        have hbz3 : Txt.bytes ([60, 60, 34] ++ slashed s.data.toList ++ [34] ++ [62, 62]) = Txt.bytes RS := by rw [HRES.out]; simp
        have HBZ3 := Lib.hid hbz3; clear hbz3
        go_wp2
        go_ret
        exact ⟨by rw [← HBZ3.out]; first | rfl | (refine congrArg (fun z => Ending.returned (.string (Txt.bytes z))) ?_; simp), HB6.out⟩
  | false =>
    have hRES : Txt.shown s.data.toList = [60, 60] ++ commas s.data.toList ++ [62, 62] := by unfold Txt.shown; rw [hP]; rfl
    rw [HRS.out] at hRES
    have HRES := Lib.hid hRES; clear hRES
    have hpc := fun W => hplain false W (by omega) hP
    have HPC := Lib.hid hpc; clear hpc hplain hP
    go_enter Tryz.func116, Tryz.ntmps116
    have hge8 := Lib.hid HO.out.own_ge
    go_wp2_with (at_builtin; refine Lib.wpList_append_own_string _ rfl _ _ 91 9 rfl w.heap.size 5 i0 Tryz.underlying91 Tryz.underlying9 hi hz0 hz1 hz2 _ _ _ rfl HO.out ⟨#[60, 60]⟩ rfl ?a8 ?b8 ?c8 ?_)
    case a8 => unfold maxLen; (try simp only [List.length_append, List.length_cons, List.length_nil]) <;> first | omega | (simp; done) | (simp; omega) | (simp [ByteArray.size]; done) | (simp [ByteArray.size]; omega)
    case b8 => (try simp only [List.length_append, List.length_cons, List.length_nil]) <;> first | omega | (simp; done) | (simp; omega) | (simp [ByteArray.size]; done) | (simp [ByteArray.size]; omega)
    case c8 => exact HB.out.size
    intro v8 x8 hown hgrow _
    have HO1 : Hid (OwnB w.heap.size x8 v8 ([] ++ [60, 60])) := Lib.hid (OwnB.appendS (t := []) (s := ⟨#[60, 60]⟩) (by first | exact hown | simpa using hown | simpa [ByteArray.size] using hown) rfl)
    have HB1 := Lib.hid (HB.out.grown hgrow HB.out.size hge8.out)
    clear hown hgrow hge8
    go_wp2_with fail
    refine (HPC.out _).mono ?_
    rintro e w' ⟨rfl, rfl⟩
    go_wp2_with fail
    go_loopw [3, 5] (fun v i wr => ∃ k : Nat, k ≤ s.size ∧ i = .int .i64 k ∧ OwnB w.heap.size wr v ([60, 60] ++ commas (s.data.toList.take k)) ∧ Below w.heap.size w wr) (fun _ i _ => s.size - (intOf i).toNat)
    case atStart => exact ⟨0, Nat.zero_le _, rfl, HO1.out, HB1.out⟩
    case round =>
      obtain ⟨k, hk, rfl, ho, hb⟩ := hrel
      have HO := Lib.hid ho; clear ho
      have HB := Lib.hid hb; clear hb
      clear HO1 HB1
      by_cases hlt : k < s.size
      · have hsc := commas_take s.data.toList k (by simpa using hlt)
        have hel : s.data.toList[k]'(by simpa using hlt) = s[k] := by simp; rfl
        rw [hel] at hsc
        have hsl := commas_len (s.data.toList.take k)
        rw [List.length_take, HL.out, Nat.min_eq_left hk] at hsl
        have hit : Lib.itoa (s[k].toNat : Int) = Lib.decDigits s[k].toNat := Lib.itoa_nonneg _
        have hdl := dec_len s[k]
        have hc256 := s[k].toNat_lt
        rw [← hit] at hdl
        have hdz : (⟨(Lib.itoa (s[k].toNat : Int)).toArray⟩ : ByteArray).size ≤ 3 := by show (Lib.itoa (s[k].toNat : Int)).toArray.size ≤ 3; rw [List.size_toArray]; exact hdl
        have hci := fun W h => Tryz.strconv_Itoa (s[k].toNat : Int) (by omega) (by omega) W h
        obtain ⟨D, hD⟩ : ∃ D : ByteArray, ⟨(Lib.itoa (s[k].toNat : Int)).toArray⟩ = D := ⟨_, rfl⟩
        have hDl : Lib.itoa (s[k].toNat : Int) = D.data.toList := by rw [← hD]
        simp only [hD] at hci hdz
        rw [← hit, hDl] at hsc
        have HCI := Lib.hid hci
        clear hci hD hDl hdl hit
        by_cases hk0 : k = 0
        · have h0 : decide ((0 : Int) < (k : Int)) = false := decide_eq_false (by omega)
          have h0' : decide (0 < k) = false := decide_eq_false (by omega)
          rw [if_pos hk0, List.append_nil] at hsc
          have HSC := Lib.hid hsc; clear hsc hel hk0
          go_wp2_with fail
          refine (HCI.out _ (HT.out.below HB.out).pow).mono ?_
          rintro e w1 ⟨rfl, kk, os, hw⟩
          have hbb : Below wr.heap.size wr w1 := by rw [hw]; exact Lib.below_grow _ _ (Nat.le_refl _) kk os
          have HO2 := Lib.hid (HO.out.below hbb)
          have HB2 := Lib.hid (HB.out.trans (hbb.mono HB.out.size)); clear hbb hw
          have hge9 := Lib.hid HO2.out.own_ge
          go_wp2_with (at_builtin; refine Lib.wpList_append_own_string _ rfl _ _ 91 9 rfl w.heap.size 5 i0 Tryz.underlying91 Tryz.underlying9 hi hz0 hz1 hz2 _ _ _ rfl HO2.out D rfl ?a9 ?b9 ?c9 ?_)
          case a9 => unfold maxLen; (try simp only [List.length_append, List.length_cons, List.length_nil]) <;> first | omega | (simp; done) | (simp; omega) | (simp [ByteArray.size]; done) | (simp [ByteArray.size]; omega)
          case b9 => (try simp only [List.length_append, List.length_cons, List.length_nil]) <;> first | omega | (simp; done) | (simp; omega) | (simp [ByteArray.size]; done) | (simp [ByteArray.size]; omega)
          case c9 => exact HB2.out.size
          intro v9 x9 hown hgrow _
          have HO4 : Hid (OwnB w.heap.size x9 v9 (([60, 60] ++ commas (s.data.toList.take k)) ++ D.data.toList)) := Lib.hid (OwnB.appendS (t := ([60, 60] ++ commas (s.data.toList.take k))) (s := D) (by first | exact hown | simpa using hown | simpa [ByteArray.size] using hown) rfl)
          have HB4 := Lib.hid (HB2.out.grown hgrow HB2.out.size hge9.out)
          clear hown hgrow hge9
          go_wp2
          go_roundw
          case rel => exact ⟨k + 1, by omega, by go_num, by rw [HSC.out]; have := HO4.out; rw [List.append_assoc] at this; exact this, HB4.out⟩
          case measure => simp [intOf]; omega
        · have h0 : decide ((0 : Int) < (k : Int)) = true := decide_eq_true (by omega)
          have h0' : decide (0 < k) = true := decide_eq_true (by omega)
          rw [if_neg hk0] at hsc
          have HSC := Lib.hid hsc; clear hsc hel hk0
          have hge10 := Lib.hid HO.out.own_ge
          go_wp2_with (at_builtin; refine wpList_append_own _ rfl _ _ 91 rfl w.heap.size 5 i0 (.int .u8 0) 1 1 Tryz.underlying91 hi hz0 hz1 hz2 rfl (by decide) _ _ _ rfl (World.ownsRow.alloc HO.out _) ⟨_, 0, none⟩ 1 1 (Lib.byteCells [44]) rfl rfl ?a10 (byteCells_oneCell _) ?b10 ?c10 ?d10 ?_)
          case a10 => exact new_list _ (Lib.byteCells [44]) _ _ rfl
          case b10 => unfold maxLen; (try simp only [List.length_append, List.length_cons, List.length_nil]); omega
          case c10 => (try simp only [List.length_append, List.length_cons, List.length_nil]); omega
          case d10 => have := HB.out.size; simp; omega
          intro v10 x10 hown hgrow _
          have HO1 : Hid (OwnB w.heap.size x10 v10 (([60, 60] ++ commas (s.data.toList.take k)) ++ [44])) := Lib.hid (OwnB.appended (u := [44]) hown (by simp))
          have HB1 := Lib.hid ((HB.out.alloc HB.out.size _).grown hgrow (by have := HB.out.size; simp; omega) hge10.out)
          clear hown hgrow hge10
          obtain ⟨A1, n1, c1, rfl⟩ : ∃ A n c, v10 = .slice A n c := by
            obtain ⟨-, ⟨h, -⟩ | ⟨g, cap, cur, h, -⟩⟩ := HO1.out <;> exact ⟨_, _, _, h⟩
          go_wp2_with fail
          refine (HCI.out _ (HT.out.below HB1.out).pow).mono ?_
          rintro e w1 ⟨rfl, kk, os, hw⟩
          have hbb : Below x10.heap.size x10 w1 := by rw [hw]; exact Lib.below_grow _ _ (Nat.le_refl _) kk os
          have HO2 := Lib.hid (HO1.out.below hbb)
          have HB2 := Lib.hid (HB1.out.trans (hbb.mono HB1.out.size)); clear hbb hw
          have hge11 := Lib.hid HO2.out.own_ge
          go_wp2_with (at_builtin; refine Lib.wpList_append_own_string _ rfl _ _ 91 9 rfl w.heap.size 5 i0 Tryz.underlying91 Tryz.underlying9 hi hz0 hz1 hz2 _ _ _ rfl HO2.out D rfl ?a11 ?b11 ?c11 ?_)
          case a11 => unfold maxLen; (try simp only [List.length_append, List.length_cons, List.length_nil]) <;> first | omega | (simp; done) | (simp; omega) | (simp [ByteArray.size]; done) | (simp [ByteArray.size]; omega)
          case b11 => (try simp only [List.length_append, List.length_cons, List.length_nil]) <;> first | omega | (simp; done) | (simp; omega) | (simp [ByteArray.size]; done) | (simp [ByteArray.size]; omega)
          case c11 => exact HB2.out.size
          intro v11 x11 hown hgrow _
          have HO4 : Hid (OwnB w.heap.size x11 v11 (([60, 60] ++ commas (s.data.toList.take k) ++ [44]) ++ D.data.toList)) := Lib.hid (OwnB.appendS (t := ([60, 60] ++ commas (s.data.toList.take k) ++ [44])) (s := D) (by first | exact hown | simpa using hown | simpa [ByteArray.size] using hown) rfl)
          have HB4 := Lib.hid (HB2.out.grown hgrow HB2.out.size hge11.out)
          clear hown hgrow hge11
          go_wp2
          go_roundw
          case rel => exact ⟨k + 1, by omega, by go_num, by rw [HSC.out]; have := HO4.out; rw [List.append_assoc, List.append_assoc] at this; rw [List.append_assoc]; exact this, HB4.out⟩
          case measure => simp [intOf]; omega
      · have hO := HO.out
        rw [List.take_of_length_le (by rw [HL.out]; omega)] at hO
        have HO2 := Lib.hid hO; clear hO HO
        have hsl := commas_len s.data.toList
        rw [HL.out] at hsl
        have hge12 := Lib.hid HO2.out.own_ge
        go_wp2_with (at_builtin; refine Lib.wpList_append_own_string _ rfl _ _ 91 9 rfl w.heap.size 5 i0 Tryz.underlying91 Tryz.underlying9 hi hz0 hz1 hz2 _ _ _ rfl HO2.out ⟨#[62, 62]⟩ rfl ?a12 ?b12 ?c12 ?_)
        case a12 => unfold maxLen; (try simp only [List.length_append, List.length_cons, List.length_nil]) <;> first | omega | (simp; done) | (simp; omega) | (simp [ByteArray.size]; done) | (simp [ByteArray.size]; omega)
        case b12 => (try simp only [List.length_append, List.length_cons, List.length_nil]) <;> first | omega | (simp; done) | (simp; omega) | (simp [ByteArray.size]; done) | (simp [ByteArray.size]; omega)
        case c12 => exact HB.out.size
        intro v12 x12 hown hgrow _
        have HO6 : Hid (OwnB w.heap.size x12 v12 (([60, 60] ++ commas s.data.toList) ++ [62, 62])) := Lib.hid (OwnB.appendS (t := ([60, 60] ++ commas s.data.toList)) (s := ⟨#[62, 62]⟩) (by first | exact hown | simpa using hown | simpa [ByteArray.size] using hown) rfl)
        have HB6 := Lib.hid (HB.out.grown hgrow HB.out.size hge12.out)
        clear hown hgrow hge12
        have hcv0 := conv_own HO6.out
        have hbz3 : Txt.bytes ([60, 60] ++ commas s.data.toList ++ [62, 62]) = Txt.bytes RS := by rw [HRES.out]
        have HBZ3 := Lib.hid hbz3; clear hbz3
        go_wp2
        go_ret
        exact ⟨by rw [← HBZ3.out]; first | rfl | (refine congrArg (fun z => Ending.returned (.string (Txt.bytes z))) ?_; simp), HB6.out⟩
end Go.Proofs.YtejpdfenejbjdaaGreatDoor
