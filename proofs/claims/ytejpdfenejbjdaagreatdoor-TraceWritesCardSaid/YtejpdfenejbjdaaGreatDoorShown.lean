/- Walks: a binary's text. -/
import Derived.Test.YtejpdfenejbjdaaGreatDoorTermE
import Derived.Test.YtejpdfenejbjdaaGreatDoorPModel
import Derived.Outline
namespace Go.Proofs.YtejpdfenejbjdaaGreatDoor
open Go.RowKit Txt
set_option linter.unusedVariables false
set_option linter.unusedSimpArgs false

def plainC (c : UInt8) : Bool := decide (32 ≤ c.toNat) && decide (c.toNat ≤ 126)
def plainK (l : List UInt8) (k : Nat) : Bool := decide (0 < l.length) && (l.take k).all plainC
theorem plainK_all (l : List UInt8) : plainK l l.length = plainB l := by
  unfold plainK plainB plainC
  rw [List.take_of_length_le (Nat.le_refl _)]
  cases l <;> simp
theorem plainK_succ (l : List UInt8) (k : Nat) (h : k < l.length) : plainK l (k + 1) = (plainK l k && plainC l[k]) := by
  unfold plainK
  rw [List.take_succ_eq_append_getElem h, List.all_append]; simp [Bool.and_assoc]

theorem slashed_len (l : List UInt8) : (slashed l).length ≤ 2 * l.length := by
  induction l with
  | nil => simp [slashed]
  | cons c l ih =>
    simp only [slashed, List.flatMap_cons, List.length_append, List.length_cons] at ih ⊢
    split
    · simp only [List.length_cons, List.length_nil]; omega
    · simp only [List.length_cons, List.length_nil]; omega
theorem slashed_take (l : List UInt8) (k : Nat) (h : k < l.length) : slashed (l.take (k + 1)) = slashed (l.take k) ++ (if l[k] = 34 ∨ l[k] = 92 then [92, l[k]] else [l[k]]) := by
  rw [List.take_succ_eq_append_getElem h]; simp only [slashed, List.flatMap_append, List.flatMap_cons, List.flatMap_nil, List.append_nil]
theorem dec_len (c : UInt8) : (Lib.decDigits c.toNat).length ≤ 3 := by
  have := c.toNat_lt
  rw [Lib.decDigits]
  split
  · simp
  · rw [Lib.decDigits]
    split
    · simp
    · rw [Lib.decDigits]
      split
      · simp
      · omega
theorem commas_take (l : List UInt8) (k : Nat) (h : k < l.length) : commas (l.take (k + 1)) = commas (l.take k) ++ (if k = 0 then [] else [44]) ++ Lib.decDigits l[k].toNat := by
  rw [List.take_succ_eq_append_getElem h]
  cases k with
  | zero => simp [commas]
  | succ k =>
    cases l with
    | nil => simp at h
    | cons c l =>
      have h' : k < l.length := by simpa using h
      have e : l.take (k + 1) = l.take k ++ [l[k]] := List.take_succ_eq_append_getElem h'
      simp only [List.take_succ_cons, List.getElem_cons_succ, List.cons_append, commas]
      rw [← List.take_succ_eq_append_getElem h', e, List.flatMap_append]
      simp
theorem commas_len (l : List UInt8) : (commas l).length ≤ 4 * l.length := by
  have key : ∀ l : List UInt8, (l.flatMap fun d => 44 :: Lib.decDigits d.toNat).length ≤ 4 * l.length := by
    intro l
    induction l with
    | nil => simp
    | cons c l ih =>
      have := dec_len c
      simp only [List.flatMap_cons, List.length_append, List.length_cons] at ih ⊢; omega
  cases l with
  | nil => simp [commas]
  | cons c l =>
    have h1 := key l
    have h2 := dec_len c
    simp only [commas, List.length_append, List.length_cons]; omega
theorem tabBelow {B : Nat} {w : World} (h : Tabs w) (hB : ng ≤ B) (hw : B ≤ w.heap.size) : Lib.TabBelow Tryz.prog B w "internal/strconv.uint64pow10" .u64 Lib.pow10Tab := fun w' hb => (h.keep hb.size fun k hk => hb.block k (by omega)).pow
theorem OwnB.appended {base : Nat} {w : World} {v : Value} {t u : List UInt8} {n : Nat} (h : w.ownsRow base 5 1 v n (Lib.byteCells t ++ Lib.byteCells u)) (hn : n = t.length + u.length) : OwnB base w v (t ++ u) := by
  subst hn
  show w.ownsRow _ _ _ _ _ _
  rw [byteCells_append, List.length_append]; exact h

set_option maxHeartbeats 4000000 in
set_option maxRecDepth 100000 in
theorem shown_calls (s : ByteArray) (w : World) (hs : s.size ≤ 1099511627776) (ht : Tabs w) :
    Calls Tryz.prog 111 #[.string s] w fun e w' => e = .returned (.string (Txt.bytes (Txt.shown s.data.toList))) ∧ Below w.heap.size w w' := by
  have HT := Lib.hid ht; clear ht
  have hlen : s.data.toList.length = s.size := by simp
  have HL := Lib.hid hlen; clear hlen
  generalize hRS : Txt.shown s.data.toList = RS
  have HRS := Lib.hid hRS; clear hRS
  go_enter Tryz.func111, Tryz.ntmps111
  go_wp2
  go_loop [3, 4, 12] (fun p u i => ∃ k : Nat, k ≤ s.size ∧ i = .int .i64 k ∧ p = .bool (plainK s.data.toList k)) (fun _ _ i => s.size - (intOf i).toNat)
  case atStart =>
    refine ⟨0, Nat.zero_le _, rfl, ?_⟩
    simp [plainK]
  case round =>
    obtain ⟨k, hk, rfl, rfl⟩ := hrel
    by_cases hlt : k < s.size
    · have hsc := plainK_succ s.data.toList k (by simpa using hlt)
      have hel : s.data.toList[k]'(by simpa using hlt) = s[k] := by simp; rfl
      rw [hel] at hsc
      have HSC := Lib.hid hsc; clear hsc hel
      cases hP : plainK s.data.toList k with
      | false =>
        have HP := Lib.hid hP; clear hP
        go_wp2
        go_round
        case rel => exact ⟨k + 1, by omega, by go_num, by rw [HSC.out, HP.out]; rfl⟩
        case measure => simp [intOf]; omega
      | true =>
        have HP := Lib.hid hP; clear hP
        by_cases h32 : 32 ≤ s[k].toNat
        · by_cases h126 : s[k].toNat ≤ 126
          · have e : plainC s[k] = true := by simp [plainC, h32, h126]
            have HE := Lib.hid e; clear e
            go_wp2
            go_round
            case rel => exact ⟨k + 1, by omega, by go_num, by rw [HSC.out, HP.out, HE.out]; simp; omega⟩
            case measure => simp [intOf]; omega
          · have e : plainC s[k] = false := by simp [plainC]; omega
            have HE := Lib.hid e; clear e
            go_wp2
            go_round
            case rel => exact ⟨k + 1, by omega, by go_num, by rw [HSC.out, HP.out, HE.out]; simp; omega⟩
            case measure => simp [intOf]; omega
        · have e : plainC s[k] = false := by simp [plainC]; omega
          have HE := Lib.hid e; clear e
          go_wp2
          go_round
          case rel => exact ⟨k + 1, by omega, by go_num, by rw [HSC.out, HP.out, HE.out]; rfl⟩
          case measure => simp [intOf]; omega
    · have hkl : k = s.data.toList.length := by rw [HL.out]; omega
      have hP := plainK_all s.data.toList
      rw [← hkl] at hP
      rw [hP]
      clear hP hkl
      obtain ⟨i0, hi, hz0, hz1, hz2⟩ := info_parts info_u8
      cases hP : plainB s.data.toList with
      | true =>
        have hRES : Txt.shown s.data.toList = [60, 60, 34] ++ slashed s.data.toList ++ [34, 62, 62] := by unfold Txt.shown; rw [hP]; rfl
        rw [HRS.out] at hRES
        have HRES := Lib.hid hRES; clear hRES hP
        go_wp2_with fail
        go_loopw [5, 6, 31] (fun v u6 i wr => ∃ k : Nat, k ≤ s.size ∧ i = .int .i64 k ∧ OwnB w.heap.size wr v (slashed (s.data.toList.take k)) ∧ Below w.heap.size w wr) (fun _ _ i _ => s.size - (intOf i).toNat)
        case atStart => exact ⟨0, Nat.zero_le _, rfl, OwnB.nil _ _, Below.refl _ _⟩
        case round =>
          obtain ⟨k, hk, rfl, ho, hb⟩ := hrel
          have HO := Lib.hid ho; clear ho
          have HB := Lib.hid hb; clear hb
          by_cases hlt : k < s.size
          · have hsc := slashed_take s.data.toList k (by simpa using hlt)
            have hel : s.data.toList[k]'(by simpa using hlt) = s[k] := by simp; rfl
            rw [hel] at hsc
            have hsl := slashed_len (s.data.toList.take k)
            rw [List.length_take, HL.out, Nat.min_eq_left hk] at hsl
            by_cases hc : s[k] = 34 ∨ s[k] = 92
            · rw [if_pos hc] at hsc
              have hcases : (((s[k].toNat : Int) == 34) = true ∧ ((s[k].toNat : Int) == 92) = false) ∨ (((s[k].toNat : Int) == 34) = false ∧ ((s[k].toNat : Int) == 92) = true) := by
                rcases hc with e | e <;> rw [e] <;> decide
              have HSC := Lib.hid hsc; clear hsc hel hc
              have hge0 := Lib.hid HO.out.own_ge
              rcases hcases with ⟨h34, h92⟩ | ⟨h34, h92⟩
              all_goals
                go_wp2_with (at_builtin; refine wpList_append_own _ rfl _ _ 91 rfl w.heap.size 5 i0 (.int .u8 0) 1 1 Tryz.underlying91 hi hz0 hz1 hz2 rfl (by decide) _ _ _ rfl (World.ownsRow.alloc HO.out _) ⟨wr.heap.size, 0, none⟩ 1 1 (Lib.byteCells [92]) rfl rfl ?a1 (byteCells_oneCell _) ?a3 ?a4 ?a5 ?_)
                case a1 => exact new_list _ (Lib.byteCells [92]) _ _ rfl
                case a3 => unfold maxLen; omega
                case a4 => omega
                case a5 => have := HB.out.size; simp; omega
                intro v1 w1 hown' hgrow _
                have HO1 : Hid (OwnB w.heap.size w1 v1 (slashed (s.data.toList.take k) ++ [92])) := Lib.hid (OwnB.appended (u := [92]) hown' (by simp))
                have HB1 := Lib.hid ((HB.out.alloc HB.out.size _).grown hgrow (by have := HB.out.size; simp; omega) hge0.out)
                have hge1 := Lib.hid HO1.out.own_ge
                clear hown' hgrow
                go_wp2_with (at_builtin; refine wpList_append_own _ rfl _ _ 91 rfl w.heap.size 5 i0 (.int .u8 0) 1 1 Tryz.underlying91 hi hz0 hz1 hz2 rfl (by decide) _ _ _ rfl (World.ownsRow.alloc HO1.out _) ⟨w1.heap.size, 0, none⟩ 1 1 (Lib.byteCells [s[k]]) rfl rfl ?b1 (byteCells_oneCell _) ?b3 ?b4 ?b5 ?_)
                case b1 => exact new_list _ (Lib.byteCells [s[k]]) _ _ rfl
                case b3 => unfold maxLen; (try simp only [List.length_append, List.length_cons, List.length_nil]); omega
                case b4 => (try simp only [List.length_append, List.length_cons, List.length_nil]); omega
                case b5 => have := HB1.out.size; simp; omega
                intro v' w2 hown' hgrow _
                have HO2 : Hid (OwnB w.heap.size w2 v' (slashed (s.data.toList.take (k + 1)))) := by
                  rw [HSC.out]
                  have := OwnB.appended (t := slashed (s.data.toList.take k) ++ [92]) (u := [s[k]]) hown' (by simp)
                  rw [List.append_assoc] at this; exact this
                have HB2 := Lib.hid ((HB1.out.alloc HB1.out.size _).grown hgrow (by have := HB1.out.size; simp; omega) hge1.out)
                clear hown' hgrow
                go_wp2
                go_roundw
                case rel => exact ⟨k + 1, by omega, by go_num, HO2.out, HB2.out⟩
                case measure => simp [intOf]; omega
            · rw [if_neg hc] at hsc
              have h34 : ((s[k].toNat : Int) == 34) = false := ne_byte' _ 34 (by omega) fun e => hc (.inl e)
              have h92 : ((s[k].toNat : Int) == 92) = false := ne_byte' _ 92 (by omega) fun e => hc (.inr e)
              have HSC := Lib.hid hsc; clear hsc hel hc
              have hge0 := Lib.hid HO.out.own_ge
              go_wp2_with (at_builtin; refine wpList_append_own _ rfl _ _ 91 rfl w.heap.size 5 i0 (.int .u8 0) 1 1 Tryz.underlying91 hi hz0 hz1 hz2 rfl (by decide) _ _ _ rfl (World.ownsRow.alloc HO.out _) ⟨wr.heap.size, 0, none⟩ 1 1 (Lib.byteCells [s[k]]) rfl rfl ?c1 (byteCells_oneCell _) ?c3 ?c4 ?c5 ?_)
              case c1 => exact new_list _ (Lib.byteCells [s[k]]) _ _ rfl
              case c3 => unfold maxLen; omega
              case c4 => omega
              case c5 => have := HB.out.size; simp; omega
              intro v' w1 hown' hgrow _
              have HO1 : Hid (OwnB w.heap.size w1 v' (slashed (s.data.toList.take (k + 1)))) := by
                rw [HSC.out]; exact OwnB.appended (u := [s[k]]) hown' (by simp)
              have HB1 := Lib.hid ((HB.out.alloc HB.out.size _).grown hgrow (by have := HB.out.size; simp; omega) hge0.out)
              clear hown' hgrow
              go_wp2
              go_roundw
              case rel => exact ⟨k + 1, by omega, by go_num, HO1.out, HB1.out⟩
              case measure => simp [intOf]; omega
          · have hO := HO.out
            rw [List.take_of_length_le (by rw [HL.out]; omega)] at hO
            have HO2 := Lib.hid hO; clear hO HO
            have hcv := fun W' (h : Below wr.heap.size wr W') => conv_own (HO2.out.below h)
            have hcv0 := conv_own HO2.out
            clear hcv
            have hbz : (Txt.bytes (slashed s.data.toList)).size ≤ 2199023255552 := by
              have := slashed_len s.data.toList
              rw [bytes_size]; rw [HL.out] at this; omega
            have hbz2 : (({ data := #[60, 60, 34] } : ByteArray) ++ Txt.bytes (slashed s.data.toList)).size ≤ 2199023255560 := by
              rw [ByteArray.size_append, show (({ data := #[60, 60, 34] } : ByteArray)).size = 3 from rfl]; omega
            have hbz3 : ((({ data := #[60, 60, 34] } : ByteArray) ++ Txt.bytes (slashed s.data.toList)) ++ ({ data := #[34, 62, 62] } : ByteArray)) = Txt.bytes RS := by
              rw [HRES.out]
              apply ByteArray.ext
              simp [Txt.bytes]
            have HBZ3 := Lib.hid hbz3; clear hbz3
            go_wp2
            go_ret
            exact ⟨by rw [HBZ3.out]; rfl, HB.out⟩
      | false =>
        have hRES : Txt.shown s.data.toList = [60, 60] ++ commas s.data.toList ++ [62, 62] := by unfold Txt.shown; rw [hP]; rfl
        rw [HRS.out] at hRES
        have HRES := Lib.hid hRES; clear hRES hP
        have hTB := tabBelow HT.out HT.out.lt (Nat.le_refl _)
        have HTB := Lib.hid hTB; clear hTB
        go_wp2_with fail
        go_loopw [5, 6, 31] (fun v u6 i wr => ∃ k : Nat, k ≤ s.size ∧ i = .int .i64 k ∧ OwnB w.heap.size wr v (commas (s.data.toList.take k)) ∧ Below w.heap.size w wr) (fun _ _ i _ => s.size - (intOf i).toNat)
        case atStart => exact ⟨0, Nat.zero_le _, rfl, OwnB.nil _ _, Below.refl _ _⟩
        case round =>
          obtain ⟨k, hk, rfl, ho, hb⟩ := hrel
          have HO := Lib.hid ho; clear ho
          have HB := Lib.hid hb; clear hb
          by_cases hlt : k < s.size
          · have hsc := commas_take s.data.toList k (by simpa using hlt)
            have hel : s.data.toList[k]'(by simpa using hlt) = s[k] := by simp; rfl
            rw [hel] at hsc
            have hsl := commas_len (s.data.toList.take k)
            rw [List.length_take, HL.out, Nat.min_eq_left hk] at hsl
            have hit : Lib.itoa (s[k].toNat : Int) = Lib.decDigits s[k].toNat := Lib.itoa_nonneg _
            have hdl := dec_len s[k]
            have hc256 := s[k].toNat_lt
            by_cases hk0 : k = 0
            · have h0 : decide ((0 : Int) < (k : Int)) = false := by simp; omega
              have h0' : decide (0 < k) = false := by simp; omega
              rw [if_pos hk0, List.append_nil, ← hit] at hsc
              have HSC := Lib.hid hsc; clear hsc hel hit hk0
              go_wp2_with fail
              refine (Tryz.strconv_AppendInt_10 w.heap.size _ (s[k].toNat : Int) (by omega) (by omega) _ _ _ HO.out HB.out.size (by omega) (Lib.TabBelow.on HTB.out HB.out)).mono ?_
              rintro e w1 ⟨v', rfl, hown', hb1, -⟩
              have HO1 : Hid (OwnB w.heap.size w1 v' (commas (s.data.toList.take (k + 1)))) := by
                rw [HSC.out]; exact Lib.hid (OwnB.appended hown' rfl)
              have HB1 := Lib.hid (HB.out.trans hb1); clear hb1 hown'
              go_wp2
              go_roundw
              case rel => exact ⟨k + 1, by omega, by go_num, HO1.out, HB1.out⟩
              case measure => simp [intOf]; omega
            · have h0 : decide ((0 : Int) < (k : Int)) = true := by simp; omega
              have h0' : decide (0 < k) = true := by simp; omega
              rw [if_neg hk0, ← hit] at hsc
              have HSC := Lib.hid hsc; clear hsc hel hit hk0
              have hge0 := Lib.hid HO.out.own_ge
              go_wp2_with (at_builtin; refine wpList_append_own _ rfl _ _ 91 rfl w.heap.size 5 i0 (.int .u8 0) 1 1 Tryz.underlying91 hi hz0 hz1 hz2 rfl (by decide) _ _ _ rfl (World.ownsRow.alloc HO.out _) ⟨wr.heap.size, 0, none⟩ 1 1 (Lib.byteCells [44]) rfl rfl ?a1 (byteCells_oneCell _) ?a3 ?a4 ?a5 ?_)
              case a1 => exact new_list _ (Lib.byteCells [44]) _ _ rfl
              case a3 => unfold maxLen; omega
              case a4 => omega
              case a5 => have := HB.out.size; simp; omega
              intro v1 w1 hown' hgrow _
              have HO1 : Hid (OwnB w.heap.size w1 v1 (commas (s.data.toList.take k) ++ [44])) := Lib.hid (OwnB.appended (u := [44]) hown' (by simp))
              have HB1 := Lib.hid ((HB.out.alloc HB.out.size _).grown hgrow (by have := HB.out.size; simp; omega) hge0.out)
              obtain ⟨A1, n1, c1, rfl⟩ : ∃ A n c, v1 = .slice A n c := by
                obtain ⟨-, ⟨rfl, -⟩ | ⟨g, cap, cur, rfl, -⟩⟩ := hown' <;> exact ⟨_, _, _, rfl⟩
              clear hown' hgrow
              go_wp2_with fail
              refine (Tryz.strconv_AppendInt_10 w.heap.size _ (s[k].toNat : Int) (by omega) (by omega) _ _ _ HO1.out HB1.out.size (by rw [List.length_append, List.length_cons, List.length_nil]; omega) (Lib.TabBelow.on HTB.out HB1.out)).mono ?_
              rintro e w2 ⟨v', rfl, hown', hb2, -⟩
              have HO2 : Hid (OwnB w.heap.size w2 v' (commas (s.data.toList.take (k + 1)))) := by
                rw [HSC.out]; exact Lib.hid (OwnB.appended hown' rfl)
              have HB2 := Lib.hid (HB1.out.trans hb2); clear hb2 hown'
              go_wp2
              go_roundw
              case rel => exact ⟨k + 1, by omega, by go_num, HO2.out, HB2.out⟩
              case measure => simp [intOf]; omega
          · have hO := HO.out
            rw [List.take_of_length_le (by rw [HL.out]; omega)] at hO
            have HO2 := Lib.hid hO; clear hO HO
            have hcv0 := conv_own HO2.out
            have hbz : (Txt.bytes (commas s.data.toList)).size ≤ 4398046511104 := by
              have := commas_len s.data.toList
              rw [bytes_size]; rw [HL.out] at this; omega
            have hbz2 : (({ data := #[60, 60] } : ByteArray) ++ Txt.bytes (commas s.data.toList)).size ≤ 4398046511110 := by
              rw [ByteArray.size_append, show (({ data := #[60, 60] } : ByteArray)).size = 2 from rfl]; omega
            have hbz3 : ((({ data := #[60, 60] } : ByteArray) ++ Txt.bytes (commas s.data.toList)) ++ ({ data := #[62, 62] } : ByteArray)) = Txt.bytes RS := by
              rw [HRES.out]
              apply ByteArray.ext
              simp [Txt.bytes]
            have HBZ3 := Lib.hid hbz3; clear hbz3
            go_wp2
            go_ret
            exact ⟨by rw [HBZ3.out]; rfl, HB.out⟩
end Go.Proofs.YtejpdfenejbjdaaGreatDoor
