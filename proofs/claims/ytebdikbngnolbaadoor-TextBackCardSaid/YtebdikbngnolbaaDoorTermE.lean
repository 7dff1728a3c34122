/- Walks: a string in quotes as a list; all terms. -/
import Derived.Test.YtebdikbngnolbaaDoorTermD
namespace Go.Proofs.YtebdikbngnolbaaDoor
open Go.RowKit Txt
set_option linter.unusedVariables false
set_option linter.unusedSimpArgs false

def strC (l : List UInt8) : List Cl := l.flatMap fun c => [⟨7, 0, .empty⟩, ⟨1, (c.toNat : Int), .empty⟩]
theorem strCells_eq (l : List UInt8) : strCells l = strC l ++ [⟨6, 0, .empty⟩] := by
  induction l with
  | nil => rfl
  | cons c l ih => rw [strCells, ih]; rfl
theorem strC_length (l : List UInt8) : (strC l).length = 2 * l.length := by
  induction l with
  | nil => rfl
  | cons c l ih => simp only [strC, List.flatMap_cons, List.length_append, List.length_cons, List.length_nil] at ih ⊢; omega
theorem strC_take (l : List UInt8) (i : Nat) (h : i < l.length) : strC (l.take (i + 1)) = strC (l.take i) ++ [⟨7, 0, .empty⟩, ⟨1, (l[i].toNat : Int), .empty⟩] := by
  rw [List.take_succ_eq_append_getElem h]; simp only [strC, List.flatMap_append, List.flatMap_cons, List.flatMap_nil, List.append_nil]

set_option maxHeartbeats 4000000 in
set_option maxRecDepth 100000 in
theorem term_string (b : Nat) (s : ByteArray) (p z : Nat) (w : World) (hr : Rd b s p w) (hp : p ≤ s.size) (hs : s.size ≤ 68719476736) (HSK : Hid (skip s p = z)) (hz : z < s.size) (hT1 : Hid (decide (at? s z = some 34) = true)) :
    Calls Tryd.prog 16 #[.pointer (some ⟨b, 0, none⟩)] w (ParseR b s w (match Txt.quoted s z with | .bad e a => .bad e a | .ok l r => .ok (strCells l) r)) := by
  have hbw := hr.lt
  have hcall := fun w' h1 => quoted_calls b s z w' h1 hz (by omega)
  have hlen := fun l r => quoted_len2 (s := s) (p := z) (l := l) (q := r)
  have hlen1 := fun l r => quoted_len (s := s) (p := z) (l := l) (q := r)
  generalize Txt.quoted s z = R at hcall hlen hlen1 ⊢
  have HL := Lib.hid hlen; clear hlen
  have HL1 := Lib.hid hlen1; clear hlen1
  obtain ⟨i0, hi, hz0, hz1, hz2⟩ := info_parts info_cell
  go_enter Tryd.func16, Tryd.ntmps16
  go_wp2_with fail
  refine (blanks_calls b s p w hr hp (by omega)).mono ?_
  rw [HSK.out]
  rintro e w1 ⟨rfl, hr1, hm1⟩
  have HM1 := Lib.hid hm1; clear hm1
  go_wp2_with fail
  refine (next_calls b _).mono ?_
  rintro e w2 ⟨rfl, rfl⟩
  have HS0 := Lib.hid (St.init hr1 HM1.out)
  have c1 := HS0.out.rd.c1
  have c0 := HS0.out.rd.c0
  go_wp2_with fail
  refine (here_calls b s z 34 _ HS0.out.rd (Nat.le_of_lt hz) (by omega)).mono ?_
  rw [hT1.out]
  rintro e v1 ⟨rfl, hr, hm⟩
  have HS1 := Lib.hid (HS0.out.step hr hm); clear hr hm
  clear c0 c1
  go_wp2_with fail
  refine (hcall _ HS1.out.rd).mono ?_
  clear hcall
  cases R with
  | bad e a =>
    rintro e' w9 ⟨rfl, hm9⟩
    have HE := Lib.hid (HS1.out.mv.trans hm9); clear hm9
    go_wp2
    exact ⟨rfl, rfl, HE.out⟩
  | ok l r =>
    have hl2 := HL.out l r rfl
    have hl1 := HL1.out l r rfl
    clear HL HL1
    rintro e' w9 ⟨rfl, hr9, hm9⟩
    have HM9 := Lib.hid (HS1.out.mv.trans hm9); clear hm9
    have HR9 := Lib.hid hr9; clear hr9
    have hcb := conv_bytes w9 (Txt.bytes l)
    have hcell : ∀ i, (h : i < l.length) → (Lib.bytesWorld w9 5 (Txt.bytes l)).cell? ⟨w9.heap.size, i, none⟩ = some (.int .u8 (l[i].toNat : Int)) := by
      intro i h
      rw [Lib.bytesWorld_cell _ _ _ _ (by rw [bytes_size]; exact h), bytes_data]; simp [h]
    have hbs := bytes_size l
    rw [hbs] at hcb
    have HBS := Lib.hid hbs; clear hbs
    have hsz9 := Lib.bytesWorld_size w9 5 (Txt.bytes l)
    have HSZ := Lib.hid hsz9; clear hsz9
    have hbel := below_bytesWorld w9 5 (Txt.bytes l)
    go_wp2_with fail
    generalize Lib.bytesWorld w9 5 (Txt.bytes l) = w10 at *
    have HB := Lib.hid hbel; clear hbel
    have HC := Lib.hid hcell; clear hcell
    clear hcb
    go_loopw [6, 39] (fun v i wr => ∃ k : Nat, k ≤ l.length ∧ i = .int .i64 k ∧ OwnT w10.heap.size wr v (strC (l.take k)) ∧ Rd b s r wr ∧ Below w10.heap.size w10 wr) (fun _ i wr => l.length - (intOf i).toNat)
    case atStart => exact ⟨0, Nat.zero_le _, rfl, OwnT.nil _ _, HR9.out.below HB.out, Below.refl _ _⟩
    case round =>
      obtain ⟨k, hk, rfl, ho, hrd, hbe⟩ := hrel
      have HO := Lib.hid ho; clear ho
      have HRq := Lib.hid hrd; clear hrd
      have HBE := Lib.hid hbe; clear hbe
      have hgeC := HO.out.own_ge
      have hge0 := Lib.hid hgeC; clear hgeC
      have hb10 : b < w10.heap.size := by have := HR9.out.lt; have := HSZ.out; omega
      by_cases hlt : k < l.length
      · have hck : wr.cell? ⟨w9.heap.size, k, none⟩ = some (.int .u8 (l[k].toNat : Int)) := (World.cell?_of_block (w := w10) (HBE.out.block _ (by have := HSZ.out; simp; omega))).trans (HC.out k hlt)
        have hST := strC_take l k hlt
        have HST := Lib.hid hST; clear hST
        have hSL := strC_length (l.take k)
        rw [List.length_take, Nat.min_eq_left hk] at hSL
        have hu8 := l[k].toNat_lt
        go_wp2_with (at_builtin; refine wpList_append_own _ rfl _ _ 23 rfl w10.heap.size 52 i0 (.agg #[.int .i64 0, .int .i64 0, .string .empty]) 3 32 Tryd.underlying23 hi hz0 hz1 hz2 rfl (by decide) _ _ _ rfl (World.ownsRow.alloc HO.out _) ⟨wr.heap.size, 0, none⟩ 2 2 (cvs [⟨7, 0, .empty⟩, ⟨1, (l[k].toNat : Int), .empty⟩]) rfl rfl ?c1 (cvs_oneCell _) ?c3 ?c4 ?c5 ?_)
        case c1 => exact new_list _ (cvs [⟨7, 0, .empty⟩, ⟨1, (l[k].toNat : Int), .empty⟩]) _ _ rfl
        case c3 => unfold maxLen; omega
        case c4 => omega
        case c5 => have := HBE.out.size; simp; omega
        intro v' w11 hown' hgrow _
        have HO1 : Hid (OwnT w10.heap.size w11 v' (strC (l.take (k + 1)))) := by
          rw [HST.out]; exact OwnT.appended (u := [⟨7, 0, .empty⟩, ⟨1, (l[k].toNat : Int), .empty⟩]) hown' (by simp only [List.length_cons, List.length_nil]; omega)
        have HR1 := Lib.hid ((HRq.out.alloc _).grown hgrow hge0.out hb10)
        have HB1 := Lib.hid ((HBE.out.alloc HBE.out.size _).grown hgrow (by have := HBE.out.size; simp; omega) hge0.out)
        clear hown' hgrow hck
        go_wp2
        go_roundw
        case rel => exact ⟨k + 1, by omega, by go_num, HO1.out, HR1.out, HB1.out⟩
        case measure => simp [intOf]; omega
      · have hkl : k = l.length := by omega
        have hO := HO.out
        rw [List.take_of_length_le (by omega)] at hO
        have hSL := strC_length l
        have HO2 := Lib.hid hO; clear hO HO
        go_wp2_with (at_builtin; refine wpList_append_own _ rfl _ _ 23 rfl w10.heap.size 52 i0 (.agg #[.int .i64 0, .int .i64 0, .string .empty]) 3 32 Tryd.underlying23 hi hz0 hz1 hz2 rfl (by decide) _ _ _ rfl (World.ownsRow.alloc HO2.out _) ⟨wr.heap.size, 0, none⟩ 1 1 (cvs [⟨6, 0, .empty⟩]) rfl rfl ?d1 (cvs_oneCell _) ?d3 ?d4 ?d5 ?_)
        case d1 => exact new_list _ (cvs [⟨6, 0, .empty⟩]) _ _ rfl
        case d3 => unfold maxLen; omega
        case d4 => omega
        case d5 => have := HBE.out.size; simp; omega
        intro v' w11 hown' hgrow _
        have HO1 : Hid (OwnT w10.heap.size w11 v' (strCells l)) := by
          rw [strCells_eq]; exact OwnT.appended (u := [⟨6, 0, .empty⟩]) hown' (by simp only [List.length_cons, List.length_nil]; omega)
        have HR1 := Lib.hid ((HRq.out.alloc _).grown hgrow hge0.out hb10)
        have HB1 := Lib.hid ((HBE.out.alloc HBE.out.size _).grown hgrow (by have := HBE.out.size; simp; omega) hge0.out)
        clear hown' hgrow
        go_wp2
        go_ret
        exact ⟨_, rfl, OwnT.mono HO1.out (by have := HM9.out.size; have := HSZ.out; omega), HR1.out, (HM9.out.trans (Mv.of_below HB.out)).trans (Mv.of_below HB1.out)⟩

theorem sc_bad {s : ByteArray} {z : Nat} : ∀ e a, scan s z = .bad e a → e ≠ 0 := by
  intro e a h
  unfold scan at h
  split at h
  · split at h
    · cases h; decide
    · split at h <;> cases h
      decide
  · split at h
    · cases h; decide
    · split at h <;> cases h
      decide

theorem term_ok (b : Nat) (s : ByteArray) (hs : s.size ≤ 68719476736) (hb : ng ≤ b) : ∀ (d p0 : Nat), s.size - p0 < d → TermOK b s p0 := by
  intro d
  induction d with
  | zero => intro p0 h; omega
  | succ d ih =>
    intro p0 hd k p w hp0 hp hk hr ht
    cases k with
    | zero => omega
    | succ k =>
    have hskl := skip_le hp
    have hle := le_skip s p
    have HSS := Lib.hid (skip_skip s p)
    rw [term]
    generalize hz : skip s p = z at *
    have HSK := Lib.hid hz; clear hz
    by_cases hlt : z < s.size
    · rw [at?_lt hlt]
      simp only
      have hsm : ∀ c : UInt8, starts s z [c] = decide (at? s z = some c) := starts_one s z
      rw [at?_lt hlt] at hsm
      have h? : ∀ c : UInt8, decide (at? s z = some c) = decide (s[z] = c) := fun c => by rw [at?_lt hlt]; simp
      by_cases h34 : s[z] = 34
      · rw [if_pos h34]
        exact term_string b s p z w hr hp hs HSK hlt (Lib.hid (by rw [h?]; simp [h34]))
      rw [if_neg h34]
      have H1 : Hid (decide (at? s z = some 34) = false) := Lib.hid (by rw [h?]; simp [h34])
      by_cases h45 : s[z] = 45
      · rw [if_pos (.inl h45)]
        exact term_minus b s p z w hr hp hs ht hb HSK hlt H1 (Lib.hid (by rw [h?]; simp [h45]))
      have H2 : Hid (decide (at? s z = some 45) = false) := Lib.hid (by rw [h?]; simp [h45])
      cases hdg : digitB s[z] with
      | true =>
        rw [if_pos (.inr rfl)]
        exact term_digit b s p z w hr hp hs ht hb HSK hlt H1 H2 (fun _ => Lib.hid hdg)
      | false =>
      rw [if_neg (by rintro (h | h); exact h45 h; cases h)]
      have H3 : ∀ h : z < s.size, Hid (digitB s[z] = false) := fun _ => Lib.hid hdg
      cases hst : starts s z [60, 60] with
      | true =>
        simp only [if_true]
        exact term_bin b s p z w hr hp hs ht hb HSK hlt H1 H2 H3 (Lib.hid hst)
      | false =>
      simp only [Bool.false_eq_true, if_false]
      have H4 := Lib.hid hst
      by_cases h60 : s[z] = 60
      · rw [if_pos h60]
        exact term_pid b s p z w hr hp hs ht hb HSK hlt H1 H2 H3 H4 (Lib.hid (by rw [hsm]; simp [h60]))
      rw [if_neg h60]
      have H5 : Hid (starts s z [60] = false) := Lib.hid (by rw [hsm]; simp [h60])
      by_cases h35 : s[z] = 35
      · rw [if_pos h35]
        have H6 : Hid (decide (at? s z = some 35) = true) := Lib.hid (by rw [h?]; simp [h35])
        unfold want
        rw [HSS.out]
        cases hr1 : starts s z [35, 82, 101, 102] with
        | false =>
          simp only [Bool.false_eq_true, if_false]
          exact term_ref1 b s p z w hr hp hs ht hb HSK hlt H1 H2 H3 H4 H5 H6 HSS (Lib.hid hr1)
        | true =>
          simp only [if_true, List.length_cons, List.length_nil, Nat.reduceAdd]
          cases hr2 : starts s (skip s (z + 4)) [60] with
          | false =>
            simp only [Bool.false_eq_true, if_false]
            exact term_ref2 b s p z w hr hp hs ht hb HSK hlt H1 H2 H3 H4 H5 H6 HSS (Lib.hid hr1) (Lib.hid hr2)
          | true =>
            simp only [if_true]
            exact term_ref b s p z w hr hp hs ht hb HSK hlt H1 H2 H3 H4 H5 H6 HSS (Lib.hid hr1) (Lib.hid hr2)
      rw [if_neg h35]
      have H6 : Hid (decide (at? s z = some 35) = false) := Lib.hid (by rw [h?]; simp [h35])
      have hih := ih (z + 1) (by omega)
      by_cases h123 : s[z] = 123
      · rw [if_pos h123]
        have H7 : Hid (starts s z [123] = true) := Lib.hid (by rw [hsm]; simp [h123])
        refine term_tuple b s p z w hr hp hs ht hb HSK hlt H1 H2 H3 H4 H5 H6 H7 _ ?_
        intro w' hr' ht'
        cases hc : starts s (skip s (z + 1)) [125] with
        | true => simp only [if_true]; exact tuple_none b s (z + 1) w' hr' (by omega) hs hc
        | false =>
          simp only [Bool.false_eq_true, if_false]
          have := le_skip s (z + 1)
          exact tuple_loop b s (z + 1) (z + 1) k w' hih hr' (Nat.le_refl _) (by omega) hs ht' hb hc (by omega)
      rw [if_neg h123]
      have H7 : Hid (starts s z [123] = false) := Lib.hid (by rw [hsm]; simp [h123])
      by_cases h91 : s[z] = 91
      · rw [if_pos h91]
        have H8 : Hid (starts s z [91] = true) := Lib.hid (by rw [hsm]; simp [h91])
        refine term_list b s p z w hr hp hs ht hb HSK hlt H1 H2 H3 H4 H5 H6 H7 H8 _ ?_
        intro w' hr' ht'
        cases hc : starts s (skip s (z + 1)) [93] with
        | true => simp only [if_true]; exact list_none b s (z + 1) w' hr' (by omega) hs hc
        | false =>
          simp only [Bool.false_eq_true, if_false]
          have := le_skip s (z + 1)
          exact list_loop b s (z + 1) (z + 1) k w' hih hr' (Nat.le_refl _) (by omega) hs ht' hb hc (by omega)
      rw [if_neg h91]
      have H8 : Hid (starts s z [91] = false) := Lib.hid (by rw [hsm]; simp [h91])
      exact term_atom b s p z w hr hp hs ht hb HSK hlt H1 H2 H3 H4 H5 H6 H7 H8 (scan s z) (fun w' ht' => scan_calls s z w' (by omega) hs ht') (Lib.hid sc_bad)
    · rw [at?_ge (by omega)]
      exact term_end b s p z w hr hp hs HSK (by omega)

theorem term_calls (b : Nat) (s : ByteArray) (k p : Nat) (w : World) (hr : Rd b s p w) (hp : p ≤ s.size) (hs : s.size ≤ 68719476736) (ht : Tabs w) (hb : ng ≤ b) (hk : 2 * (s.size - p) + 2 ≤ k) :
    Calls Tryd.prog 16 #[.pointer (some ⟨b, 0, none⟩)] w (ParseR b s w (term k s p)) :=
  term_ok b s hs hb (s.size - p + 1) p (by omega) k p w (Nat.le_refl _) hp hk hr ht
end Go.Proofs.YtebdikbngnolbaaDoor
