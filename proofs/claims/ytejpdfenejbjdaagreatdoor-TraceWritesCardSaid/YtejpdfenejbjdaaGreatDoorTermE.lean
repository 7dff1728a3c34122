/- Walks: a string in quotes as a list; all terms. -/
import Derived.Test.YtejpdfenejbjdaaGreatDoorTermD
import Derived.Recover
import Derived.Tactics2
import Derived.OwnWalk
import Derived.Test.YtejpdfenejbjdaaGreatDoorTermA
import Derived.Shelf.SlicesE.Kit
namespace Go.Proofs.YtejpdfenejbjdaaGreatDoor
open Go.RowKit Txt
set_option linter.unusedVariables false
set_option linter.unusedSimpArgs false

def strC (l : List UInt8) : List Cl := l.flatMap fun c => [⟨7, 0, .empty⟩, ⟨1, (c.toNat : Int), .empty⟩]
theorem strCells_eq (l : List UInt8) : strCells l = strC l ++ [⟨6, 0, .empty⟩] := by
  induction l with
  | nil => rfl
  | cons c l ih => rw [strCells, ih]; rfl
theorem strC_length (l : List UInt8) : (strC l).length = 2 * l.length := by
  induction l with
  | nil => rfl
  | cons c l ih => simp only [strC, List.flatMap_cons, List.length_append, List.length_cons, List.length_nil] at ih ⊢; omega
theorem strC_take (l : List UInt8) (i : Nat) (h : i < l.length) : strC (l.take (i + 1)) = strC (l.take i) ++ [⟨7, 0, .empty⟩, ⟨1, (l[i].toNat : Int), .empty⟩] := by
  rw [List.take_succ_eq_append_getElem h]; simp only [strC, List.flatMap_append, List.flatMap_cons, List.flatMap_nil, List.append_nil]

set_option maxHeartbeats 4000000 in
set_option maxRecDepth 100000 in
theorem term_string (b : Nat) (s : ByteArray) (p z : Nat) (w : World) (hr : Rd b s p w) (hp : p ≤ s.size) (hs : s.size ≤ 68719476736) (HSK : Hid (skip s p = z)) (hz : z < s.size) (hT1 : Hid (decide (at? s z = some 34) = true)) :
    Calls Tryz.prog 92 #[.pointer (some ⟨b, 0, none⟩)] w (ParseR b s w (match Txt.quoted s z with | .bad e a => .bad e a | .ok l r => .ok (strCells l) r)) := by
  have hbw := hr.lt
  have hcall := fun w' h1 => quoted_calls b s z w' h1 hz (by omega)
  have hlen := fun l r => quoted_len2 (s := s) (p := z) (l := l) (q := r)
  have hlen1 := fun l r => quoted_len (s := s) (p := z) (l := l) (q := r)
  generalize Txt.quoted s z = R at hcall hlen hlen1 ⊢
  have HL := Lib.hid hlen; clear hlen
  have HL1 := Lib.hid hlen1; clear hlen1
  obtain ⟨i0, hi, hz0, hz1, hz2⟩ := info_parts info_cell
  go_enter Tryz.func92, Tryz.ntmps92
  go_wp2_with fail
  refine (blanks_calls b s p w hr hp (by omega)).mono ?_
  rw [HSK.out]
  rintro e w1 ⟨rfl, hr1, hm1⟩
  have HM1 := Lib.hid hm1; clear hm1
  go_wp2_with fail
  refine (next_calls b _).mono ?_
  rintro e w2 ⟨rfl, rfl⟩
  have HS0 := Lib.hid (St.init hr1 HM1.out)
  have c1 := HS0.out.rd.c1
  have c0 := HS0.out.rd.c0
  go_wp2_with fail
  refine (here_calls b s z 34 _ HS0.out.rd (Nat.le_of_lt hz) (by omega)).mono ?_
  rw [hT1.out]
  rintro e v1 ⟨rfl, hr, hm⟩
  have HS1 := Lib.hid (HS0.out.step hr hm); clear hr hm
  clear c0 c1
  go_wp2_with fail
  refine (hcall _ HS1.out.rd).mono ?_
  clear hcall
  cases R with
  | bad e a =>
    rintro e' w9 ⟨rfl, hm9⟩
    have HE := Lib.hid (HS1.out.mv.trans hm9); clear hm9
    go_wp2
    exact ⟨rfl, rfl, HE.out⟩
  | ok l r =>
    have hl2 := HL.out l r rfl
    have hl1 := HL1.out l r rfl
    clear HL HL1
    rintro e' w9 ⟨rfl, hr9, hm9⟩
    have HM9 := Lib.hid (HS1.out.mv.trans hm9); clear hm9
    have HR9 := Lib.hid hr9; clear hr9
    have hcb := conv_bytes w9 (Txt.bytes l)
    have hcell : ∀ i, (h : i < l.length) → (Lib.bytesWorld w9 5 (Txt.bytes l)).cell? ⟨w9.heap.size, i, none⟩ = some (.int .u8 (l[i].toNat : Int)) := by
      intro i h
      rw [Lib.bytesWorld_cell _ _ _ _ (by rw [bytes_size]; exact h), bytes_data]; simp [h]
    have hbs := bytes_size l
    rw [hbs] at hcb
    have HBS := Lib.hid hbs; clear hbs
    have hsz9 := Lib.bytesWorld_size w9 5 (Txt.bytes l)
    have HSZ := Lib.hid hsz9; clear hsz9
    have hbel := below_bytesWorld w9 5 (Txt.bytes l)
    go_wp2_with fail
    generalize Lib.bytesWorld w9 5 (Txt.bytes l) = w10 at *
    have HB := Lib.hid hbel; clear hbel
    have HC := Lib.hid hcell; clear hcell
    clear hcb
    go_loopw [6, 39] (fun v i wr => ∃ k : Nat, k ≤ l.length ∧ i = .int .i64 k ∧ OwnT w10.heap.size wr v (strC (l.take k)) ∧ Rd b s r wr ∧ Below w10.heap.size w10 wr) (fun _ i wr => l.length - (intOf i).toNat)
    case atStart => exact ⟨0, Nat.zero_le _, rfl, OwnT.nil _ _, HR9.out.below HB.out, Below.refl _ _⟩
    case round =>
      obtain ⟨k, hk, rfl, ho, hrd, hbe⟩ := hrel
      have HO := Lib.hid ho; clear ho
      have HRq := Lib.hid hrd; clear hrd
      have HBE := Lib.hid hbe; clear hbe
      have hgeC := HO.out.own_ge
      have hge0 := Lib.hid hgeC; clear hgeC
      have hb10 : b < w10.heap.size := by have := HR9.out.lt; have := HSZ.out; omega
      by_cases hlt : k < l.length
      · have hck : wr.cell? ⟨w9.heap.size, k, none⟩ = some (.int .u8 (l[k].toNat : Int)) := (World.cell?_of_block (w := w10) (HBE.out.block _ (by have := HSZ.out; simp; omega))).trans (HC.out k hlt)
        have hST := strC_take l k hlt
        have HST := Lib.hid hST; clear hST
        have hSL := strC_length (l.take k)
        rw [List.length_take, Nat.min_eq_left hk] at hSL
        have hu8 := l[k].toNat_lt
        go_wp2_with (at_builtin; refine wpList_append_own _ rfl _ _ 22 rfl w10.heap.size 74 i0 (.agg #[.int .i64 0, .int .i64 0, .string .empty]) 3 32 Tryz.underlying22 hi hz0 hz1 hz2 rfl (by decide) _ _ _ rfl (World.ownsRow.alloc HO.out _) ⟨wr.heap.size, 0, none⟩ 2 2 (cvs [⟨7, 0, .empty⟩, ⟨1, (l[k].toNat : Int), .empty⟩]) rfl rfl ?c1 (cvs_oneCell _) ?c3 ?c4 ?c5 ?_)
        case c1 => exact new_list _ (cvs [⟨7, 0, .empty⟩, ⟨1, (l[k].toNat : Int), .empty⟩]) _ _ rfl
        case c3 => unfold maxLen; omega
        case c4 => omega
        case c5 => have := HBE.out.size; simp; omega
        intro v' w11 hown' hgrow _
        have HO1 : Hid (OwnT w10.heap.size w11 v' (strC (l.take (k + 1)))) := by
          rw [HST.out]; exact OwnT.appended (u := [⟨7, 0, .empty⟩, ⟨1, (l[k].toNat : Int), .empty⟩]) hown' (by simp only [List.length_cons, List.length_nil]; omega)
        have HR1 := Lib.hid ((HRq.out.alloc _).grown hgrow hge0.out hb10)
        have HB1 := Lib.hid ((HBE.out.alloc HBE.out.size _).grown hgrow (by have := HBE.out.size; simp; omega) hge0.out)
        clear hown' hgrow hck
        go_wp2
        go_roundw
        case rel => exact ⟨k + 1, by omega, by go_num, HO1.out, HR1.out, HB1.out⟩
        case measure => simp [intOf]; omega
      · have hkl : k = l.length := by omega
        have hO := HO.out
        rw [List.take_of_length_le (by omega)] at hO
        have hSL := strC_length l
        have HO2 := Lib.hid hO; clear hO HO
        go_wp2_with (at_builtin; refine wpList_append_own _ rfl _ _ 22 rfl w10.heap.size 74 i0 (.agg #[.int .i64 0, .int .i64 0, .string .empty]) 3 32 Tryz.underlying22 hi hz0 hz1 hz2 rfl (by decide) _ _ _ rfl (World.ownsRow.alloc HO2.out _) ⟨wr.heap.size, 0, none⟩ 1 1 (cvs [⟨6, 0, .empty⟩]) rfl rfl ?d1 (cvs_oneCell _) ?d3 ?d4 ?d5 ?_)
        case d1 => exact new_list _ (cvs [⟨6, 0, .empty⟩]) _ _ rfl
        case d3 => unfold maxLen; omega
        case d4 => omega
        case d5 => have := HBE.out.size; simp; omega
        intro v' w11 hown' hgrow _
        have HO1 : Hid (OwnT w10.heap.size w11 v' (strCells l)) := by
          rw [strCells_eq]; exact OwnT.appended (u := [⟨6, 0, .empty⟩]) hown' (by simp only [List.length_cons, List.length_nil]; omega)
        have HR1 := Lib.hid ((HRq.out.alloc _).grown hgrow hge0.out hb10)
        have HB1 := Lib.hid ((HBE.out.alloc HBE.out.size _).grown hgrow (by have := HBE.out.size; simp; omega) hge0.out)
        clear hown' hgrow
        go_wp2
        go_ret
        exact ⟨_, rfl, OwnT.mono HO1.out (by have := HM9.out.size; have := HSZ.out; omega), HR1.out, (HM9.out.trans (Mv.of_below HB.out)).trans (Mv.of_below HB1.out)⟩

theorem sc_bad {s : ByteArray} {z : Nat} : ∀ e a, scan s z = .bad e a → e ≠ 0 := by
  intro e a h
  unfold scan at h
  split at h
  · split at h
    · cases h; decide
    · split at h <;> cases h
      decide
  · split at h
    · cases h; decide
    · split at h <;> cases h
      decide

theorem term_ok (b : Nat) (s : ByteArray) (hs : s.size ≤ 68719476736) (hb : ng ≤ b) : ∀ (d p0 : Nat), s.size - p0 < d → TermOK b s p0 := by
  intro d
  induction d with
  | zero => intro p0 h; omega
  | succ d ih =>
    intro p0 hd k p w hp0 hp hk hr ht
    cases k with
    | zero => omega
    | succ k =>
    have hskl := skip_le hp
    have hle := le_skip s p
    have HSS := Lib.hid (skip_skip s p)
    rw [term]
    generalize hz : skip s p = z at *
    have HSK := Lib.hid hz; clear hz
    by_cases hlt : z < s.size
    · rw [at?_lt hlt]
      simp only
      have hsm : ∀ c : UInt8, starts s z [c] = decide (at? s z = some c) := starts_one s z
      rw [at?_lt hlt] at hsm
      have h? : ∀ c : UInt8, decide (at? s z = some c) = decide (s[z] = c) := fun c => by rw [at?_lt hlt]; simp
      by_cases h34 : s[z] = 34
      · rw [if_pos h34]
        exact term_string b s p z w hr hp hs HSK hlt (Lib.hid (by rw [h?]; simp [h34]))
      rw [if_neg h34]
      have H1 : Hid (decide (at? s z = some 34) = false) := Lib.hid (by rw [h?]; simp [h34])
      by_cases h45 : s[z] = 45
      · rw [if_pos (.inl h45)]
        exact term_minus b s p z w hr hp hs ht hb HSK hlt H1 (Lib.hid (by rw [h?]; simp [h45]))
      have H2 : Hid (decide (at? s z = some 45) = false) := Lib.hid (by rw [h?]; simp [h45])
      cases hdg : digitB s[z] with
      | true =>
        rw [if_pos (.inr rfl)]
        exact term_digit b s p z w hr hp hs ht hb HSK hlt H1 H2 (fun _ => Lib.hid hdg)
      | false =>
      rw [if_neg (by rintro (h | h); exact h45 h; cases h)]
      have H3 : ∀ h : z < s.size, Hid (digitB s[z] = false) := fun _ => Lib.hid hdg
      cases hst : starts s z [60, 60] with
      | true =>
        simp only [if_true]
        exact term_bin b s p z w hr hp hs ht hb HSK hlt H1 H2 H3 (Lib.hid hst)
      | false =>
      simp only [Bool.false_eq_true, if_false]
      have H4 := Lib.hid hst
      by_cases h60 : s[z] = 60
      · rw [if_pos h60]
        exact term_pid b s p z w hr hp hs ht hb HSK hlt H1 H2 H3 H4 (Lib.hid (by rw [hsm]; simp [h60]))
      rw [if_neg h60]
      have H5 : Hid (starts s z [60] = false) := Lib.hid (by rw [hsm]; simp [h60])
      by_cases h35 : s[z] = 35
      · rw [if_pos h35]
        have H6 : Hid (decide (at? s z = some 35) = true) := Lib.hid (by rw [h?]; simp [h35])
        unfold want
        rw [HSS.out]
        cases hr1 : starts s z [35, 82, 101, 102] with
        | false =>
          simp only [Bool.false_eq_true, if_false]
          exact term_ref1 b s p z w hr hp hs ht hb HSK hlt H1 H2 H3 H4 H5 H6 HSS (Lib.hid hr1)
        | true =>
          simp only [if_true, List.length_cons, List.length_nil, Nat.reduceAdd]
          cases hr2 : starts s (skip s (z + 4)) [60] with
          | false =>
            simp only [Bool.false_eq_true, if_false]
            exact term_ref2 b s p z w hr hp hs ht hb HSK hlt H1 H2 H3 H4 H5 H6 HSS (Lib.hid hr1) (Lib.hid hr2)
          | true =>
            simp only [if_true]
            exact term_ref b s p z w hr hp hs ht hb HSK hlt H1 H2 H3 H4 H5 H6 HSS (Lib.hid hr1) (Lib.hid hr2)
      rw [if_neg h35]
      have H6 : Hid (decide (at? s z = some 35) = false) := Lib.hid (by rw [h?]; simp [h35])
      have hih := ih (z + 1) (by omega)
      by_cases h123 : s[z] = 123
      · rw [if_pos h123]
        have H7 : Hid (starts s z [123] = true) := Lib.hid (by rw [hsm]; simp [h123])
        refine term_tuple b s p z w hr hp hs ht hb HSK hlt H1 H2 H3 H4 H5 H6 H7 _ ?_
        intro w' hr' ht'
        cases hc : starts s (skip s (z + 1)) [125] with
        | true => simp only [if_true]; exact tuple_none b s (z + 1) w' hr' (by omega) hs hc
        | false =>
          simp only [Bool.false_eq_true, if_false]
          have := le_skip s (z + 1)
          exact tuple_loop b s (z + 1) (z + 1) k w' hih hr' (Nat.le_refl _) (by omega) hs ht' hb hc (by omega)
      rw [if_neg h123]
      have H7 : Hid (starts s z [123] = false) := Lib.hid (by rw [hsm]; simp [h123])
      by_cases h91 : s[z] = 91
      · rw [if_pos h91]
        have H8 : Hid (starts s z [91] = true) := Lib.hid (by rw [hsm]; simp [h91])
        refine term_list b s p z w hr hp hs ht hb HSK hlt H1 H2 H3 H4 H5 H6 H7 H8 _ ?_
        intro w' hr' ht'
        cases hc : starts s (skip s (z + 1)) [93] with
        | true => simp only [if_true]; exact list_none b s (z + 1) w' hr' (by omega) hs hc
        | false =>
          simp only [Bool.false_eq_true, if_false]
          have := le_skip s (z + 1)
          exact list_loop b s (z + 1) (z + 1) k w' hih hr' (Nat.le_refl _) (by omega) hs ht' hb hc (by omega)
      rw [if_neg h91]
      have H8 : Hid (starts s z [91] = false) := Lib.hid (by rw [hsm]; simp [h91])
      exact term_atom b s p z w hr hp hs ht hb HSK hlt H1 H2 H3 H4 H5 H6 H7 H8 (scan s z) (fun w' ht' => scan_calls s z w' (by omega) hs ht') (Lib.hid sc_bad)
    · rw [at?_ge (by omega)]
      exact term_end b s p z w hr hp hs HSK (by omega)

theorem term_calls (b : Nat) (s : ByteArray) (k p : Nat) (w : World) (hr : Rd b s p w) (hp : p ≤ s.size) (hs : s.size ≤ 68719476736) (ht : Tabs w) (hb : ng ≤ b) (hk : 2 * (s.size - p) + 2 ≤ k) :
    Calls Tryz.prog 92 #[.pointer (some ⟨b, 0, none⟩)] w (ParseR b s w (term k s p)) :=
  term_ok b s hs hb (s.size - p + 1) p (by omega) k p w (Nat.le_refl _) hp hk hr ht
end Go.Proofs.YtejpdfenejbjdaaGreatDoor

namespace Go.Proofs.YtejpdfenejbjdaaGreatDoor
open Go.RowKit Txt
set_option linter.unusedVariables false
set_option linter.unusedSimpArgs false

theorem caught_idle (p : Addr) (w : World) :
    CallsD Tryz.prog 91 #[.pointer (some p)] .returning w fun e u' w' => e = .returned (.tuple #[]) ∧ u' = .returning ∧ w' = w := by
  refine callsD_of_wpS Tryz.func91 rfl fun c₀ cs hu => ?_
  change Code.wpS _ _ _ ⟨#[.pointer (some p), undef, undef, undef, undef, undef, undef, undef, undef, undef, undef, undef, undef, undef], []⟩ _ _
  apply wpS_seq
  apply wpS_region
  simp [wpOpsS, go_sem, recoverD, hu, Tryz.ntmps91, Exit.thenS]
  refine wpS_of_wp ?_
  go_wp2
  cases c₀
  simp_all [bodyPostS, results, Tryz.results91]

set_option maxRecDepth 100000 in
theorem caught_hit (g : Nat) (c a : Int) (x0 x1 : Value) (w : World) (h0 : w.cell? ⟨g, 0, none⟩ = some x0) (h1 : w.cell? ⟨g, 1, none⟩ = some x1) (f0 : w.frozen? ⟨g, 0, none⟩ = false) (f1 : w.frozen? ⟨g, 1, none⟩ = false) :
    CallsD Tryz.prog 91 #[.pointer (some ⟨g, 0, none⟩)] (.panicking [{ v := .iface 125 (.agg #[.int .i64 c, .int .i64 a]), recovered := false }]) w fun e u' w' => e = .returned (.tuple #[]) ∧ u' = .panicking [{ v := .iface 125 (.agg #[.int .i64 c, .int .i64 a]), recovered := true }] ∧ Mv g w w' ∧ w'.cell? ⟨g, 0, none⟩ = some (.int .i64 c) ∧ w'.cell? ⟨g, 1, none⟩ = some (.int .i64 a) := by
  have hta : ∀ (v : Value) (W : World), (Instr.typeAssert (.iface 125 v) 20 125 true).run Tryz.prog W = .ok (.tuple #[v, .bool true]) W := fun v W => by kernel_rfl
  have hgl : g < w.heap.size := cell_lt h0
  have hbl : Below w.heap.size w (w.alloc (.cells #[.int .i64 c, .int .i64 a] 125)) := (Below.refl _ _).alloc (Nat.le_refl _) _
  have k0 : (w.alloc (.cells #[.int .i64 c, .int .i64 a] 125)).cell? ⟨g, 0, none⟩ = some x0 := (World.cell?_of_block (w := w) (hbl.block g hgl)).trans h0
  have k1 : (w.alloc (.cells #[.int .i64 c, .int .i64 a] 125)).cell? ⟨g, 1, none⟩ = some x1 := (World.cell?_of_block (w := w) (hbl.block g hgl)).trans h1
  have z0 : (w.alloc (.cells #[.int .i64 c, .int .i64 a] 125)).frozen? ⟨g, 0, none⟩ = false := (World.frozen?_of_block (w := w) (hbl.block g hgl)).trans f0
  have z1 : (w.alloc (.cells #[.int .i64 c, .int .i64 a] 125)).frozen? ⟨g, 1, none⟩ = false := (World.frozen?_of_block (w := w) (hbl.block g hgl)).trans f1
  have hbl2 : Below (w.setCell ⟨g, 0, none⟩ (.int .i64 c)).heap.size (w.setCell ⟨g, 0, none⟩ (.int .i64 c)) ((w.setCell ⟨g, 0, none⟩ (.int .i64 c)).alloc (.cells #[.int .i64 c, .int .i64 a] 125)) := (Below.refl _ _).alloc (Nat.le_refl _) _
  have hgl2 : g < (w.setCell ⟨g, 0, none⟩ (.int .i64 c)).heap.size := by simpa [World.setCell] using hgl
  have m1 : ((w.setCell ⟨g, 0, none⟩ (.int .i64 c)).alloc (.cells #[.int .i64 c, .int .i64 a] 125)).cell? ⟨g, 1, none⟩ = some x1 := (World.cell?_of_block (w := w.setCell ⟨g, 0, none⟩ (.int .i64 c)) (hbl2.block g hgl2)).trans ((cell_ne _ _ _ _ _ (by omega)).trans h1)
  have m0 : ((w.setCell ⟨g, 0, none⟩ (.int .i64 c)).alloc (.cells #[.int .i64 c, .int .i64 a] 125)).cell? ⟨g, 0, none⟩ = some (.int .i64 c) := (World.cell?_of_block (w := w.setCell ⟨g, 0, none⟩ (.int .i64 c)) (hbl2.block g hgl2)).trans (cell_eq h0 _)
  have y1 : ((w.setCell ⟨g, 0, none⟩ (.int .i64 c)).alloc (.cells #[.int .i64 c, .int .i64 a] 125)).frozen? ⟨g, 1, none⟩ = false := (World.frozen?_of_block (w := w.setCell ⟨g, 0, none⟩ (.int .i64 c)) (hbl2.block g hgl2)).trans ((frozen_set _ _ _ _).trans f1)
  have hbl3 : Below ((w.setCell ⟨g, 0, none⟩ (.int .i64 c)).setCell ⟨g, 1, none⟩ (.int .i64 a)).heap.size ((w.setCell ⟨g, 0, none⟩ (.int .i64 c)).setCell ⟨g, 1, none⟩ (.int .i64 a)) (((w.setCell ⟨g, 0, none⟩ (.int .i64 c)).setCell ⟨g, 1, none⟩ (.int .i64 a)).alloc (.cells #[.int .i64 c, .int .i64 a] 125)) := (Below.refl _ _).alloc (Nat.le_refl _) _
  have hgl3 : g < ((w.setCell ⟨g, 0, none⟩ (.int .i64 c)).setCell ⟨g, 1, none⟩ (.int .i64 a)).heap.size := by simpa [World.setCell] using hgl
  have hmv : Mv g w (((w.setCell ⟨g, 0, none⟩ (.int .i64 c)).setCell ⟨g, 1, none⟩ (.int .i64 a)).alloc (.cells #[.int .i64 c, .int .i64 a] 125)) := (((Mv.refl g w).setAt 0 _).setAt 1 _).alloc _
  have e0 : (((w.setCell ⟨g, 0, none⟩ (.int .i64 c)).setCell ⟨g, 1, none⟩ (.int .i64 a)).alloc (.cells #[.int .i64 c, .int .i64 a] 125)).cell? ⟨g, 0, none⟩ = some (.int .i64 c) := (World.cell?_of_block (w := ((w.setCell ⟨g, 0, none⟩ (.int .i64 c)).setCell ⟨g, 1, none⟩ (.int .i64 a))) (hbl3.block g hgl3)).trans ((cell_ne _ _ _ _ _ (by omega)).trans (cell_eq h0 _))
  have e1 : (((w.setCell ⟨g, 0, none⟩ (.int .i64 c)).setCell ⟨g, 1, none⟩ (.int .i64 a)).alloc (.cells #[.int .i64 c, .int .i64 a] 125)).cell? ⟨g, 1, none⟩ = some (.int .i64 a) := (World.cell?_of_block (w := ((w.setCell ⟨g, 0, none⟩ (.int .i64 c)).setCell ⟨g, 1, none⟩ (.int .i64 a))) (hbl3.block g hgl3)).trans (cell_eq ((cell_ne _ _ _ _ _ (by omega)).trans h1) _)
  have HE := Lib.hid (And.intro hmv (And.intro e0 e1))
  clear hbl hbl2 hgl2 hbl3 hgl3 hmv e0 e1 m0
  have HH := Lib.hid (And.intro h0 (And.intro h1 (And.intro f0 f1)))
  clear h0 h1 f0 f1
  refine callsD_of_wpS Tryz.func91 rfl fun c₀ cs hu => ?_
  change Code.wpS _ _ _ ⟨#[.pointer (some ⟨g, 0, none⟩), undef, undef, undef, undef, undef, undef, undef, undef, undef, undef, undef, undef, undef], []⟩ _ _
  apply wpS_seq
  apply wpS_region
  simp [wpOpsS, go_sem, recoverD, hu, Tryz.ntmps91, Exit.thenS]
  refine wpS_of_wp ?_
  go_wp2
  exact ⟨rfl, _, rfl, _, results_none rfl _ _ _, rfl, rfl, HE.out⟩
end Go.Proofs.YtejpdfenejbjdaaGreatDoor

namespace Go.Proofs.YtejpdfenejbjdaaGreatDoor
open Go.RowKit Txt
set_option linter.unusedVariables false
set_option linter.unusedSimpArgs false

/-- What the inner function of Parse comes to. -/
def parse1 (s : ByteArray) : PR (List Cl) :=
  match term (fuel s 0) s 0 with
  | .bad e a => .bad e a
  | .ok t q => if skip s q < s.size then .bad 70 (skip s q) else if t.length > 1024 then .bad 7 0 else .ok t 0

def P1 (B gf gt : Nat) (w : World) (r : PR (List Cl)) (e : Ending) (w' : World) : Prop :=
  e = .returned (.tuple #[]) ∧ Below B w w' ∧ w'.frozen? ⟨gt, 0, none⟩ = false ∧ (∃ v, w'.cell? ⟨gt, 0, none⟩ = some v ∧ ∀ t q, r = .ok t q → OwnT w.heap.size w' v t) ∧
    (∀ t q, r = .ok t q → w'.cell? ⟨gf, 0, none⟩ = some (.int .i64 0) ∧ w'.cell? ⟨gf, 1, none⟩ = some (.int .i64 0)) ∧ (∀ c a, r = .bad c a → w'.cell? ⟨gf, 0, none⟩ = some (.int .i64 c) ∧ w'.cell? ⟨gf, 1, none⟩ = some (.int .i64 (a : Int)))

/-- The variables of Parse that its inner function shares. -/
structure V1 (B gf gs gt : Nat) (s : ByteArray) (w : World) : Prop where
  lf : gf < w.heap.size
  ls : gs < w.heap.size
  lt : gt < w.heap.size
  bf : B ≤ gf
  bt : B ≤ gt
  nf : gf ≠ gt
  ns : gs ≠ gt
  nfs : gs ≠ gf
  cs : w.cell? ⟨gs, 0, none⟩ = some (.string s)
  f0 : w.cell? ⟨gf, 0, none⟩ = some (.int .i64 0)
  f1 : w.cell? ⟨gf, 1, none⟩ = some (.int .i64 0)
  t0 : ∃ v, w.cell? ⟨gt, 0, none⟩ = some v
  zf0 : w.frozen? ⟨gf, 0, none⟩ = false
  zf1 : w.frozen? ⟨gf, 1, none⟩ = false
  zt : w.frozen? ⟨gt, 0, none⟩ = false
theorem V1.keep {B gf gs gt : Nat} {s : ByteArray} {w w' : World} (h : V1 B gf gs gt s w) (hs : w.heap.size ≤ w'.heap.size) (hb : ∀ k, k < w.heap.size → w'.heap[k]? = w.heap[k]?) : V1 B gf gs gt s w' := by
  obtain ⟨v, hv⟩ := h.t0
  exact ⟨Nat.lt_of_lt_of_le h.lf hs, Nat.lt_of_lt_of_le h.ls hs, Nat.lt_of_lt_of_le h.lt hs, h.bf, h.bt, h.nf, h.ns, h.nfs, (World.cell?_of_block (w := w) (hb _ h.ls)).trans h.cs, (World.cell?_of_block (w := w) (hb _ h.lf)).trans h.f0, (World.cell?_of_block (w := w) (hb _ h.lf)).trans h.f1,
    ⟨v, (World.cell?_of_block (w := w) (hb _ h.lt)).trans hv⟩, (World.frozen?_of_block (w := w) (hb _ h.lf)).trans h.zf0, (World.frozen?_of_block (w := w) (hb _ h.lf)).trans h.zf1, (World.frozen?_of_block (w := w) (hb _ h.lt)).trans h.zt⟩

theorem rd_new (s : ByteArray) (w : World) : Rd w.heap.size s 0 (w.alloc (.cells #[.string s, .int .i64 0] 130)) := by
  refine ⟨by simp, ?_, ?_, ?_, ?_⟩
  all_goals (simp only [World.cell?, World.frozen?, heap_alloc_new]; rfl)

theorem p1_catch {B gf gt : Nat} {e1 : Int} {a1 : Nat} {w W w2 : World} (hW : Below B w W) (lf : gf < W.heap.size) (lt : gt < W.heap.size) (t0 : ∃ v, W.cell? ⟨gt, 0, none⟩ = some v) (zt : W.frozen? ⟨gt, 0, none⟩ = false) (nf : gf ≠ gt) (hB : B ≤ gf) (hm : Mv gf W w2)
    (k0 : w2.cell? ⟨gf, 0, none⟩ = some (.int .i64 e1)) (k1 : w2.cell? ⟨gf, 1, none⟩ = some (.int .i64 (a1 : Int))) : P1 B gf gt w (.bad e1 a1) (.returned (.tuple #[])) w2 := by
  obtain ⟨v, hv⟩ := t0
  have hk := hm.block gt lt (Ne.symm nf)
  refine ⟨rfl, ⟨hm.os.trans hW.os, hm.tape.trans hW.tape, hm.output.trans hW.output, Nat.le_trans hW.size hm.size, fun k hk => (hm.block k ?_ (by omega)).trans (hW.block k hk)⟩, (World.frozen?_of_block (w := W) hk).trans zt, ⟨v, (World.cell?_of_block (w := W) hk).trans hv, (fun t q h => by cases h)⟩, (fun t q h => by cases h), (fun c a h => by cases h; exact ⟨k0, k1⟩)⟩
  omega

set_option maxHeartbeats 2000000 in
set_option maxRecDepth 100000 in
theorem parse1_bad (B gf gs gt : Nat) (s : ByteArray) (e1 : Int) (a1 : Nat) (w : World) (hv : V1 B gf gs gt s w) (hs : s.size ≤ 65536) (ht : Tabs w) (hB : B ≤ w.heap.size) (hterm : term (fuel s 0) s 0 = .bad e1 a1) :
    Calls Tryz.prog 90 #[.pointer (some ⟨gf, 0, none⟩), .pointer (some ⟨gs, 0, none⟩), .pointer (some ⟨gt, 0, none⟩)] w (P1 B gf gt w (.bad e1 a1)) := by
  have HV := Lib.hid hv
  have hcs := hv.cs
  have HT := Lib.hid ht; clear ht hv
  have htc := term_calls w.heap.size s (fuel s 0) 0 _ (rd_new s w) (Nat.zero_le _) (by omega) (HT.out.alloc _) HT.out.lt (by unfold fuel; omega)
  rw [hterm] at htc
  have HTC := Lib.hid htc; clear htc hterm
  have hmf : ∀ (fn : Fn) (first cap : Array Value) (w : World), (Instr.makeFunc fn first cap).run Tryz.prog w = .ok (.func fn first cap) w := fun _ _ _ _ => rfl
  go_enter_defers Tryz.func90, Tryz.ntmps90
  go_wp2_with fail
  refine (HTC.out).mono ?_
  rintro e w1 ⟨rfl, hm⟩
  have hm' := ((Mv.refl w.heap.size w).alloc _).trans hm
  have hV1 := HV.out.keep hm'.size (fun k hk => hm'.block k hk (by omega))
  have HM := Lib.hid (And.intro hV1 hm'); clear hm hm' hV1
  go_wp2
  refine leaves_cons (f := 91) (args := #[.pointer (some ⟨gf, 0, none⟩)]) (by simp) (by simp [go_sem]) ?_
  refine (caught_hit gf e1 (a1 : Int) _ _ _ HM.out.1.f0 HM.out.1.f1 HM.out.1.zf0 HM.out.1.zf1).mono ?_
  rintro e u' w'' ⟨rfl, rfl, hm2, k0, k1⟩
  have hb1 : Below B w w1 := ⟨HM.out.2.os, HM.out.2.tape, HM.out.2.output, HM.out.2.size, fun k hk => HM.out.2.block k (by omega) (by omega)⟩
  exact ⟨_, results_none rfl _ _ _, p1_catch hb1 HM.out.1.lf HM.out.1.lt HM.out.1.t0 HM.out.1.zt HM.out.1.nf HM.out.1.bf hm2 k0 k1⟩

/-- What is so behind the term. -/
structure Q1 (B gf gs gt b : Nat) (s : ByteArray) (x : Value) (t : List Cl) (q : Nat) (w w' : World) : Prop where
  rd : Rd b s q w'
  own : OwnT w.heap.size w' x t
  below : Below B w w'
  lf : gf < w'.heap.size
  lt : gt < w'.heap.size
  cs : w'.cell? ⟨gs, 0, none⟩ = some (.string s)
  f0 : w'.cell? ⟨gf, 0, none⟩ = some (.int .i64 0)
  f1 : w'.cell? ⟨gf, 1, none⟩ = some (.int .i64 0)
  t0 : w'.cell? ⟨gt, 0, none⟩ = some x
  zf0 : w'.frozen? ⟨gf, 0, none⟩ = false
  zf1 : w'.frozen? ⟨gf, 1, none⟩ = false
  zt : w'.frozen? ⟨gt, 0, none⟩ = false
  base : ∀ g, x.ownBlock = some g → w.heap.size + 1 ≤ g
theorem q1_init {B gf gs gt : Nat} {s : ByteArray} {x : Value} {t : List Cl} {q : Nat} {w w1 : World} (hv : V1 B gf gs gt s w) (hv1 : V1 B gf gs gt s w1) (hm : Mv w.heap.size w w1) (ho : OwnT (w.heap.size + 1) w1 x t) (hr : Rd w.heap.size s q w1) (hB : B ≤ w.heap.size) :
    Q1 B gf gs gt w.heap.size s x t q w (w1.setCell ⟨gt, 0, none⟩ x) := by
  have hset : Mv gt w1 (w1.setCell ⟨gt, 0, none⟩ x) := (Mv.refl gt w1).setAt 0 x
  have hlt := hv.lt
  have hbt := hv.bt
  obtain ⟨v0, h0⟩ := hv1.t0
  have hbf := hset.block gf hv1.lf hv1.nf
  have hbs := hset.block gs hv1.ls hv1.ns
  exact ⟨hr.keep hset.size (hset.block _ hr.lt (by omega)), (ho.mv hset (by omega)).mono (by omega), ⟨hset.os.trans hm.os, hset.tape.trans hm.tape, hset.output.trans hm.output, Nat.le_trans hm.size hset.size, fun k hk => (hset.block k (by have := hm.size; omega) (by omega)).trans (hm.block k (by omega) (by omega))⟩,
    Nat.lt_of_lt_of_le hv1.lf hset.size, Nat.lt_of_lt_of_le hv1.lt hset.size, (World.cell?_of_block (w := w1) hbs).trans hv1.cs, (World.cell?_of_block (w := w1) hbf).trans hv1.f0, (World.cell?_of_block (w := w1) hbf).trans hv1.f1, cell_eq h0 _,
    (World.frozen?_of_block (w := w1) hbf).trans hv1.zf0, (World.frozen?_of_block (w := w1) hbf).trans hv1.zf1, (frozen_set _ _ _ _).trans hv1.zt, ho.own_ge⟩
theorem Q1.step {B gf gs gt : Nat} {s : ByteArray} {x : Value} {t : List Cl} {q q' : Nat} {w w1 w2 : World} (h : Q1 B gf gs gt w.heap.size s x t q w w1) (hv : V1 B gf gs gt s w) (hB : B ≤ w.heap.size) (hm : Mv w.heap.size w1 w2) (hr : Rd w.heap.size s q' w2) : Q1 B gf gs gt w.heap.size s x t q' w w2 := by
  have l1 := hv.lf
  have l2 := hv.lt
  have l3 := hv.ls
  have hws := h.rd.lt
  have hbf := hm.block gf h.lf (by omega)
  have hbt := hm.block gt h.lt (by omega)
  have hbs := hm.block gs (by omega) (by omega)
  refine ⟨hr, h.own.keep fun g hg hgo hgl => hm.block g hgl ?_, ⟨hm.os.trans h.below.os, hm.tape.trans h.below.tape, hm.output.trans h.below.output, Nat.le_trans h.below.size hm.size, fun k hk => (hm.block k (by omega) (by omega)).trans (h.below.block k hk)⟩,
    Nat.lt_of_lt_of_le h.lf hm.size, Nat.lt_of_lt_of_le h.lt hm.size, (World.cell?_of_block (w := w1) hbs).trans h.cs, (World.cell?_of_block (w := w1) hbf).trans h.f0, (World.cell?_of_block (w := w1) hbf).trans h.f1, (World.cell?_of_block (w := w1) hbt).trans h.t0,
    (World.frozen?_of_block (w := w1) hbf).trans h.zf0, (World.frozen?_of_block (w := w1) hbf).trans h.zf1, (World.frozen?_of_block (w := w1) hbt).trans h.zt, h.base⟩
  have := h.base g hgo; omega

set_option maxHeartbeats 2000000 in
set_option maxRecDepth 100000 in
theorem parse1_ok (B gf gs gt : Nat) (s : ByteArray) (t : List Cl) (q : Nat) (w : World) (hv : V1 B gf gs gt s w) (hs : s.size ≤ 65536) (ht : Tabs w) (hB : B ≤ w.heap.size) (hterm : term (fuel s 0) s 0 = .ok t q) :
    Calls Tryz.prog 90 #[.pointer (some ⟨gf, 0, none⟩), .pointer (some ⟨gs, 0, none⟩), .pointer (some ⟨gt, 0, none⟩)] w (P1 B gf gt w (if skip s q < s.size then .bad 70 (skip s q) else if t.length > 1024 then .bad 7 0 else .ok t 0)) := by
  generalize hRES : (if skip s q < s.size then (.bad 70 (skip s q) : PR (List Cl)) else if t.length > 1024 then .bad 7 0 else .ok t 0) = RES
  have HRES := Lib.hid hRES; clear hRES
  have hq := (term_p (Nat.zero_le _) hterm).2.1
  have HV := Lib.hid hv
  have hcs := hv.cs
  have HT := Lib.hid ht; clear ht hv
  have htc := term_calls w.heap.size s (fuel s 0) 0 _ (rd_new s w) (Nat.zero_le _) (by omega) (HT.out.alloc _) HT.out.lt (by unfold fuel; omega)
  rw [hterm] at htc
  have HTC := Lib.hid htc; clear htc hterm
  have hmf : ∀ (fn : Fn) (first cap : Array Value) (w : World), (Instr.makeFunc fn first cap).run Tryz.prog w = .ok (.func fn first cap) w := fun _ _ _ _ => rfl
  go_enter_defers Tryz.func90, Tryz.ntmps90
  go_wp2_with fail
  refine (HTC.out).mono ?_
  rintro e w1 ⟨x, rfl, ho, hr, hm⟩
  have hm' := ((Mv.refl w.heap.size w).alloc _).trans hm
  have hV1 := HV.out.keep hm'.size (fun k hk => hm'.block k hk (by omega))
  have ho' : OwnT (w.heap.size + 1) w1 x t := OwnT.mono ho (by simp)
  obtain ⟨A, xc, rfl, -, -⟩ := ho'.sees
  have HM := Lib.hid (And.intro hV1 (And.intro hm' (And.intro ho' hr))); clear hm hm' hV1 ho ho' hr
  obtain ⟨v0, k0⟩ := HM.out.1.t0
  have z0 := HM.out.1.zt
  go_wp2_with fail
  have HQ := Lib.hid (q1_init HV.out HM.out.1 HM.out.2.1 HM.out.2.2.1 HM.out.2.2.2 hB)
  clear k0 z0 hcs
  refine (blanks_calls w.heap.size s q _ HQ.out.rd hq (by omega)).mono ?_
  rintro e w2 ⟨rfl, hr2, hm2⟩
  have HQ2 := Lib.hid (HQ.out.step HV.out hB hm2 hr2); clear hr2 hm2
  have hsk := skip_le hq
  generalize skip s q = z at *
  have c1 := HQ2.out.rd.c1
  have hcs := HQ2.out.cs
  go_wp2_with fail
  go_quiet (fail)
  have HQ3 := Lib.hid (HQ2.out.step HV.out hB ((Mv.refl _ _).drewN nq) (HQ2.out.rd.drewN nq))
  clear hcs
  have t0 := HQ3.out.t0
  by_cases hz : z < s.size
  · have hRES := HRES.out
    rw [if_pos hz] at hRES
    subst hRES
    go_wp2_with fail
    refine (fail_calls _ _ _ _).mono ?_
    rintro e w6 ⟨rfl, rfl⟩
    go_wp2
    refine leaves_cons (f := 91) (args := #[.pointer (some ⟨gf, 0, none⟩)]) (by simp) (by simp [go_sem]) ?_
    refine (caught_hit gf 70 (z : Int) _ _ _ HQ3.out.f0 HQ3.out.f1 HQ3.out.zf0 HQ3.out.zf1).mono ?_
    rintro e u' w'' ⟨rfl, rfl, hm2, k0, k1⟩
    exact ⟨_, results_none rfl _ _ _, p1_catch HQ3.out.below HQ3.out.lf HQ3.out.lt ⟨_, HQ3.out.t0⟩ HQ3.out.zt HV.out.nf HV.out.bf hm2 k0 k1⟩
  · have hRES := HRES.out
    rw [if_neg hz] at hRES
    by_cases hbig : t.length > 1024
    · rw [if_pos hbig] at hRES
      subst hRES
      go_wp2_with fail
      refine (fail_calls _ _ _ _).mono ?_
      rintro e w6 ⟨rfl, rfl⟩
      go_wp2
      refine leaves_cons (f := 91) (args := #[.pointer (some ⟨gf, 0, none⟩)]) (by simp) (by simp [go_sem]) ?_
      refine (caught_hit gf 7 ((0 : Nat) : Int) _ _ _ HQ3.out.f0 HQ3.out.f1 HQ3.out.zf0 HQ3.out.zf1).mono ?_
      rintro e u' w'' ⟨rfl, rfl, hm2, k0, k1⟩
      exact ⟨_, results_none rfl _ _ _, p1_catch HQ3.out.below HQ3.out.lf HQ3.out.lt ⟨_, HQ3.out.t0⟩ HQ3.out.zt HV.out.nf HV.out.bf hm2 k0 k1⟩
    · rw [if_neg hbig] at hRES
      subst hRES
      go_wp2
      refine leaves_cons (f := 91) (args := #[.pointer (some ⟨gf, 0, none⟩)]) (by simp) (by simp [go_sem]) ?_
      refine (caught_idle ⟨gf, 0, none⟩ _).mono ?_
      rintro e u' w'' ⟨rfl, rfl, rfl⟩
      exact ⟨_, results_none rfl _ _ _, rfl, HQ3.out.below, HQ3.out.zt, ⟨_, HQ3.out.t0, (fun t' q' h => by cases h; exact HQ3.out.own)⟩, (fun t' q' h => ⟨HQ3.out.f0, HQ3.out.f1⟩), (fun c a h => by cases h)⟩

theorem parse1_calls (B gf gs gt : Nat) (s : ByteArray) (w : World) (hv : V1 B gf gs gt s w) (hs : s.size ≤ 65536) (ht : Tabs w) (hB : B ≤ w.heap.size) :
    Calls Tryz.prog 90 #[.pointer (some ⟨gf, 0, none⟩), .pointer (some ⟨gs, 0, none⟩), .pointer (some ⟨gt, 0, none⟩)] w (P1 B gf gt w (parse1 s)) := by
  unfold parse1
  cases h : term (fuel s 0) s 0 with
  | bad e a => exact parse1_bad B gf gs gt s e a w hv hs ht hB h
  | ok t q => exact parse1_ok B gf gs gt s t q w hv hs ht hB h
end Go.Proofs.YtejpdfenejbjdaaGreatDoor

namespace Go.Proofs.YtejpdfenejbjdaaGreatDoor
open Go.RowKit Txt
set_option linter.unusedVariables false
set_option linter.unusedSimpArgs false

theorem clip_calls (A : Option Addr) (n cap : Nat) (w : World) (h : n ≤ cap) :
    Calls Tryz.prog 95 #[.slice A n cap] w fun e w' => e = .returned (.slice A n n) ∧ w' = w := by
  go_enter Tryz.func95, Tryz.ntmps95
  go_wp2
  go_ret
  exact ⟨rfl, rfl⟩

theorem heap3 (w : World) (o1 o2 o3 : Obj) : (((w.alloc o1).alloc o2).alloc o3).heap[w.heap.size]? = some o1 ∧ (((w.alloc o1).alloc o2).alloc o3).heap[w.heap.size + 1]? = some o2 ∧ (((w.alloc o1).alloc o2).alloc o3).heap[w.heap.size + 2]? = some o3 := by
  refine ⟨?_, ?_, ?_⟩
  · rw [Below.heap_alloc _ _ _ (by simp; omega), Below.heap_alloc _ _ _ (by simp), heap_alloc_new]
  · rw [Below.heap_alloc _ _ _ (by simp)]
    have := heap_alloc_new (w.alloc o1) o2
    simpa using this
  · have := heap_alloc_new ((w.alloc o1).alloc o2) o3
    simpa using this

theorem parse1_ne (s : ByteArray) : ∀ c a, parse1 s = .bad c a → c ≠ 0 := by
  intro c a h
  unfold parse1 at h
  split at h
  · rename_i ht
    cases h; exact term_ne ht
  · split at h
    · cases h; decide
    · split at h <;> cases h
      decide

/-- What comes of Parse. -/
def ParseOut (w : World) (r : List Cl × Int × Nat) (e : Ending) (w' : World) : Prop :=
  ∃ x, e = .returned (.tuple #[x, .int .i64 r.2.1, .int .i64 (r.2.2 : Int)]) ∧ SeesT w' x r.1 ∧ Below w.heap.size w w'

theorem parse_1 (s : ByteArray) (h : s.size ≤ 65536) : parse s = match parse1 s with | .bad e a => ([], e, a) | .ok t _ => (t, 0, 0) := by
  unfold parse parse1
  rw [if_neg (by omega)]
  generalize term (fuel s 0) s 0 = R
  cases R with
  | bad e a => rfl
  | ok t q =>
    simp only
    by_cases h1 : skip s q < s.size
    · rw [if_pos h1, if_pos h1]
    · rw [if_neg h1, if_neg h1]
      by_cases h2 : t.length > 1024
      · rw [if_pos h2, if_pos h2]
      · rw [if_neg h2, if_neg h2]

theorem results_parse (gt : Nat) (A : Option Addr) (n c : Nat) (tmps : Array Value) (w : World) (hp : tmps[2]?.getD undef = .pointer (some ⟨gt, 0, none⟩)) (hc : w.cell? ⟨gt, 0, none⟩ = some (.slice A n c)) :
    (results Tryz.f60 tmps).run Tryz.prog w = .ok (.tuple #[.slice A n c, tmps[3]?.getD undef, tmps[4]?.getD undef]) w := by
  simp [results, Tryz.results60, hp, hc, go_sem]

/-- A term, in memory from a block on. -/
def TermAt (base : Nat) (w : World) (v : Value) (t : List Cl) : Prop :=
  SeesT w v t ∧ ∀ ad n c, v = .slice (some ad) n c → base ≤ ad.block ∧ ∃ hh cc, w.heap[ad.block]? = some (.cells hh 74 cc)
theorem TermAt.keep {base : Nat} {w w' : World} {v : Value} {t : List Cl} (h : TermAt base w v t) (hk : ∀ ad n c, v = .slice (some ad) n c → ad.block < w.heap.size → w'.heap[ad.block]? = w.heap[ad.block]?) : TermAt base w' v t := by
  refine ⟨h.1.keep fun ad ⟨n, c, e⟩ hl => hk ad n c e hl, fun ad n c e => ?_⟩
  obtain ⟨h1, hh, cc, h2⟩ := h.2 ad n c e
  exact ⟨h1, hh, cc, (hk ad n c e (Array.getElem?_eq_some_iff.1 h2).1).trans h2⟩
theorem TermAt.mono {base base' : Nat} {w : World} {v : Value} {t : List Cl} (h : TermAt base w v t) (hb : base' ≤ base) : TermAt base' w v t := ⟨h.1, fun ad n c e => ⟨Nat.le_trans hb (h.2 ad n c e).1, (h.2 ad n c e).2⟩⟩
theorem TermAt.below {base : Nat} {w w' : World} {v : Value} {t : List Cl} (h : TermAt base w v t) (hb : Below w.heap.size w w') : TermAt base w' v t := h.keep fun ad _ _ _ hl => hb.block _ hl
theorem TermAt.own {base : Nat} {w : World} {v : Value} {t : List Cl} (h : OwnT base w v t) : TermAt base w v t := by
  refine ⟨h.sees, fun ad n c e => ?_⟩
  obtain ⟨-, ⟨e0, -⟩ | ⟨g, cap, cur, e0, hg, hh, -⟩⟩ := h
  · rw [e0] at e; cases e
  · rw [e0] at e; cases e; exact ⟨hg, _, _, hh⟩
theorem TermAt.nil (base : Nat) (w : World) : TermAt base w (.slice none 0 0) [] := TermAt.own (OwnT.nil _ _)
/-- The same, the term in new memory. -/
def ParseOutT (w : World) (r : List Cl × Int × Nat) (e : Ending) (w' : World) : Prop :=
  ∃ x, e = .returned (.tuple #[x, .int .i64 r.2.1, .int .i64 (r.2.2 : Int)]) ∧ TermAt w.heap.size w' x r.1 ∧ Below w.heap.size w w'
set_option maxHeartbeats 2000000 in
set_option maxRecDepth 100000 in
theorem parseT_calls (s : ByteArray) (w : World) (ht : Tabs w) (hs : s.size ≤ 140737488355328) :
    Calls Tryz.prog 60 #[.string s] w (ParseOutT w (parse s)) := by
  have hmf : ∀ (fn : Fn) (first cap : Array Value) (w : World), (Instr.makeFunc fn first cap).run Tryz.prog w = .ok (.func fn first cap) w := fun _ _ _ _ => rfl
  have HT := Lib.hid ht; clear ht
  by_cases hbig : s.size > 65536
  · have e : parse s = ([], 4, 0) := by unfold parse; rw [if_pos hbig]
    rw [e]; clear e
    go_enter Tryz.func60, Tryz.ntmps60
    go_wp2
    refine bodyPost_ret (results_parse (w.heap.size + 1) none 0 0 _ _ rfl (by simp)) rfl ?_
    exact ⟨_, rfl, TermAt.nil _ _, ((Below.refl _ _).alloc (Nat.le_refl _) _).alloc (by simp) _⟩
  · rw [parse_1 s (by omega)]
    have hv : V1 w.heap.size (w.heap.size + 2) w.heap.size (w.heap.size + 1) s (((w.alloc (.cells #[.string s] 9)).alloc (.cells #[.slice none 0 0] 22)).alloc (.cells #[.int .i64 0, .int .i64 0] 125)) := by
      obtain ⟨h0, h1, h2⟩ := heap3 w (.cells #[.string s] 9) (.cells #[.slice none 0 0] 22) (.cells #[.int .i64 0, .int .i64 0] 125)
      refine ⟨?_, ?_, ?_, ?_, ?_, ?_, ?_, ?_, ?_, ?_, ?_, ⟨.slice none 0 0, ?_⟩, ?_, ?_, ?_⟩
      all_goals first | omega | (simp; done) | (simp; omega) | (simp only [World.cell?, World.frozen?, h0, h1, h2]; rfl)
    have hb : Below w.heap.size w (((w.alloc (.cells #[.string s] 9)).alloc (.cells #[.slice none 0 0] 22)).alloc (.cells #[.int .i64 0, .int .i64 0] 125)) := (((Below.refl _ _).alloc (Nat.le_refl _) _).alloc (by simp) _).alloc (by simp; omega) _
    have hcall := parse1_calls w.heap.size (w.heap.size + 2) w.heap.size (w.heap.size + 1) s _ hv (by omega) (HT.out.below hb) (by simp; omega)
    have hne : ∀ c a, parse1 s = .bad c a → c ≠ 0 := parse1_ne s
    generalize parse1 s = R at *
    have HNE := Lib.hid hne; clear hne
    have HC := Lib.hid hcall; clear hcall
    have HB := Lib.hid hb; clear hb
    have HV := Lib.hid hv; clear hv
    go_enter Tryz.func60, Tryz.ntmps60
    go_wp2_with fail
    refine (HC.out).mono ?_
    intro e w1 h1
    obtain ⟨rfl, hb1, hz, ⟨v, hv, ho⟩, hok, hbad⟩ := h1
    have HB1 := Lib.hid hb1; clear hb1
    cases R with
    | bad c a =>
      obtain ⟨k0, k1⟩ := hbad c a rfl
      have hcne := HNE.out c a rfl
      have hcn : (c != 0) = true := by simpa using hcne
      clear hok hbad ho HNE hcne
      simp only
      go_wp2_with fail
      go_region
      all_goals
        go_wp2
        refine bodyPost_ret (results_parse (w.heap.size + 1) none 0 0 _ _ rfl (cell_eq hv _)) rfl ?_
        exact ⟨_, rfl, TermAt.nil _ _, ((HB.out.trans HB1.out).setCell (p := ⟨w.heap.size + 1, 0, none⟩) (by simp) _).drew⟩
    | ok t q =>
      obtain ⟨k0, k1⟩ := hok t q rfl
      have hx := (ho t q rfl).sees
      have hge := (ho t q rfl).own_ge
      have hat := TermAt.own (ho t q rfl)
      clear hok hbad ho HNE
      simp only
      obtain ⟨A, xc, rfl, hxc, hA⟩ := hx
      have hfin : TermAt w.heap.size (w1.setCell ⟨w.heap.size + 1, 0, none⟩ (.slice A t.length t.length)) (.slice A t.length t.length) t := by
        refine TermAt.keep (w := w1) ⟨⟨A, t.length, rfl, Nat.le_refl _, hA⟩, fun ad n c he => ?_⟩ ?_
        · simp only [Value.slice.injEq] at he
          obtain ⟨rfl, -, -⟩ := he
          have h2 := hat.2 ad _ _ rfl
          exact ⟨by have := h2.1; simp at this; omega, h2.2⟩
        rintro ad n c he hlt
        simp only [Value.slice.injEq] at he
        obtain ⟨rfl, -, -⟩ := he
        have := hge ad.block rfl
        exact Below.heap_setCell _ _ _ _ (by simp at this ⊢; omega)
      have HF := Lib.hid hfin; clear hfin hA hge hat
      go_wp2_with fail
      refine (clip_calls A t.length xc _ hxc).mono ?_
      rintro e w2 ⟨rfl, rfl⟩
      go_wp2
      refine bodyPost_ret (results_parse (w.heap.size + 1) A t.length t.length _ _ rfl (cell_eq hv _)) rfl ?_
      exact ⟨_, rfl, HF.out, (HB.out.trans HB1.out).setCell (p := ⟨w.heap.size + 1, 0, none⟩) (by simp) _⟩
theorem parse_calls (s : ByteArray) (w : World) (ht : Tabs w) (hs : s.size ≤ 140737488355328) :
    Calls Tryz.prog 60 #[.string s] w (ParseOut w (parse s)) :=
  (parseT_calls s w ht hs).mono fun e w' ⟨x, h1, h2, h3⟩ => ⟨x, h1, h2.1, h3⟩
end Go.Proofs.YtejpdfenejbjdaaGreatDoor

namespace Go.Proofs.YtejpdfenejbjdaaGreatDoor
open Go.RowKit Txt
set_option linter.unusedVariables false
set_option linter.unusedSimpArgs false

def cnt9 (n : Int) : Nat := (if n.tmod 9 < 0 then n.tmod 9 + 9 else n.tmod 9).toNat
theorem cnt9_lt (n : Int) : cnt9 n < 9 := by
  have h1 : n.tmod 9 < 9 := Int.tmod_lt_of_pos _ (by omega)
  unfold cnt9; split <;> omega

theorem count_calls (n : Int) (w : World) (h1 : -9223372036854775808 ≤ n) (h2 : n ≤ 9223372036854775807) :
    Calls Tryz.prog 28 #[.int .i64 n, .int .i64 9] w fun e w' => e = .returned (.int .i64 (cnt9 n : Int)) ∧ w' = w := by
  have hlt : n.tmod 9 < 9 := Int.tmod_lt_of_pos _ (by omega)
  have hgt : -9 < n.tmod 9 := by
    rcases Int.le_total 0 n with h | h
    · have := Int.tmod_nonneg 9 h; omega
    · have h3 : n.tmod 9 = -((-n).tmod 9) := by rw [Int.neg_tmod]; omega
      have := Int.tmod_lt_of_pos (-n) (b := 9) (by omega)
      omega
  have hw : IntKind.i64.wrap (n.tmod 9) = n.tmod 9 := IntWalk.i64_in _ (by omega)
  by_cases hn : n.tmod 9 < 0
  · have e : (cnt9 n : Int) = n.tmod 9 + 9 := by unfold cnt9; rw [if_pos hn]; omega
    rw [e]
    have hw2 : IntKind.i64.wrap (n.tmod 9 + 9) = n.tmod 9 + 9 := IntWalk.i64_in _ (by omega)
    go_enter Tryz.func28, Tryz.ntmps28
    go_wp2
    go_ret
    exact ⟨rfl, rfl⟩
  · have e : (cnt9 n : Int) = n.tmod 9 := by unfold cnt9; rw [if_neg hn]; omega
    rw [e]
    go_enter Tryz.func28, Tryz.ntmps28
    go_wp2
    go_ret
    exact ⟨rfl, rfl⟩

/-- Are two lists of cells alike? -/
def sameC (c d : Cl) : Bool := decide (c.kind = d.kind) && decide (c.n = d.n) && decide (c.text.toList = d.text.toList)
def sameL : List Cl → List Cl → Bool
  | [], [] => true
  | c :: t, d :: u => sameC c d && sameL t u
  | _, _ => false

theorem neq_cell (c d : Cl) (W : World) : (binOp .neq 74 (.agg #[.int .i64 c.kind, .int .i64 c.n, .string c.text]) (.agg #[.int .i64 d.kind, .int .i64 d.n, .string d.text])).run Tryz.prog W = .ok (.bool (!sameC c d)) W := by
  have hS : Tryz.prog.underlying 74 = some (.struct (Tryz.prog.fieldsOf 74)) := by kernel_rfl
  have hp : Tryz.prog.stoodInHeld 74 = false := by kernel_rfl
  rw [run_neq_struct, show (10000 : Nat) = 9999 + 1 from rfl, run_equalIn_agg W 9999 74 _ _ hS hp]
  simp only [Program.fieldsOf, Tryz.underlying74]
  go_simp
  by_cases h1 : c.kind = d.kind <;> by_cases h2 : c.n = d.n <;> by_cases h3 : c.text.toList = d.text.toList <;> simp [h1, h2, h3, sameC]

set_option maxHeartbeats 1000000 in
theorem same_calls (x y : Value) (t u : List Cl) (w : World) (hx : SeesT w x t) (hy : SeesT w y u) (hlen : u.length ≤ 1099511627776) :
    Calls Tryz.prog 46 #[x, y] w fun e w' => e = .returned (.bool (sameL t u)) ∧ ∃ n, w' = w.drewN n := by
  have HX := Lib.hid hx
  have HY := Lib.hid hy
  obtain ⟨A, ca, rfl, hca, -⟩ := hx
  obtain ⟨B, cb, rfl, hcb, -⟩ := hy
  by_cases hl : t.length = u.length
  · generalize hS : sameL t u = S
    have HS := Lib.hid hS; clear hS
    go_enter Tryz.func46, Tryz.ntmps46
    go_wp2_with fail
    go_loopw [5] (fun i wr => ∃ k : Nat, k ≤ t.length ∧ i = .int .i64 k ∧ sameL (t.drop k) (u.drop k) = S ∧ ∃ n, wr = w.drewN n) (fun i _ => t.length - (intOf i).toNat)
    case atStart => exact ⟨0, Nat.zero_le _, rfl, HS.out, 0, rfl⟩
    case round =>
      obtain ⟨k, hk, rfl, hf, n, rfl⟩ := hrel
      have HF := Lib.hid hf; clear hf
      by_cases hlt : k < t.length
      · have hlu : k < u.length := by omega
        obtain ⟨ad, _, hxe, _, hadl, c0, c1, c2⟩ := HX.out.at k hlt
        obtain rfl : A = some ad := by injection hxe
        obtain ⟨bd, _, hye, _, hbdl, d0, d1, d2⟩ := HY.out.at k hlu
        obtain rfl : B = some bd := by injection hye
        clear hxe hye hadl hbdl
        have hF := HF.out
        rw [List.drop_eq_getElem_cons hlt, List.drop_eq_getElem_cons hlu, sameL] at hF
        generalize t[k] = c at *
        generalize u[k] = d at *
        have e0 : (w.drewN n).cell? (ad.add (k * 3)) = some (.int .i64 c.kind) := c0
        have e1 : (w.drewN n).cell? ⟨(ad.add (k * 3)).block, (ad.add (k * 3)).off + 1, none⟩ = some (.int .i64 c.n) := c1
        have e2 : (w.drewN n).cell? ⟨(ad.add (k * 3)).block, (ad.add (k * 3)).off + 2, none⟩ = some (.string c.text) := c2
        have g0 : (w.drewN n).cell? (bd.add (k * 3)) = some (.int .i64 d.kind) := d0
        have g1 : (w.drewN n).cell? ⟨(bd.add (k * 3)).block, (bd.add (k * 3)).off + 1, none⟩ = some (.int .i64 d.n) := d1
        have g2 : (w.drewN n).cell? ⟨(bd.add (k * 3)).block, (bd.add (k * 3)).off + 2, none⟩ = some (.string d.text) := d2
        clear c0 c1 c2 d0 d1 d2
        generalize hW : w.drewN n = wr at *
        have HW := Lib.hid hW; clear hW
        have HF := Lib.hid hF; clear hF
        have hq : ∀ W, (binOp .neq 74 (.agg #[.int .i64 c.kind, .int .i64 c.n, .string c.text]) (.agg #[.int .i64 d.kind, .int .i64 d.n, .string d.text])).run Tryz.prog W = .ok (.bool (!sameC c d)) W := neq_cell c d
        have hgd : Tryz.prog.eqGuardType Tryz.prog.depth 74 = false := by kernel_rfl
        have HLT := Lib.hid (And.intro hlt (And.intro hl hlu))
        cases hsc : sameC c d with
        | true =>
          have HSC := Lib.hid hsc; clear hsc
          rw [HSC.out] at hq
          go_wp2_with fail
          go_quiet (fail)
          go_wp2
          go_roundw
          case rel => exact ⟨k + 1, by have := HLT.out; omega, by go_num, by have := HF.out; rw [HSC.out, Bool.true_and] at this; exact this, n + nq, by rw [← HW.out, World.drewN_drewN]⟩
          case measure => have := HLT.out; simp [intOf]; omega
        | false =>
          have HSC := Lib.hid hsc; clear hsc
          rw [HSC.out] at hq
          have hF := HF.out
          rw [HSC.out, Bool.false_and] at hF
          subst hF
          go_wp2_with fail
          go_quiet (fail)
          go_wp2
          go_ret
          exact ⟨rfl, n + nq, by rw [← HW.out, World.drewN_drewN]⟩
      · have hF := HF.out
        rw [List.drop_of_length_le (by omega), List.drop_of_length_le (by omega)] at hF
        subst hF
        go_wp2_with fail
        go_ret
        exact ⟨rfl, n, rfl⟩
  · have e : sameL t u = false := by
      clear HX HY hca hcb hlen
      induction t generalizing u with
      | nil => cases u with
        | nil => simp at hl
        | cons d u => rfl
      | cons c t ih => cases u with
        | nil => rfl
        | cons d u => rw [sameL, ih u (by simpa using hl), Bool.and_false]
    rw [e]
    have hne : ((t.length : Int) != (u.length : Int)) = true := by simp; omega
    clear e
    go_enter Tryz.func46, Tryz.ntmps46
    go_wp2
    go_ret
    exact ⟨rfl, 0, rfl⟩
end Go.Proofs.YtejpdfenejbjdaaGreatDoor
