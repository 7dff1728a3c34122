/- Walks: strconv.FormatInt of a small number at base 16. -/
import Derived.Test.YtebdikbngnolbaaDoorCells
import Derived.Test.YtebdikbngnolbaaDoorPModel
import Derived.Outline
import Derived.Test.YtebdikbngnolbaaDoorAtomF
namespace Go.Proofs.YtebdikbngnolbaaDoor
open Go.RowKit Txt
set_option linter.unusedVariables false
set_option linter.unusedSimpArgs false

theorem pow2_16 (w : World) : Calls Tryd.prog 85 #[.int .i64 16] w fun e w' => e = .returned (.bool true) ∧ w' = w := by
  have h : bits BinOp.and IntKind.i64 16 15 = 0 := by decide
  go_enter Tryd.func85, Tryd.ntmps85
  go_wp2
  go_ret
  exact ⟨rfl, rfl⟩
set_option maxHeartbeats 400000 in
theorem tz64_16 (w : World) (ht : Tabs w) : Calls Tryd.prog 93 #[.int .u64 16] w fun e w' => e = .returned (.int .i64 4) ∧ w' = w := by
  have hb := ht.bru
  have HT := Lib.hid ht; clear ht
  have h0 : ((16 : Int) == 0) = false := rfl
  have hz : IntKind.u64.wrap (bits BinOp.and IntKind.u64 16 (IntKind.u64.wrap (-16)) * 285870213051353865) / 288230376151711744 = 15 := by decide
  go_enter Tryd.func93, Tryd.ntmps93
  go_wp2
  go_ret
  exact ⟨rfl, rfl⟩
theorem tz_16 (w : World) (ht : Tabs w) : Calls Tryd.prog 86 #[.int .u64 16] w fun e w' => e = .returned (.int .i64 4) ∧ w' = w := by
  have HT := Lib.hid ht; clear ht
  go_enter Tryd.func86, Tryd.ntmps86
  go_wp2_with (go_at_call 93; refine (tz64_16 _ HT.out).mono ?_; rintro e w' ⟨rfl, rfl⟩)
  go_ret
  exact ⟨rfl, rfl⟩

/-- The array of digits, written from behind. -/
theorem zc_size : Tryd.zeroCells119.size = 65 := by kernel_rfl
def digs : ByteArray := { data := #[48, 49, 50, 51, 52, 53, 54, 55, 56, 57, 97, 98, 99, 100, 101, 102, 103, 104, 105, 106, 107, 108, 109, 110, 111, 112, 113, 114, 115, 116, 117, 118, 119, 120, 121, 122] }
theorem digs_hex : ∀ (r : Fin 16), digs[r.1]'(Nat.lt_trans r.2 (by decide)) = hexd r.1 := by decide
theorem conv_one (w : World) (c : UInt8) : (convert 53 9 (.slice (some ⟨w.heap.size, 64, none⟩) 1 1)).run Tryd.prog (w.alloc (.cells (Tryd.zeroCells119.setIfInBounds 64 (.int .u8 (c.toNat : Int))) 119)) = .ok (.string (Txt.bytes [c])) (w.alloc (.cells (Tryd.zeroCells119.setIfInBounds 64 (.int .u8 (c.toNat : Int))) 119)) := by
  refine conv_cells _ _ 64 1 [c] fun i hi => ?_
  have : i = 0 := by simpa using hi
  subst this
  have h := new_at w (Tryd.zeroCells119.setIfInBounds 64 (.int .u8 (c.toNat : Int))) 119 w.heap.size 64 rfl
  rw [show ((⟨w.heap.size, 0, none⟩ : Addr).add 64) = ⟨w.heap.size, 64 + 0, none⟩ by unfold Addr.add; rw [if_neg (by omega)]] at h
  rw [h, Array.getElem?_setIfInBounds_self_of_lt (by rw [zc_size]; omega)]; rfl
theorem conv_two (w : World) (c d : UInt8) : (convert 53 9 (.slice (some ⟨w.heap.size, 63, none⟩) 2 2)).run Tryd.prog (w.alloc (.cells ((Tryd.zeroCells119.setIfInBounds 64 (.int .u8 (c.toNat : Int))).setIfInBounds 63 (.int .u8 (d.toNat : Int))) 119)) = .ok (.string (Txt.bytes [d, c])) (w.alloc (.cells ((Tryd.zeroCells119.setIfInBounds 64 (.int .u8 (c.toNat : Int))).setIfInBounds 63 (.int .u8 (d.toNat : Int))) 119)) := by
  refine conv_cells _ _ 63 2 [d, c] fun i hi => ?_
  have h63 := new_at w ((Tryd.zeroCells119.setIfInBounds 64 (.int .u8 (c.toNat : Int))).setIfInBounds 63 (.int .u8 (d.toNat : Int))) 119 w.heap.size 63 rfl
  have h64 := new_at w ((Tryd.zeroCells119.setIfInBounds 64 (.int .u8 (c.toNat : Int))).setIfInBounds 63 (.int .u8 (d.toNat : Int))) 119 w.heap.size 64 rfl
  rw [show ((⟨w.heap.size, 0, none⟩ : Addr).add 64) = ⟨w.heap.size, 64, none⟩ by unfold Addr.add; rw [if_neg (by omega)]] at h64
  rw [show ((⟨w.heap.size, 0, none⟩ : Addr).add 63) = ⟨w.heap.size, 63, none⟩ by unfold Addr.add; rw [if_neg (by omega)]] at h63
  rw [Array.getElem?_setIfInBounds_self_of_lt (by rw [Array.size_setIfInBounds, zc_size]; omega)] at h63
  rw [Array.getElem?_setIfInBounds_ne (by omega), Array.getElem?_setIfInBounds_self_of_lt (by rw [zc_size]; omega)] at h64
  match i, hi with
  | 0, _ => exact h63
  | 1, _ => exact h64

set_option maxHeartbeats 1000000 in
set_option maxRecDepth 100000 in
theorem bits_one (r : Nat) (w : World) (ht : Tabs w) (hr : r < 16) : Calls Tryd.prog 72 #[.slice none 0 0, .int .u64 (r : Int), .int .i64 16, .bool false, .bool false] w fun e w' => e = .returned (.tuple #[.slice none 0 0, .string (Txt.bytes (hexT r))]) ∧ Below w.heap.size w w' := by
  have HT := Lib.hid ht; clear ht
  have hx : hexT r = [hexd r] := by unfold hexT; rw [if_pos hr]
  rw [hx, ← digs_hex ⟨r, hr⟩]
  clear hx
  have hc := conv_one w
  have hn : decide ((16 : Int) ≤ (r : Int)) = false := by simp; omega
  go_enter Tryd.func72, Tryd.ntmps72
  go_wp2_with (first | (go_at_call 85; refine (pow2_16 _).mono ?_; rintro e w' ⟨rfl, rfl⟩) | (go_at_call 86; refine (tz_16 _ (HT.out.alloc _)).mono ?_; rintro e w' ⟨rfl, rfl⟩))
  refine wp_loop_rounds 1 ?_
  rw [rounds_succ]
  go_wp2
  go_ret2
  exact ⟨rfl, (Below.refl _ _).alloc (Nat.le_refl _) _⟩
set_option maxHeartbeats 1000000 in
set_option maxRecDepth 100000 in
theorem bits_two (r : Nat) (w : World) (ht : Tabs w) (h16 : 16 ≤ r) (hr : r < 160) : Calls Tryd.prog 72 #[.slice none 0 0, .int .u64 (r : Int), .int .i64 16, .bool false, .bool false] w fun e w' => e = .returned (.tuple #[.slice none 0 0, .string (Txt.bytes (hexT r))]) ∧ Below w.heap.size w w' := by
  have HT := Lib.hid ht; clear ht
  have hx : hexT r = [hexd (r / 16), hexd (r % 16)] := by unfold hexT; rw [if_neg (by omega)]
  rw [hx, ← digs_hex ⟨r / 16, by omega⟩, ← digs_hex ⟨r % 16, by omega⟩]
  clear hx
  have hc := conv_two w
  have hn : decide ((16 : Int) ≤ (r : Int)) = true := by simp; omega
  have hn2 : decide ((16 : Int) ≤ (r : Int) / 16) = false := by simp; omega
  have ha : bits BinOp.and IntKind.u64 (r : Int) 15 = ((r % 16 : Nat) : Int) := by
    have := bits_and_u64_nat r 15 (by omega) (by omega)
    rw [show r &&& 15 = r % 16 from Nat.and_two_pow_sub_one_eq_mod r 4] at this
    exact this
  go_enter Tryd.func72, Tryd.ntmps72
  go_wp2_with (first | (go_at_call 85; refine (pow2_16 _).mono ?_; rintro e w' ⟨rfl, rfl⟩) | (go_at_call 86; refine (tz_16 _ (HT.out.alloc _)).mono ?_; rintro e w' ⟨rfl, rfl⟩))
  refine wp_loop_rounds 2 ?_
  rw [rounds_succ]
  go_wp2
  rw [rounds_succ]
  go_wp2
  go_ret2
  exact ⟨rfl, (Below.refl _ _).alloc (Nat.le_refl _) _⟩
end Go.Proofs.YtebdikbngnolbaaDoor

namespace Go.Proofs.YtebdikbngnolbaaDoor
open Go.RowKit Txt
set_option linter.unusedVariables false
set_option linter.unusedSimpArgs false

set_option maxHeartbeats 1000000 in
set_option maxRecDepth 100000 in
theorem writeString_calls (T n b o : Nat) (hB : Bt T n o) (l : List UInt8) (s : ByteArray) (w : World) (h : Bu T n b o l w) (hl : l.length ≤ 1099511627776) (hs : s.size ≤ 1099511627776) (hs0 : s.size ≠ 0) :
    Calls Tryd.prog 60 #[.pointer (some ⟨b, o, none⟩), .string s] w fun e w' => (∃ k : Int, e = .returned (.tuple #[.int .i64 k, .nilIface])) ∧ Bu T n b o (l ++ s.data.toList) w' ∧ Bw b o w w' := by
  obtain ⟨i0, hi, hz0, hz1, hz2⟩ := info_parts info_u8
  have HH := Lib.hid h; clear h
  have HS0 := Lib.hid hs0; clear hs0
  go_enter Tryd.func60, Tryd.ntmps60
  go_wp2_with fail
  refine (copyCheck_calls T n b o hB l w HH.out).mono ?_
  rintro e w1 ⟨rfl, hb1, hw1, -⟩
  have HB1 := Lib.hid hb1
  have HW1 := Lib.hid hw1; clear hw1
  obtain ⟨v, hv, hown, -⟩ := hb1.v
  have HO := Lib.hid hown; clear hown
  have f1 := hb1.f1
  have hlt := hb1.lt
  clear hb1
  go_wp2_with (at_builtin; refine Lib.wpList_append_own_stringF _ rfl _ _ 53 9 rfl (b + 1) 5 i0 Tryd.underlying53 Tryd.underlying9 hi hz0 hz1 hz2 _ _ _ rfl HO.out s rfl ?c3 ?c4 ?c5 ?_)
  case c3 => unfold maxLen; omega
  case c4 => omega
  case c5 => omega
  intro v' w2 hown' hgrow _
  have hsc : Lib.strCells s = Lib.byteCells s.data.toList := rfl
  have hsl : s.data.toList.length = s.size := by simp
  have hput := HB1.out.put (l' := l ++ s.data.toList) (v := v) (v' := v') (ro := v.ownBlock) (fun g hg => ownsRowF_kind' HO.out g hg) hgrow (by rw [byteCells_append, List.length_append, ← hsc, hsl]; exact hown') (by intro e; have e2 := (List.append_eq_nil_iff.1 e).2; exact HS0.out (by have := congrArg List.length e2; simpa using this))
  obtain ⟨A', n', c', rfl⟩ : ∃ A n c, v' = .slice A n c := by
    obtain ⟨-, ⟨rfl, -⟩ | ⟨g, cap, cur, fz, rfl, -⟩⟩ := hown' <;> exact ⟨_, _, _, rfl⟩
  have HP := Lib.hid hput; clear hput hown' hgrow hsc hsl
  have f1' : w2.frozen? ⟨b, o + 1, none⟩ = false := (World.frozen?_of_block (w := w1) HP.out.2.2.2).trans f1
  have hv' : w2.cell? ⟨b, o + 1, none⟩ = some v := (World.cell?_of_block (w := w1) HP.out.2.2.2).trans hv
  go_wp2
  go_ret2
  exact ⟨⟨_, rfl⟩, HP.out.1, HW1.out.trans HP.out.2.1⟩

set_option maxHeartbeats 1000000 in
set_option maxRecDepth 100000 in
theorem formatInt16 (r : Nat) (w : World) (ht : Tabs w) (hr : r < 160) : Calls Tryd.prog 40 #[.int .i64 (r : Int), .int .i64 16] w fun e w' => e = .returned (.string (Txt.bytes (hexT r))) ∧ Below w.heap.size w w' := by
  have HT := Lib.hid ht; clear ht
  have key : Calls Tryd.prog 55 #[.int .i64 (r : Int), .int .i64 16] w fun e w' => e = .returned (.string (Txt.bytes (hexT r))) ∧ Below w.heap.size w w' := by
    have hbits : Calls Tryd.prog 72 #[.slice none 0 0, .int .u64 (r : Int), .int .i64 16, .bool false, .bool false] w fun e w' => e = .returned (.tuple #[.slice none 0 0, .string (Txt.bytes (hexT r))]) ∧ Below w.heap.size w w' := by
      by_cases h : r < 16
      · exact bits_one r w HT.out h
      · exact bits_two r w HT.out (by omega) hr
    have HB := Lib.hid hbits; clear hbits
    have hn : decide ((r : Int) < 0) = false := by simp
    go_enter Tryd.func55, Tryd.ntmps55
    go_wp2_with (go_at_call 72; refine (HB.out).mono ?_; rintro e w' ⟨rfl, hb⟩)
    go_ret
    exact ⟨rfl, hb⟩
  have HK := Lib.hid key; clear key
  go_enter Tryd.func40, Tryd.ntmps40
  go_wp2_with (go_at_call 55; refine (HK.out).mono ?_; rintro e w' ⟨rfl, hb⟩)
  go_ret
  exact ⟨rfl, hb⟩

theorem bare_calls (s : ByteArray) (t : Bool) (w : World) (hs : s.size ≤ 255) (h : bare s = t) : Calls Tryd.prog 56 #[.string s] w fun e w' => e = .returned (.bool t) ∧ ∃ n, w' = w.drewN n := by
  unfold bare at h
  have hlt : decide (s.size ≤ 255) = true := by simpa using hs
  rw [hlt, Bool.and_true] at h
  have h255 : decide ((s.size : Int) ≤ 255) = true := by simp; omega
  by_cases h0 : s.size = 0
  · have e : s = .empty := by
      apply ByteArray.ext; apply Array.eq_empty_of_size_eq_zero; exact h0
    subst e
    have ht : t = false := by rw [← h]; rfl
    subst ht
    clear h hlt h0
    go_enter Tryd.func56, Tryd.ntmps56
    go_wp2
    go_ret
    exact ⟨rfl, 0, rfl⟩
  · have hne : s.toList ≠ [] := by
      intro e
      apply h0
      have := congrArg List.length e
      simpa [ByteArray.toList_eq] using this
    have hd : decide (s.size ≠ 0) = true := by simpa using h0
    rw [hd, Bool.true_and] at h
    clear hd
    have hem : s.toList.isEmpty = false := by simpa using hne
    by_cases hr : runEnd s 0 = s.size
    · have hre : ((runEnd s 0 : Int) == (s.size : Int)) = true := by rw [hr]; simp
      rw [decide_eq_true hr, Bool.true_and] at h
      cases hres : reserved s.data.toList with
      | true =>
        have ht : t = false := by rw [← h, hres]; rfl
        subst ht
        have HR := Lib.hid hres
        clear h hres hr h0 hlt
        go_enter Tryd.func56, Tryd.ntmps56
        go_wp2_with (first | (go_at_call 51; refine (runF_calls s 0 _ (Nat.zero_le _) (by omega)).mono ?_; rintro e w' ⟨rfl, n, rfl⟩) | (go_at_call 52; refine (reserved_calls s true _ HR.out).mono ?_; rintro e w' ⟨rfl, rfl⟩))
        go_ret
        exact ⟨rfl, _, rfl⟩
      | false =>
        have ht : t = true := by rw [← h, hres]; rfl
        subst ht
        have HR := Lib.hid hres
        clear h hres hr h0 hlt
        go_enter Tryd.func56, Tryd.ntmps56
        go_wp2_with (first | (go_at_call 51; refine (runF_calls s 0 _ (Nat.zero_le _) (by omega)).mono ?_; rintro e w' ⟨rfl, n, rfl⟩) | (go_at_call 52; refine (reserved_calls s false _ HR.out).mono ?_; rintro e w' ⟨rfl, rfl⟩))
        go_ret
        exact ⟨rfl, _, rfl⟩
    · have hre : ((runEnd s 0 : Int) == (s.size : Int)) = false := by rw [beq_eq_false_iff_ne]; omega
      have ht : t = false := by rw [← h, decide_eq_false hr]; rfl
      subst ht
      clear h hr h0 hlt
      go_enter Tryd.func56, Tryd.ntmps56
      go_wp2_with (go_at_call 51; refine (runF_calls s 0 _ (Nat.zero_le _) (by omega)).mono ?_; rintro e w' ⟨rfl, n, rfl⟩)
      go_ret
      exact ⟨rfl, _, rfl⟩
end Go.Proofs.YtebdikbngnolbaaDoor
