/- Walks: strconv.FormatInt of a small number at base 16. -/
import Derived.Test.YtejpdfenejbjdaaGreatDoorCells
import Derived.Test.YtejpdfenejbjdaaGreatDoorPModel
import Derived.Outline
import Derived.Test.YtejpdfenejbjdaaGreatDoorAtomE
import Derived.Test.YtejpdfenejbjdaaGreatDoorRd3
import Derived.OwnWalk
namespace Go.Proofs.YtejpdfenejbjdaaGreatDoor
open Go.RowKit Txt
set_option linter.unusedVariables false
set_option linter.unusedSimpArgs false

theorem pow2_16 (w : World) : Calls Tryz.prog 154 #[.int .i64 16] w fun e w' => e = .returned (.bool true) ∧ w' = w := by
  have h : bits BinOp.and IntKind.i64 16 15 = 0 := by decide
  go_enter Tryz.func154, Tryz.ntmps154
  go_wp2
  go_ret
  exact ⟨rfl, rfl⟩
set_option maxHeartbeats 400000 in
theorem tz64_16 (w : World) (ht : Tabs w) : Calls Tryz.prog 201 #[.int .u64 16] w fun e w' => e = .returned (.int .i64 4) ∧ w' = w := by
  have hb := ht.bru
  have HT := Lib.hid ht; clear ht
  have h0 : ((16 : Int) == 0) = false := rfl
  have hz : IntKind.u64.wrap (bits BinOp.and IntKind.u64 16 (IntKind.u64.wrap (-16)) * 285870213051353865) / 288230376151711744 = 15 := by decide
  go_enter Tryz.func201, Tryz.ntmps201
  go_wp2
  go_ret
  exact ⟨rfl, rfl⟩
theorem tz_16 (w : World) (ht : Tabs w) : Calls Tryz.prog 155 #[.int .u64 16] w fun e w' => e = .returned (.int .i64 4) ∧ w' = w := by
  have HT := Lib.hid ht; clear ht
  go_enter Tryz.func155, Tryz.ntmps155
  go_wp2_with (go_at_call 201; refine (tz64_16 _ HT.out).mono ?_; rintro e w' ⟨rfl, rfl⟩)
  go_ret
  exact ⟨rfl, rfl⟩

/-- The array of digits, written from behind. -/
theorem zc_size : Tryz.zeroCells172.size = 65 := by kernel_rfl
def digs : ByteArray := { data := #[48, 49, 50, 51, 52, 53, 54, 55, 56, 57, 97, 98, 99, 100, 101, 102, 103, 104, 105, 106, 107, 108, 109, 110, 111, 112, 113, 114, 115, 116, 117, 118, 119, 120, 121, 122] }
theorem digs_hex : ∀ (r : Fin 16), digs[r.1]'(Nat.lt_trans r.2 (by decide)) = hexd r.1 := by decide
theorem conv_one (w : World) (c : UInt8) : (convert 91 9 (.slice (some ⟨w.heap.size, 64, none⟩) 1 1)).run Tryz.prog (w.alloc (.cells (Tryz.zeroCells172.setIfInBounds 64 (.int .u8 (c.toNat : Int))) 172)) = .ok (.string (Txt.bytes [c])) (w.alloc (.cells (Tryz.zeroCells172.setIfInBounds 64 (.int .u8 (c.toNat : Int))) 172)) := by
  refine conv_cells _ _ 64 1 [c] fun i hi => ?_
  have : i = 0 := by simpa using hi
  subst this
  have h := new_at w (Tryz.zeroCells172.setIfInBounds 64 (.int .u8 (c.toNat : Int))) 172 w.heap.size 64 rfl
  rw [show ((⟨w.heap.size, 0, none⟩ : Addr).add 64) = ⟨w.heap.size, 64 + 0, none⟩ by unfold Addr.add; rw [if_neg (by omega)]] at h
  rw [h, Array.getElem?_setIfInBounds_self_of_lt (by rw [zc_size]; omega)]; rfl
theorem conv_two (w : World) (c d : UInt8) : (convert 91 9 (.slice (some ⟨w.heap.size, 63, none⟩) 2 2)).run Tryz.prog (w.alloc (.cells ((Tryz.zeroCells172.setIfInBounds 64 (.int .u8 (c.toNat : Int))).setIfInBounds 63 (.int .u8 (d.toNat : Int))) 172)) = .ok (.string (Txt.bytes [d, c])) (w.alloc (.cells ((Tryz.zeroCells172.setIfInBounds 64 (.int .u8 (c.toNat : Int))).setIfInBounds 63 (.int .u8 (d.toNat : Int))) 172)) := by
  refine conv_cells _ _ 63 2 [d, c] fun i hi => ?_
  have h63 := new_at w ((Tryz.zeroCells172.setIfInBounds 64 (.int .u8 (c.toNat : Int))).setIfInBounds 63 (.int .u8 (d.toNat : Int))) 172 w.heap.size 63 rfl
  have h64 := new_at w ((Tryz.zeroCells172.setIfInBounds 64 (.int .u8 (c.toNat : Int))).setIfInBounds 63 (.int .u8 (d.toNat : Int))) 172 w.heap.size 64 rfl
  rw [show ((⟨w.heap.size, 0, none⟩ : Addr).add 64) = ⟨w.heap.size, 64, none⟩ by unfold Addr.add; rw [if_neg (by omega)]] at h64
  rw [show ((⟨w.heap.size, 0, none⟩ : Addr).add 63) = ⟨w.heap.size, 63, none⟩ by unfold Addr.add; rw [if_neg (by omega)]] at h63
  rw [Array.getElem?_setIfInBounds_self_of_lt (by rw [Array.size_setIfInBounds, zc_size]; omega)] at h63
  rw [Array.getElem?_setIfInBounds_ne (by omega), Array.getElem?_setIfInBounds_self_of_lt (by rw [zc_size]; omega)] at h64
  match i, hi with
  | 0, _ => exact h63
  | 1, _ => exact h64

set_option maxHeartbeats 1000000 in
set_option maxRecDepth 100000 in
theorem bits_one (r : Nat) (w : World) (ht : Tabs w) (hr : r < 16) : Calls Tryz.prog 107 #[.slice none 0 0, .int .u64 (r : Int), .int .i64 16, .bool false, .bool false] w fun e w' => e = .returned (.tuple #[.slice none 0 0, .string (Txt.bytes (hexT r))]) ∧ Below w.heap.size w w' := by
  have HT := Lib.hid ht; clear ht
  have hx : hexT r = [hexd r] := by unfold hexT; rw [if_pos hr]
  rw [hx, ← digs_hex ⟨r, hr⟩]
  clear hx
  have hc := conv_one w
  have hn : decide ((16 : Int) ≤ (r : Int)) = false := by simp; omega
  go_enter Tryz.func107, Tryz.ntmps107
  go_wp2_with (first | (go_at_call 154; refine (pow2_16 _).mono ?_; rintro e w' ⟨rfl, rfl⟩) | (go_at_call 155; refine (tz_16 _ (HT.out.alloc _)).mono ?_; rintro e w' ⟨rfl, rfl⟩))
  refine wp_loop_rounds 1 ?_
  rw [rounds_succ]
  go_wp2
  go_ret2
  exact ⟨rfl, (Below.refl _ _).alloc (Nat.le_refl _) _⟩
set_option maxHeartbeats 1000000 in
set_option maxRecDepth 100000 in
theorem bits_two (r : Nat) (w : World) (ht : Tabs w) (h16 : 16 ≤ r) (hr : r < 160) : Calls Tryz.prog 107 #[.slice none 0 0, .int .u64 (r : Int), .int .i64 16, .bool false, .bool false] w fun e w' => e = .returned (.tuple #[.slice none 0 0, .string (Txt.bytes (hexT r))]) ∧ Below w.heap.size w w' := by
  have HT := Lib.hid ht; clear ht
  have hx : hexT r = [hexd (r / 16), hexd (r % 16)] := by unfold hexT; rw [if_neg (by omega)]
  rw [hx, ← digs_hex ⟨r / 16, by omega⟩, ← digs_hex ⟨r % 16, by omega⟩]
  clear hx
  have hc := conv_two w
  have hn : decide ((16 : Int) ≤ (r : Int)) = true := by simp; omega
  have hn2 : decide ((16 : Int) ≤ (r : Int) / 16) = false := by simp; omega
  have ha : bits BinOp.and IntKind.u64 (r : Int) 15 = ((r % 16 : Nat) : Int) := by
    have := bits_and_u64_nat r 15 (by omega) (by omega)
    rw [show r &&& 15 = r % 16 from Nat.and_two_pow_sub_one_eq_mod r 4] at this
    exact this
  go_enter Tryz.func107, Tryz.ntmps107
  go_wp2_with (first | (go_at_call 154; refine (pow2_16 _).mono ?_; rintro e w' ⟨rfl, rfl⟩) | (go_at_call 155; refine (tz_16 _ (HT.out.alloc _)).mono ?_; rintro e w' ⟨rfl, rfl⟩))
  refine wp_loop_rounds 2 ?_
  rw [rounds_succ]
  go_wp2
  rw [rounds_succ]
  go_wp2
  go_ret2
  exact ⟨rfl, (Below.refl _ _).alloc (Nat.le_refl _) _⟩
end Go.Proofs.YtejpdfenejbjdaaGreatDoor

namespace Go.Proofs.YtejpdfenejbjdaaGreatDoor
open Go.RowKit Txt
set_option linter.unusedVariables false
set_option linter.unusedSimpArgs false

set_option maxHeartbeats 1000000 in
set_option maxRecDepth 100000 in
theorem writeString_calls (T n b o : Nat) (hB : Bt T n o) (l : List UInt8) (s : ByteArray) (w : World) (h : Bu T n b o l w) (hl : l.length ≤ 1099511627776) (hs : s.size ≤ 1099511627776) (hs0 : s.size ≠ 0) :
    Calls Tryz.prog 82 #[.pointer (some ⟨b, o, none⟩), .string s] w fun e w' => (∃ k : Int, e = .returned (.tuple #[.int .i64 k, .nilIface])) ∧ Bu T n b o (l ++ s.data.toList) w' ∧ Bw b o w w' := by
  obtain ⟨i0, hi, hz0, hz1, hz2⟩ := info_parts info_u8
  have HH := Lib.hid h; clear h
  have HS0 := Lib.hid hs0; clear hs0
  go_enter Tryz.func82, Tryz.ntmps82
  go_wp2_with fail
  refine (copyCheck_calls T n b o hB l w HH.out).mono ?_
  rintro e w1 ⟨rfl, hb1, hw1, -⟩
  have HB1 := Lib.hid hb1
  have HW1 := Lib.hid hw1; clear hw1
  obtain ⟨v, hv, hown, -⟩ := hb1.v
  have HO := Lib.hid hown; clear hown
  have f1 := hb1.f1
  have hlt := hb1.lt
  clear hb1
  go_wp2_with (at_builtin; refine Lib.wpList_append_own_stringF _ rfl _ _ 91 9 rfl (b + 1) 5 i0 Tryz.underlying91 Tryz.underlying9 hi hz0 hz1 hz2 _ _ _ rfl HO.out s rfl ?c3 ?c4 ?c5 ?_)
  case c3 => unfold maxLen; omega
  case c4 => omega
  case c5 => omega
  intro v' w2 hown' hgrow _
  have hsc : Lib.strCells s = Lib.byteCells s.data.toList := rfl
  have hsl : s.data.toList.length = s.size := by simp
  have hput := HB1.out.put (l' := l ++ s.data.toList) (v := v) (v' := v') (ro := v.ownBlock) (fun g hg => ownsRowF_kind' HO.out g hg) hgrow (by rw [byteCells_append, List.length_append, ← hsc, hsl]; exact hown') (by intro e; have e2 := (List.append_eq_nil_iff.1 e).2; exact HS0.out (by have := congrArg List.length e2; simpa using this))
  obtain ⟨A', n', c', rfl⟩ : ∃ A n c, v' = .slice A n c := by
    obtain ⟨-, ⟨rfl, -⟩ | ⟨g, cap, cur, fz, rfl, -⟩⟩ := hown' <;> exact ⟨_, _, _, rfl⟩
  have HP := Lib.hid hput; clear hput hown' hgrow hsc hsl
  have f1' : w2.frozen? ⟨b, o + 1, none⟩ = false := (World.frozen?_of_block (w := w1) HP.out.2.2.2).trans f1
  have hv' : w2.cell? ⟨b, o + 1, none⟩ = some v := (World.cell?_of_block (w := w1) HP.out.2.2.2).trans hv
  go_wp2
  go_ret2
  exact ⟨⟨_, rfl⟩, HP.out.1, HW1.out.trans HP.out.2.1⟩

set_option maxHeartbeats 1000000 in
set_option maxRecDepth 100000 in
theorem formatInt16 (r : Nat) (w : World) (ht : Tabs w) (hr : r < 160) : Calls Tryz.prog 47 #[.int .i64 (r : Int), .int .i64 16] w fun e w' => e = .returned (.string (Txt.bytes (hexT r))) ∧ Below w.heap.size w w' := by
  have HT := Lib.hid ht; clear ht
  have key : Calls Tryz.prog 77 #[.int .i64 (r : Int), .int .i64 16] w fun e w' => e = .returned (.string (Txt.bytes (hexT r))) ∧ Below w.heap.size w w' := by
    have hbits : Calls Tryz.prog 107 #[.slice none 0 0, .int .u64 (r : Int), .int .i64 16, .bool false, .bool false] w fun e w' => e = .returned (.tuple #[.slice none 0 0, .string (Txt.bytes (hexT r))]) ∧ Below w.heap.size w w' := by
      by_cases h : r < 16
      · exact bits_one r w HT.out h
      · exact bits_two r w HT.out (by omega) hr
    have HB := Lib.hid hbits; clear hbits
    have hn : decide ((r : Int) < 0) = false := by simp
    go_enter Tryz.func77, Tryz.ntmps77
    go_wp2_with (go_at_call 107; refine (HB.out).mono ?_; rintro e w' ⟨rfl, hb⟩)
    go_ret
    exact ⟨rfl, hb⟩
  have HK := Lib.hid key; clear key
  go_enter Tryz.func47, Tryz.ntmps47
  go_wp2_with (go_at_call 77; refine (HK.out).mono ?_; rintro e w' ⟨rfl, hb⟩)
  go_ret
  exact ⟨rfl, hb⟩

theorem bare_calls (s : ByteArray) (t : Bool) (w : World) (hs : s.size ≤ 255) (h : bare s = t) : Calls Tryz.prog 158 #[.string s] w fun e w' => e = .returned (.bool t) ∧ ∃ n, w' = w.drewN n := by
  unfold bare at h
  have hlt : decide (s.size ≤ 255) = true := by simpa using hs
  rw [hlt, Bool.and_true] at h
  have h255 : decide ((s.size : Int) ≤ 255) = true := by simp; omega
  by_cases h0 : s.size = 0
  · have e : s = .empty := by
      apply ByteArray.ext; apply Array.eq_empty_of_size_eq_zero; exact h0
    subst e
    have ht : t = false := by rw [← h]; rfl
    subst ht
    clear h hlt h0
    go_enter Tryz.func158, Tryz.ntmps158
    go_wp2
    go_ret
    exact ⟨rfl, 0, rfl⟩
  · have hne : s.toList ≠ [] := by
      intro e
      apply h0
      have := congrArg List.length e
      simpa [ByteArray.toList_eq] using this
    have hd : decide (s.size ≠ 0) = true := by simpa using h0
    rw [hd, Bool.true_and] at h
    clear hd
    have hem : s.toList.isEmpty = false := by simpa using hne
    by_cases hr : runEnd s 0 = s.size
    · have hre : ((runEnd s 0 : Int) == (s.size : Int)) = true := by rw [hr]; simp
      rw [decide_eq_true hr, Bool.true_and] at h
      cases hres : reserved s.data.toList with
      | true =>
        have ht : t = false := by rw [← h, hres]; rfl
        subst ht
        have HR := Lib.hid hres
        clear h hres hr h0 hlt
        go_enter Tryz.func158, Tryz.ntmps158
        go_wp2_with (first | (go_at_call 192; refine (runF_calls s 0 _ (Nat.zero_le _) (by omega)).mono ?_; rintro e w' ⟨rfl, n, rfl⟩) | (go_at_call 193; refine (reserved_calls s true _ HR.out).mono ?_; rintro e w' ⟨rfl, rfl⟩))
        go_ret
        exact ⟨rfl, _, rfl⟩
      | false =>
        have ht : t = true := by rw [← h, hres]; rfl
        subst ht
        have HR := Lib.hid hres
        clear h hres hr h0 hlt
        go_enter Tryz.func158, Tryz.ntmps158
        go_wp2_with (first | (go_at_call 192; refine (runF_calls s 0 _ (Nat.zero_le _) (by omega)).mono ?_; rintro e w' ⟨rfl, n, rfl⟩) | (go_at_call 193; refine (reserved_calls s false _ HR.out).mono ?_; rintro e w' ⟨rfl, rfl⟩))
        go_ret
        exact ⟨rfl, _, rfl⟩
    · have hre : ((runEnd s 0 : Int) == (s.size : Int)) = false := by rw [beq_eq_false_iff_ne]; omega
      have ht : t = false := by rw [← h, decide_eq_false hr]; rfl
      subst ht
      clear h hr h0 hlt
      go_enter Tryz.func158, Tryz.ntmps158
      go_wp2_with (go_at_call 192; refine (runF_calls s 0 _ (Nat.zero_le _) (by omega)).mono ?_; rintro e w' ⟨rfl, n, rfl⟩)
      go_ret
      exact ⟨rfl, _, rfl⟩
end Go.Proofs.YtejpdfenejbjdaaGreatDoor

namespace Go.Proofs.YtejpdfenejbjdaaGreatDoor
open Go.RowKit Txt
set_option linter.unusedVariables false
set_option linter.unusedSimpArgs false

theorem bt_own : Bt 113 2 0 := ⟨by kernel_rfl, by decide⟩
theorem Bw.of_mem {b o : Nat} {w w' : World} (h : Below w.heap.size w w') (hb : b < w.heap.size) : Bw b o w w' :=
  .of_block (h.mono (Nat.le_of_lt hb)) (fun k x hk _ _ => (h.block k (by rcases Nat.lt_or_ge k w.heap.size with h' | h'; exact h'; rw [Array.getElem?_eq_none h'] at hk; cases hk)).trans hk) (h.block b hb)
theorem Bu.iterAt {T n b o : Nat} {l : List UInt8} {w : World} {it : Nat} {s : ByteArray} {p : Nat} (h : Bu T n b o l w) (hit : w.heap[it]? = some (.stringIter s p)) (s' : ByteArray) (q : Nat) : Bu T n b o l (w.iterAt it s' q) := by
  have hne : it ≠ b := by
    rintro rfl
    have := h.shape
    simp [World.shape?, hit] at this
  have hk : (w.iterAt it s' q).heap[b]? = w.heap[b]? := Lib.iterAt_other _ _ _ _ _ (Ne.symm hne)
  obtain ⟨u, hu, ho, hn⟩ := h.v
  refine ⟨by rw [Lib.iterAt_size]; exact h.lt, (shape_block hk).trans h.shape, by rw [World.cell?_of_block (w := w) hk]; exact h.a0, ⟨u, (World.cell?_of_block (w := w) hk).trans hu, ownsRowF_keep ho fun g hg hv => ?_, hn⟩, (World.frozen?_of_block (w := w) hk).trans h.f0, (World.frozen?_of_block (w := w) hk).trans h.f1⟩
  refine Lib.iterAt_other _ _ _ _ _ ?_
  rintro rfl
  obtain ⟨c, fz, hc⟩ := Lib.ownsRowF_kind ho _ hv
  rw [hit] at hc; cases hc

/-- What holds while an atom's runes are written. -/
structure QR (it b : Nat) (w : World) (s : ByteArray) (P : List UInt8) (pos : Nat) (acc : List UInt8) (wr : World) : Prop where
  it : wr.heap[it]? = some (.stringIter s pos)
  bu : Bu 113 2 b 0 (39 :: acc) wr
  be : Below w.heap.size w wr
  eq : ∃ fuel, acc ++ piecesF s fuel pos = P ∧ s.size ≤ pos + fuel
  len : acc.length ≤ 6 * pos
  pos : pos ≤ s.size
theorem Bu.below {T n b o : Nat} {l : List UInt8} {w w' : World} (h : Bu T n b o l w) (hb : Below w.heap.size w w') : Bu T n b o l w' := by
  have hk := hb.block b h.lt
  obtain ⟨u, hu, ho, hn⟩ := h.v
  refine ⟨Nat.lt_of_lt_of_le h.lt hb.size, (shape_block hk).trans h.shape, by rw [World.cell?_of_block (w := w) hk]; exact h.a0, ⟨u, (World.cell?_of_block (w := w) hk).trans hu, ownsRowF_keep ho fun g hg hv => ?_, hn⟩, (World.frozen?_of_block (w := w) hk).trans h.f0, (World.frozen?_of_block (w := w) hk).trans h.f1⟩
  obtain ⟨c, fz, hc⟩ := Lib.ownsRowF_kind ho _ hv
  exact hb.block g (Array.getElem?_eq_some_iff.1 hc).1
theorem escape_lt (r : Nat) : escape r < 256 := by
  unfold escape
  repeat' split
  all_goals decide
theorem hexT_len (r : Nat) : (hexT r).length ≤ 2 := by
  unfold hexT; split
  · exact Nat.le_succ 1
  · exact Nat.le_refl 2
theorem piece_len (r : Nat) : (piece r).length ≤ 6 := by
  unfold piece
  have h1 := encode_le r
  have h2 := hexT_len r
  split
  · rw [List.length_cons]; omega
  · split
    · rw [List.length_cons, List.length_cons, List.length_nil]; omega
    · split
      · rw [List.length_append, List.length_append, List.length_cons, List.length_cons, List.length_cons, List.length_cons, List.length_nil]; omega
      · omega
theorem QR.step {it b : Nat} {w : World} {s : ByteArray} {P : List UInt8} {pos : Nat} {acc : List UInt8} {wr : World} (h : QR it b w s P pos acc wr) (hp : pos < s.size) (hw : w.heap.size ≤ b) (hbit : b < it) :
    Bu 113 2 b 0 (39 :: acc) (wr.iterAt it s (pos + (Utf8.decode s pos).2)) ∧ Below w.heap.size w (wr.iterAt it s (pos + (Utf8.decode s pos).2)) ∧
    (∀ w2, Bu 113 2 b 0 (39 :: (acc ++ piece (Utf8.decode s pos).1)) w2 → Bw b 0 (wr.iterAt it s (pos + (Utf8.decode s pos).2)) w2 → QR it b w s P (pos + (Utf8.decode s pos).2) (acc ++ piece (Utf8.decode s pos).1) w2) := by
  have hbu := h.bu.iterAt h.it s (pos + (Utf8.decode s pos).2)
  have hbe := Lib.below_iterAt h.be (show w.heap.size ≤ it by omega) s (pos + (Utf8.decode s pos).2)
  have hit := Lib.iterAt_heap wr it s pos (pos + (Utf8.decode s pos).2) h.it
  refine ⟨hbu, hbe, fun w2 h2 hbw => ?_⟩
  obtain ⟨fuel, he, hf⟩ := h.eq
  have hwp := width_pos s pos hp
  have hpl := piece_len (Utf8.decode s pos).1
  have hlen := h.len
  refine ⟨hbw.others it _ hit (by intro e; cases e; omega) (by intro c fz e; cases e), h2, hbe.trans (hbw.below.mono hw), ?_, by simp only [List.length_append]; omega, decode_in s pos hp⟩
  obtain ⟨fuel, rfl⟩ : ∃ f, fuel = f + 1 := ⟨fuel - 1, by omega⟩
  rw [piecesF, if_pos hp] at he
  exact ⟨fuel, by rw [List.append_assoc]; exact he, by omega⟩
theorem QR.over {it b : Nat} {w : World} {s : ByteArray} {P : List UInt8} {pos : Nat} {acc : List UInt8} {wr : World} (h : QR it b w s P pos acc wr) (hp : ¬ pos < s.size) : acc = P := by
  obtain ⟨fuel, he, hf⟩ := h.eq
  cases fuel with
  | zero => simpa [piecesF] using he
  | succ f => rw [piecesF, if_neg hp] at he; simpa using he

set_option maxHeartbeats 4000000 in
set_option maxRecDepth 100000 in
theorem quote_calls (s : ByteArray) (w : World) (hs : s.size ≤ 140737488355328) (ht : Tabs w) :
    Calls Tryz.prog 110 #[.string s] w fun e w' => e = .returned (.tuple #[.string (Txt.bytes (quote s).1), .int .i64 (quote s).2]) ∧ Below w.heap.size w w' := by
  have HT := Lib.hid ht; clear ht
  cases hok : atomOk s with
  | false =>
    have hq : quote s = ([], 20) := by unfold quote; rw [hok]; rfl
    rw [hq]
    have HOK := Lib.hid hok; clear hok hq
    go_enter Tryz.func110, Tryz.ntmps110
    go_wp2_with (go_at_call 157; refine (atomRight_calls s false _ hs HT.out HOK.out).mono ?_; rintro e w' ⟨rfl, hb⟩)
    go_ret2
    exact ⟨rfl, hb⟩
  | true =>
    have h255 : s.size ≤ 255 := by
      simp only [atomOk, Bool.and_eq_true, decide_eq_true_eq] at hok
      exact hok.1
    have hbb : Txt.bytes s.data.toList = s := by apply ByteArray.ext; simp [Txt.bytes]
    cases hba : bare s with
    | true =>
      have hq : quote s = (s.data.toList, 0) := by unfold quote; rw [hok, hba]; rfl
      rw [hq]
      simp only
      rw [hbb]
      have HOK := Lib.hid hok
      have HBA := Lib.hid hba
      clear hok hq hbb hba
      go_enter Tryz.func110, Tryz.ntmps110
      go_wp2_with (first | (go_at_call 157; refine (atomRight_calls s true _ hs HT.out HOK.out).mono ?_; rintro e w' ⟨rfl, hb⟩) | (go_at_call 158; refine (bare_calls s true _ h255 HBA.out).mono ?_; rintro e w' ⟨rfl, n, rfl⟩))
      go_ret2
      exact ⟨rfl, below_drewN hb _⟩
    | false =>
      have hq : quote s = (39 :: (piecesF s s.size 0 ++ [39]), 0) := by unfold quote; rw [hok, hba]; rfl
      rw [hq]
      simp only
      have HOK := Lib.hid hok
      have HBA := Lib.hid hba
      clear hok hq hbb hba
      go_enter Tryz.func110, Tryz.ntmps110
      go_wp2_with fail
      refine (atomRight_calls s true _ hs HT.out HOK.out).mono ?_
      rintro e w1 ⟨rfl, hb1⟩
      have HB1 := Lib.hid hb1; clear hb1
      go_wp2_with fail
      refine (bare_calls s false _ h255 HBA.out).mono ?_
      rintro e w' ⟨rfl, n, rfl⟩
      have HB2 := Lib.hid (below_drewN HB1.out n)
      generalize w1.drewN n = w2 at *
      clear HB1
      have hbu : Bu 113 2 w2.heap.size 0 [] (w2.alloc (.cells #[.pointer none, .slice none 0 0] 113)) := by
        refine ⟨by simp, by simp only [World.shape?, heap_alloc_new]; rfl, .inl (by simp only [World.cell?, heap_alloc_new]; rfl), ⟨.slice none 0 0, by simp only [World.cell?, heap_alloc_new]; rfl, ⟨by simp [Lib.byteCells], .inl ⟨rfl, rfl⟩⟩, fun _ => rfl⟩, ?_, ?_⟩
        all_goals (simp only [World.frozen?, heap_alloc_new]; rfl)
      have HBU := Lib.hid hbu; clear hbu
      go_wp2_with fail
      refine (writeByte_calls 113 2 _ 0 bt_own [] 39 _ HBU.out (by simp)).mono ?_
      rintro e w3 ⟨rfl, hb3, hbw3⟩
      have hsz2 : w.heap.size ≤ w2.heap.size := HB2.out.size
      have hlt3 := hb3.lt
      have hbe3 : Below w.heap.size w w3 := (HB2.out.alloc HB2.out.size _).trans (hbw3.below.mono hsz2)
      have HU3 := Lib.hid hb3; clear hb3
      have HE3 := Lib.hid hbe3; clear hbe3 hbw3
      have HQ0 : Hid (QR w3.heap.size w2.heap.size w s (piecesF s s.size 0) 0 [] (w3.alloc (.stringIter s 0))) := by
        refine Lib.hid ⟨World.iter_heap _ _ _, HU3.out.alloc _, HE3.out.alloc HE3.out.size _, ⟨s.size, by simp, by omega⟩, by simp, by omega⟩
      obtain ⟨P, hPdef⟩ : ∃ P, piecesF s s.size 0 = P := ⟨_, rfl⟩
      rw [hPdef] at HQ0
      have HPD := Lib.hid hPdef; clear hPdef
      go_wp2_with fail
      go_loopw [] (fun wr => ∃ pos acc, QR w3.heap.size w2.heap.size w s P pos acc wr) (fun wr => s.size - wr.iterPos w3.heap.size)
      case atStart => exact ⟨0, [], HQ0.out⟩
      case round =>
        obtain ⟨pos, acc, hqr⟩ := hrel
        have HR := Lib.hid hqr; clear hqr
        have hit := HR.out.it
        have hlast : (wr.iterPos w3.heap.size) = pos := by simp [World.iterPos, hit]
        have HL := Lib.hid hlast; clear hlast
        by_cases hp : pos < s.size
        · have hwd := width_pos s pos hp
          have hdin := decode_in s pos hp
          have hrl := Lib.rune_le s pos
          have hnx := fun ty => Lib.run_next_any_at (P := Tryz.prog) wr w3.heap.size s pos ty hit hp
          obtain ⟨hbu1, hbe1, hst⟩ := HR.out.step hp hsz2 hlt3
          have hpc : piece (Utf8.decode s pos).1 = piece (Utf8.decode s pos).1 := rfl
          have hal : acc.length ≤ 1530 := by have := HR.out.len; have := HR.out.pos; omega
          clear hit
          have HT1 := Lib.hid (HT.out.below hbe1)
          have HU1 := Lib.hid hbu1; clear hbu1
          have HST := Lib.hid hst; clear hst hpc hbe1
          generalize hw1e : wr.iterAt w3.heap.size s (pos + (Utf8.decode s pos).2) = v1 at *
          clear hw1e
          generalize hdc : Utf8.decode s pos = dc at *
          clear hdc
          obtain ⟨r, n⟩ := dc
          simp only at *
          have hend : ∀ w4, Bu 113 2 w2.heap.size 0 (39 :: (acc ++ piece r)) w4 → Bw w2.heap.size 0 v1 w4 → (∃ pos acc, QR w3.heap.size w2.heap.size w s P pos acc w4) ∧ s.size - w4.iterPos w3.heap.size < s.size - wr.iterPos w3.heap.size := by
            intro w4 h1 h2
            have h3 := HST.out w4 h1 h2
            refine ⟨⟨_, _, h3⟩, ?_⟩
            have := h3.it
            rw [HL.out]
            simp only [World.iterPos, this]; omega
          have HEND := Lib.hid hend; clear hend HST
          have hoe : (UInt8.ofNat (escape r)).toNat = escape r := by
            have := escape_lt r
            simp; omega
          have HOE := Lib.hid hoe; clear hoe
          by_cases c39 : r = 39 ∨ r = 92
          · have hcases : (((r : Int) == 39) = true) ∨ (((r : Int) == 39) = false ∧ ((r : Int) == 92) = true) := by rcases c39 with rfl | rfl <;> simp
            have hpc : piece r = 92 :: (Utf8.encode (r : Int)).data.toList := by unfold piece; rw [if_pos c39]
            have HP := Lib.hid hpc; clear hpc c39
            rcases hcases with h39 | ⟨h39, h92⟩
            all_goals
              go_wp2_with (go_at_call 160; refine (escape_calls r _).mono ?_; rintro e w' ⟨rfl, rfl⟩)
              refine (writeByte_calls 113 2 _ 0 bt_own (39 :: acc) 92 _ HU1.out (by simp; omega)).mono ?_
              rintro e w4 ⟨rfl, hb4, hbw4⟩
              have HU4 := Lib.hid hb4; clear hb4
              have HW4 := Lib.hid hbw4; clear hbw4
              go_wp2_with fail
              refine (writeRune_calls 113 2 _ 0 bt_own _ r (by omega) _ HU4.out (by simp; omega)).mono ?_
              rintro e w5 ⟨⟨kk, rfl⟩, hb5, hbw5⟩
              have HF := Lib.hid (HEND.out w5 (by rw [HP.out]; simpa using hb5) (HW4.out.trans hbw5)); clear hb5 hbw5
              go_wp2
              go_roundw
              case rel => exact HF.out.1
              case measure => exact HF.out.2
          · have h39 : ((r : Int) == 39) = false := by rw [beq_eq_false_iff_ne]; omega
            have h92 : ((r : Int) == 92) = false := by rw [beq_eq_false_iff_ne]; omega
            by_cases hesc : escape r ≠ 0
            · have he : ((escape r : Int) != 0) = true := by simp; omega
              have hpc : piece r = [92, UInt8.ofNat (escape r)] := by unfold piece; rw [if_neg c39, if_pos hesc]
              have HP := Lib.hid hpc; clear hpc c39 hesc
              go_wp2_with (go_at_call 160; refine (escape_calls r _).mono ?_; rintro e w' ⟨rfl, rfl⟩)
              refine (writeByte_calls 113 2 _ 0 bt_own (39 :: acc) 92 _ HU1.out (by simp; omega)).mono ?_
              rintro e w4 ⟨rfl, hb4, hbw4⟩
              have HU4 := Lib.hid hb4; clear hb4
              have HW4 := Lib.hid hbw4; clear hbw4
              go_wp2_with fail
              have hwb := writeByte_calls 113 2 _ 0 bt_own (39 :: acc ++ [92]) (UInt8.ofNat (escape r)) _ HU4.out (by simp; omega)
              rw [HOE.out] at hwb
              refine hwb.mono ?_
              clear hwb
              rintro e w5 ⟨rfl, hb5, hbw5⟩
              have HF := Lib.hid (HEND.out w5 (by rw [HP.out]; simpa using hb5) (HW4.out.trans hbw5)); clear hb5 hbw5
              go_wp2
              go_roundw
              case rel => exact HF.out.1
              case measure => exact HF.out.2
            · have he : ((escape r : Int) != 0) = false := by simp; omega
              by_cases hhex : r < 32 ∨ (128 ≤ r ∧ r < 160)
              · have hcases : decide ((r : Int) < 32) = true ∨ (decide ((r : Int) < 32) = false ∧ decide ((128 : Int) ≤ (r : Int)) = true ∧ decide ((r : Int) < 160) = true) := by
                  rcases hhex with h | h
                  · left; simp; omega
                  · by_cases h' : r < 32
                    · left; simp; omega
                    · right; simp; omega
                have hpc : piece r = [92, 120, 123] ++ hexT r ++ [125] := by unfold piece; rw [if_neg c39, if_neg hesc, if_pos hhex]
                have h160 : r < 160 := by omega
                have hlen := hexT_len r
                have hz0 : (Txt.bytes (hexT r)).size ≤ 2 := by rw [bytes_size]; exact hlen
                have hz1 : (({ data := #[92, 120, 123] } : ByteArray) ++ Txt.bytes (hexT r)).size ≤ 100 := by
                  rw [ByteArray.size_append, bytes_size, show (({ data := #[92, 120, 123] } : ByteArray)).size = 3 from rfl]; omega
                have hz2 : ((({ data := #[92, 120, 123] } : ByteArray) ++ Txt.bytes (hexT r)) ++ ({ data := #[125] } : ByteArray)).size ≤ 100 ∧ ((({ data := #[92, 120, 123] } : ByteArray) ++ Txt.bytes (hexT r)) ++ ({ data := #[125] } : ByteArray)).size ≠ 0 := by
                  rw [ByteArray.size_append, ByteArray.size_append, bytes_size, show (({ data := #[92, 120, 123] } : ByteArray)).size = 3 from rfl, show (({ data := #[125] } : ByteArray)).size = 1 from rfl]; omega
                have hz3 : ((({ data := #[92, 120, 123] } : ByteArray) ++ Txt.bytes (hexT r)) ++ ({ data := #[125] } : ByteArray)).data.toList = piece r := by
                  rw [hpc]; simp [Txt.bytes]
                have HZ2 := Lib.hid hz2; clear hz2
                have HP := Lib.hid hz3; clear hz3 hpc c39 hesc hhex hlen
                rcases hcases with h32 | ⟨h32, h128, hl160⟩
                all_goals
                  go_wp2_with (first | (go_at_call 160; refine (escape_calls r _).mono ?_; rintro e w' ⟨rfl, rfl⟩) | (go_at_call 47; refine (formatInt16 r _ HT1.out h160).mono ?_; rintro e w4 ⟨rfl, hb4⟩))
                  have HU4 := Lib.hid (HU1.out.below hb4)
                  have HW4 := Lib.hid (Bw.of_mem (o := 0) hb4 HU1.out.lt); clear hb4
                  refine (writeString_calls 113 2 _ 0 bt_own (39 :: acc) _ _ HU4.out (by simp; omega) (by have := HZ2.out.1; omega) HZ2.out.2).mono ?_
                  rintro e w5 ⟨⟨kk, rfl⟩, hb5, hbw5⟩
                  have HF := Lib.hid (HEND.out w5 (by rw [HP.out] at hb5; simpa using hb5) (HW4.out.trans hbw5)); clear hb5 hbw5
                  go_wp2
                  go_roundw
                  case rel => exact HF.out.1
                  case measure => exact HF.out.2
              · have hcases : (decide ((r : Int) < 32) = false ∧ decide ((128 : Int) ≤ (r : Int)) = false) ∨ (decide ((r : Int) < 32) = false ∧ decide ((128 : Int) ≤ (r : Int)) = true ∧ decide ((r : Int) < 160) = false) := by
                  by_cases h' : 128 ≤ r
                  · right; simp; omega
                  · left; simp; omega
                have hpc : piece r = (Utf8.encode (r : Int)).data.toList := by unfold piece; rw [if_neg c39, if_neg hesc, if_neg hhex]
                have HP := Lib.hid hpc; clear hpc c39 hesc hhex
                rcases hcases with ⟨h32, h128⟩ | ⟨h32, h128, hl160⟩
                all_goals
                  go_wp2_with (go_at_call 160; refine (escape_calls r _).mono ?_; rintro e w' ⟨rfl, rfl⟩)
                  refine (writeRune_calls 113 2 _ 0 bt_own _ r (by omega) _ HU1.out (by simp; omega)).mono ?_
                  rintro e w5 ⟨⟨kk, rfl⟩, hb5, hbw5⟩
                  have HF := Lib.hid (HEND.out w5 (by rw [HP.out]; simpa using hb5) hbw5); clear hb5 hbw5
                  go_wp2
                  go_roundw
                  case rel => exact HF.out.1
                  case measure => exact HF.out.2
        · have hnx := fun ty => Lib.run_next_end_at (P := Tryz.prog) wr w3.heap.size s pos ty hit hp
          clear hit
          have hfin := HR.out.over hp
          subst hfin
          go_wp2_with fail
          refine (writeByte_calls 113 2 _ 0 bt_own (39 :: acc) 39 _ HR.out.bu (by have := HR.out.len; have := HR.out.pos; simp; omega)).mono ?_
          rintro e w4 ⟨rfl, hb4, hbw4⟩
          have HU4 := Lib.hid hb4; clear hb4
          have HW4 := Lib.hid hbw4; clear hbw4
          go_wp2_with fail
          refine (string_calls 113 2 _ 0 _ _ HU4.out).mono ?_
          rintro e w5 ⟨rfl, hb5, hbw5⟩
          go_wp2
          go_ret2
          exact ⟨by rw [HPD.out]; simp, HR.out.be.trans ((HW4.out.trans hbw5).below.mono hsz2)⟩
end Go.Proofs.YtejpdfenejbjdaaGreatDoor
