/- Walks: the reference: many events' lines. -/
import Derived.Test.YtejpdfenejbjdaaGreatDoorPlA
import Derived.Test.YtejpdfenejbjdaaGreatDoorRfQ
import Derived.Test.YtejpdfenejbjdaaGreatDoorShelfC
import Derived.Test.YtejpdfenejbjdaaGreatDoorTrO
import Derived.SizedLaws
namespace Go.Proofs.YtejpdfenejbjdaaGreatDoor
open Go.RowKit Txt
set_option linter.unusedVariables false
set_option linter.unusedSimpArgs false

theorem evPrint_len {e : Ev} (h1 : fit64 e.tick) (h2 : fit64 e.pid) (h3 : fit64 e.by_) : (evPrint e).1.length ≤ 66000 := by
  unfold evPrint
  split
  · simp
  · cases hr : trow e.kind with
    | none => simp
    | some r =>
      have hh : (evHead e r).length ≤ 100 := by
        have a1 := Lib.itoa_length_le e.tick h1.1 h1.2
        have a2 := whoB_len e.by_ h3
        have a3 := whoB_len e.pid h2
        have a4 := (trow_word hr).1
        have a5 : r.word.data.toList.length = r.word.size := by simp
        unfold evHead
        split <;> split <;> simp <;> omega
      dsimp only
      split
      · split
        · simp
        · rename_i hp
          have := print_len2 (t := e.term) (by omega)
          simp; omega
      · show (evHead e r).length ≤ 66000
        omega
/-- What is known of events. -/
def EvsOk (ps : List (Ev × Value)) : Prop := ∀ p ∈ ps, TextsOk p.1.term ∧ (∀ c ∈ p.1.term, fits c) ∧ fit64 p.1.tick ∧ fit64 p.1.pid ∧ fit64 p.1.by_ ∧ p.1.term.length * 32 ≤ 140737488351232

set_option maxHeartbeats 4000000 in
set_option maxRecDepth 100000 in
theorem rprintAllE_calls (x : Value) (ps : List (Ev × Value)) (w : World) (hx : SeesE w x ps) (hs : ∀ p ∈ ps, SeesT w p.2 p.1.term) (hok : EvsOk ps) (hl : ps.length ≤ 140737488355328) (ht : Tabs w) :
    Calls Tryz.prog 25 #[x] w fun e w' => e = .returned (.tuple #[.string (Txt.bytes (evPrintAll (ps.map (·.1))).1), .int .i64 (evPrintAll (ps.map (·.1))).2.1, .int .i64 ((evPrintAll (ps.map (·.1))).2.2 : Int)]) ∧ Below w.heap.size w w' := by
  obtain ⟨i0, hi, hz0, hz1, hz2⟩ := info_parts info_u8
  have HX := Lib.hid hx
  obtain ⟨A, cap, rfl, hcap, -⟩ := hx
  have HT := Lib.hid ht; clear ht
  have HS := Lib.hid hs; clear hs
  have HOK := Lib.hid hok; clear hok
  generalize hR : evPrintAll (ps.map (·.1)) = R
  have HR : Hid (evPrintAllF (ps.map (·.1)) 0 [] = R) := Lib.hid hR
  clear hR
  have s0 : (ps.length : Int) ≤ (cap : Int) := by omega
  go_enter Tryz.func25, Tryz.ntmps25
  go_wp2_with fail
  go_loopw [5, 12] (fun b i wr => ∃ (k : Nat) (bs : List UInt8), k ≤ ps.length ∧ i = .int .i64 (k : Nat) ∧ OwnB w.heap.size wr b bs ∧ evPrintAllF ((ps.map (·.1)).drop k) k bs = R ∧ Below w.heap.size w wr ∧ bs.length ≤ 1200000) (fun _ i _ => ps.length - (intOf i).toNat)
  case atStart => exact ⟨0, [], Nat.zero_le _, rfl, OwnB.nil _ _, HR.out, Below.refl _ _, by simp⟩
  case round =>
    obtain ⟨k, bs, hk, rfl, ho, hf, hb, hbl⟩ := hrel
    have HO := Lib.hid ho; clear ho
    have HB := Lib.hid hb; clear hb
    obtain ⟨B1, n1, c1, rfl⟩ := own_slice HO.out
    have hn1 : n1 = bs.length := by
      have := HO.out
      obtain ⟨-, ⟨e, h0⟩ | ⟨g, cp, cur, e, -⟩⟩ := this
      · cases e; exact h0.symm
      · cases e; rfl
    subst hn1
    by_cases hlt : k < ps.length
    · have t0 : decide ((k : Int) < (ps.length : Int)) = true := decide_eq_true (by omega)
      have t0' : decide (k < ps.length) = true := decide_eq_true hlt
      have hki : (k : Int) < (ps.length : Int) := by omega
      have hdr : (ps.map (·.1)).drop k = (ps[k]'hlt).1 :: (ps.map (·.1)).drop (k + 1) := by
        rw [List.drop_eq_getElem_cons (by simpa using hlt)]; simp
      rw [hdr, evPrintAllF] at hf
      have HF := Lib.hid hf; clear hf hdr
      obtain ⟨ad, cap', he, hcap', hblk, d0, d1, d2, d3, d4⟩ := (HX.out.below HB.out).at k hlt
      simp only [Value.slice.injEq] at he
      obtain ⟨rfl, -, rfl⟩ := he
      have hmem : ps[k] ∈ ps := List.getElem_mem hlt
      have hst := (HS.out _ hmem).below HB.out
      obtain ⟨o1, o2, o3, o4, o5, o6⟩ := HOK.out _ hmem
      have hpr := fun W (h1 : SeesT W (ps[k]'hlt).2 (ps[k]'hlt).1.term) (h2 : Tabs W) => rvprint_calls (ps[k]'hlt).1 (ps[k]'hlt).2 W h1 o1 o2 o3 o4 o5 h2
      have hpl := evPrint_len o3 o4 o5
      have HLT := Lib.hid hlt
      generalize ps[k] = p at *
      obtain ⟨⟨ek, tick, pd, bb, t⟩, u⟩ := p
      dsimp only at *
      obtain ⟨UA, uc, rfl, -, -⟩ := id hst
      have HST := Lib.hid hst
      have HPR := Lib.hid hpr; clear hst hpr hmem o1 o2 o3 o4 o5 o6
      unfold evV at HPR
      dsimp only at HPR
      generalize hQ : evPrint ⟨ek, tick, pd, bb, t⟩ = Q at *
      clear hQ
      obtain ⟨q1, q2⟩ := Q
      simp only at hpl HF HPR
      have HPL := Lib.hid hpl; clear hpl
      have hal : Below wr.heap.size wr (wr.alloc (.cells #[.int .i64 ek, .int .i64 tick, .int .i64 pd, .int .i64 bb, .slice UA t.length uc] 24)) := (Below.refl _ _).alloc (Nat.le_refl _) _
      have HAL := Lib.hid hal; clear hal
      go_wp2_with fail
      refine (HPR.out _ (HST.out.below HAL.out) ((HT.out.below HB.out).below HAL.out)).mono ?_
      rintro e w1 ⟨rfl, hb1⟩
      have hb1' := HAL.out.trans (hb1.mono HAL.out.size)
      have HO1 := Lib.hid (HO.out.below hb1')
      have HB1 := Lib.hid (HB.out.trans (hb1'.mono HB.out.size)); clear hb1 hb1'
      by_cases hq : q2 = 0
      · have hne : (q2 != 0) = false := by simpa using hq
        have hF := HF.out
        rw [if_neg (by simpa using hq)] at hF
        have hql : q1.length ≤ 66000 := HPL.out
        by_cases hle : bs.length ≤ 1048576
        · have hd : decide ((bs.length : Int) ≤ 1048576) = true := decide_eq_true (by omega)
          rw [if_pos hle] at hF
          have HF2 := Lib.hid hF; clear hF HF hq
          have hcb := conv_bytes w1 (Txt.bytes q1)
          have hzz : (Txt.bytes q1).size = q1.length := bytes_size _
          rw [hzz] at hcb
          have hcell : ∀ j v, (Lib.byteCells q1)[j]? = some v → (Lib.bytesWorld w1 5 (Txt.bytes q1)).cell? ((⟨w1.heap.size, 0, none⟩ : Addr).add j) = some v := by
            intro j v hj
            have hjl := (List.getElem?_eq_some_iff.1 hj).1
            rw [Lib.byteCells, List.length_map] at hjl
            have e1 : (⟨w1.heap.size, 0, none⟩ : Addr).add j = ⟨w1.heap.size, j, none⟩ := by unfold Addr.add; split <;> simp_all
            rw [e1, Lib.bytesWorld_cell _ _ _ _ (by rw [hzz]; exact hjl), bytes_data]
            simp [Lib.byteCells, hjl] at hj ⊢
            exact hj
          have hbw := below_bytesWorld w1 5 (Txt.bytes q1)
          have HO2 := Lib.hid (HO1.out.below hbw)
          have HB2 := Lib.hid (HB1.out.trans (hbw.mono HB1.out.size))
          have HCE := Lib.hid hcell
          clear hcell hbw
          generalize hBW : Lib.bytesWorld w1 5 (Txt.bytes q1) = w2 at *
          clear hBW
          go_wp2_with (at_builtin; refine wpList_append_own _ rfl _ _ 91 rfl w.heap.size 5 i0 (.int .u8 0) 1 1 Tryz.underlying91 hi hz0 hz1 hz2 rfl (by decide) _ _ _ rfl HO2.out ⟨w1.heap.size, 0, none⟩ q1.length _ (Lib.byteCells q1) rfl (by simp [Lib.byteCells]) HCE.out ?a0 ?a1 ?a2 ?a3 ?_)
          case a0 => intro y hy; simp only [Lib.byteCells, List.mem_map] at hy; obtain ⟨c, -, rfl⟩ := hy; rfl
          case a1 => unfold maxLen; omega
          case a2 => omega
          case a3 => exact HB2.out.size
          intro b3 w3 hown hgrow _
          have HO3 : Hid (OwnB w.heap.size w3 b3 (bs ++ q1)) := Lib.hid (OwnB.appended hown rfl)
          have HB3 := Lib.hid (HB2.out.grown hgrow HB2.out.size HO2.out.own_ge)
          obtain ⟨B3, n3, c3, rfl⟩ := own_slice hown
          clear hown hgrow
          go_wp2_with (at_builtin; refine wpList_append_own _ rfl _ _ 91 rfl w.heap.size 5 i0 (.int .u8 0) 1 1 Tryz.underlying91 hi hz0 hz1 hz2 rfl (by decide) _ _ _ rfl (World.ownsRow.alloc HO3.out _) ⟨w3.heap.size, 0, none⟩ 1 1 (Lib.byteCells [10]) rfl rfl ?c0 ?c1 ?c2 ?c3 ?c4 ?_)
          case c0 => exact new_list w3 (Lib.byteCells [10]) _ _ rfl
          case c1 => intro y hy; simp only [Lib.byteCells, List.mem_map] at hy; obtain ⟨c, -, rfl⟩ := hy; rfl
          case c2 => unfold maxLen; simp; omega
          case c3 => simp; omega
          case c4 => have := HB3.out.size; simp; omega
          intro b4 w4 hown hgrow _
          have HO4 : Hid (OwnB w.heap.size w4 b4 (bs ++ q1 ++ [10])) := Lib.hid (OwnB.appended (u := [10]) hown (by simp))
          have HB4 := Lib.hid ((HB3.out.alloc HB3.out.size (.cells #[.int .u8 10] 5)).grown hgrow (by have := HB3.out.size; simp; omega) HO3.out.own_ge)
          obtain ⟨B4, n4, c4, rfl⟩ := own_slice hown
          clear hown hgrow
          go_wp2
          go_roundw
          case rel => exact ⟨k + 1, bs ++ q1 ++ [10], HLT.out, by go_num, HO4.out, HF2.out, HB4.out, by simp only [List.length_append, List.length_cons, List.length_nil]; omega⟩
          case measure => have := HLT.out; simp [intOf]; omega
        · have hd : decide ((bs.length : Int) ≤ 1048576) = false := decide_eq_false (by omega)
          rw [if_neg hle] at hF
          have HF2 := Lib.hid hF; clear hF HF hq
          go_wp2
          go_roundw
          case rel => exact ⟨k + 1, bs, HLT.out, by go_num, HO1.out, HF2.out, HB1.out, hbl⟩
          case measure => have := HLT.out; simp [intOf]; omega
      · have hne : (q2 != 0) = true := by simpa using hq
        have hF := HF.out
        rw [if_pos hq] at hF
        subst hF
        clear HF hq
        go_wp2
        go_ret3
        exact ⟨rfl, HB1.out⟩
    · have t0 : decide ((k : Int) < (ps.length : Int)) = false := decide_eq_false (by omega)
      have t0' : decide (k < ps.length) = false := decide_eq_false hlt
      rw [List.drop_of_length_le (by simp; omega), evPrintAllF] at hf
      by_cases hbig : 1048576 < bs.length
      · rw [if_pos hbig] at hf
        subst hf
        have hd : decide ((1048576 : Int) < (bs.length : Int)) = true := decide_eq_true (by omega)
        clear HR
        go_wp2_with fail
        go_ret3
        exact ⟨rfl, HB.out⟩
      · rw [if_neg hbig] at hf
        subst hf
        have hd : decide ((1048576 : Int) < (bs.length : Int)) = false := decide_eq_false (by omega)
        have hcv := conv_own HO.out
        clear HR
        go_wp2_with fail
        go_ret3
        exact ⟨rfl, HB.out⟩
end Go.Proofs.YtejpdfenejbjdaaGreatDoor

namespace Go.Proofs.YtejpdfenejbjdaaGreatDoor
open Go.RowKit Txt
set_option linter.unusedVariables false
set_option linter.unusedSimpArgs false

/-- Strings that the call owns. -/
def OwnStr (base : Nat) (w : World) (v : Value) (ls : List ByteArray) : Prop := w.ownsRow base 9 1 v ls.length (ls.map Value.string)
theorem OwnStr.keep {base : Nat} {w w' : World} {v : Value} {ls : List ByteArray} (h : OwnStr base w v ls) (hk : ∀ g, base ≤ g → v.ownBlock = some g → g < w.heap.size → w'.heap[g]? = w.heap[g]?) : OwnStr base w' v ls := by
  obtain ⟨hl, h0 | ⟨g, cap, cur, rfl, hg, hh, q⟩⟩ := h
  · exact ⟨hl, .inl h0⟩
  · refine ⟨hl, .inr ⟨g, cap, cur, rfl, hg, ?_, q⟩⟩
    rw [hk g hg rfl (Array.getElem?_eq_some_iff.1 hh).1]
    exact hh
theorem OwnStr.below {base : Nat} {w w' : World} {v : Value} {ls : List ByteArray} (h : OwnStr base w v ls) (hb : Below w.heap.size w w') : OwnStr base w' v ls := h.keep fun g _ _ hl => hb.block g hl
theorem OwnStr.own_ge {base : Nat} {w : World} {v : Value} {ls : List ByteArray} (h : OwnStr base w v ls) : ∀ g, v.ownBlock = some g → base ≤ g := fun g hg => (World.ownsRow.lt h g hg).1
def flatS (ls : List ByteArray) : List UInt8 := ls.flatMap (·.data.toList)
theorem join_flat (ls : List ByteArray) : Lib.join (ls.map (·.data.toList)) [] = flatS ls := by
  unfold Lib.join flatS
  induction ls with
  | nil => rfl
  | cons a l ih =>
    cases l with
    | nil => simp [List.intercalate]
    | cons b l =>
      simp only [List.map_cons, List.flatMap_cons, List.intercalate] at ih ⊢
      rw [List.intersperse_cons_cons]
      simp only [List.flatten_cons, List.nil_append]
      rw [ih]

set_option maxHeartbeats 4000000 in
set_option maxRecDepth 100000 in
theorem tprintAllE_calls (x : Value) (ps : List (Ev × Value)) (w : World) (hx : SeesE w x ps) (hs : ∀ p ∈ ps, SeesT w p.2 p.1.term) (hok : EvsOk ps) (hl : ps.length * 56 ≤ 140737488355328) (ht : Tabs w) :
    Calls Tryz.prog 24 #[x] w fun e w' => e = .returned (.tuple #[.string (Txt.bytes (evPrintAll (ps.map (·.1))).1), .int .i64 (evPrintAll (ps.map (·.1))).2.1, .int .i64 ((evPrintAll (ps.map (·.1))).2.2 : Int)]) ∧ Below w.heap.size w w' := by
  obtain ⟨i0, hi, hz0, hz1, hz2⟩ := info_parts info_str
  have HX := Lib.hid hx
  obtain ⟨A, cap, rfl, hcap, -⟩ := hx
  have HT := Lib.hid ht; clear ht
  have HS := Lib.hid hs; clear hs
  have HOK := Lib.hid hok; clear hok
  generalize hR : evPrintAll (ps.map (·.1)) = R
  have HR : Hid (evPrintAllF (ps.map (·.1)) 0 [] = R) := Lib.hid hR
  clear hR
  have s0 : (ps.length : Int) ≤ (cap : Int) := by omega
  go_enter Tryz.func24, Tryz.ntmps24
  go_wp2_with fail
  go_loopw [5, 6, 13] (fun v n i wr => ∃ (k N : Nat) (bs : List UInt8) (ls : List ByteArray), k ≤ ps.length ∧ i = .int .i64 (k : Nat) ∧ n = .int .i64 (N : Nat) ∧ OwnStr w.heap.size wr v ls ∧ evPrintAllF ((ps.map (·.1)).drop k) k bs = R ∧ Below w.heap.size w wr ∧ N ≤ k * 66001 ∧ ls.length ≤ 2 * k ∧
    ((N = bs.length ∧ bs.length ≤ 1048576 ∧ flatS ls = bs) ∨ (1048576 < N ∧ 1048576 < bs.length))) (fun _ _ i _ => ps.length - (intOf i).toNat)
  case atStart => exact ⟨0, 0, [], [], Nat.zero_le _, rfl, rfl, World.ownsRow_nil _ _ _ 1, HR.out, Below.refl _ _, by simp, by simp, .inl ⟨rfl, by simp, rfl⟩⟩
  case round =>
    obtain ⟨k, N, bs, ls, hk, rfl, rfl, ho, hf, hb, hN, hll, hrel2⟩ := hrel
    have HO := Lib.hid ho; clear ho
    have HB := Lib.hid hb; clear hb
    obtain ⟨B1, n1, c1, rfl⟩ := own_slice HO.out
    have hn1 : n1 = ls.length := by
      have := HO.out
      obtain ⟨-, ⟨e, h0⟩ | ⟨g, cp, cur, e, -⟩⟩ := this
      · cases e; exact h0.symm
      · cases e; rfl
    subst hn1
    by_cases hlt : k < ps.length
    · have t0 : decide ((k : Int) < (ps.length : Int)) = true := decide_eq_true (by omega)
      have t0' : decide (k < ps.length) = true := decide_eq_true hlt
      have hki : (k : Int) < (ps.length : Int) := by omega
      have hdr : (ps.map (·.1)).drop k = (ps[k]'hlt).1 :: (ps.map (·.1)).drop (k + 1) := by
        rw [List.drop_eq_getElem_cons (by simpa using hlt)]; simp
      rw [hdr, evPrintAllF] at hf
      have HF := Lib.hid hf; clear hf hdr
      obtain ⟨ad, cap', he, hcap', hblk, d0, d1, d2, d3, d4⟩ := (HX.out.below HB.out).at k hlt
      simp only [Value.slice.injEq] at he
      obtain ⟨rfl, -, rfl⟩ := he
      have hmem : ps[k] ∈ ps := List.getElem_mem hlt
      have hst := (HS.out _ hmem).below HB.out
      obtain ⟨o1, o2, o3, o4, o5, o6⟩ := HOK.out _ hmem
      have hpr := fun W (h1 : SeesT W (ps[k]'hlt).2 (ps[k]'hlt).1.term) (h2 : Tabs W) => tprint_calls (ps[k]'hlt).1 (ps[k]'hlt).2 W h1 o1 o2 o3 o4 o5 h2
      have hpl := evPrint_len o3 o4 o5
      have HLT := Lib.hid hlt
      generalize ps[k] = p at *
      obtain ⟨⟨ek, tick, pd, bb, t⟩, u⟩ := p
      dsimp only at *
      obtain ⟨UA, uc, rfl, -, -⟩ := id hst
      have HST := Lib.hid hst
      have HPR := Lib.hid hpr; clear hst hpr hmem o1 o2 o3 o4 o5 o6
      unfold evV at HPR
      dsimp only at HPR
      generalize hQ : evPrint ⟨ek, tick, pd, bb, t⟩ = Q at *
      clear hQ
      obtain ⟨q1, q2⟩ := Q
      simp only at hpl HF HPR
      have HPL := Lib.hid hpl; clear hpl
      have hal : Below wr.heap.size wr (wr.alloc (.cells #[.int .i64 ek, .int .i64 tick, .int .i64 pd, .int .i64 bb, .slice UA t.length uc] 24)) := (Below.refl _ _).alloc (Nat.le_refl _) _
      have HAL := Lib.hid hal; clear hal
      have HN := Lib.hid (And.intro hN (And.intro hll hrel2)); clear hN hll hrel2
      go_wp2_with fail
      refine (HPR.out _ (HST.out.below HAL.out) ((HT.out.below HB.out).below HAL.out)).mono ?_
      rintro e w1 ⟨rfl, hb1⟩
      have hb1' := HAL.out.trans (hb1.mono HAL.out.size)
      have HO1 := Lib.hid (HO.out.below hb1')
      have HB1 := Lib.hid (HB.out.trans (hb1'.mono HB.out.size)); clear hb1 hb1'
      by_cases hq : q2 = 0
      · have hne : (q2 != 0) = false := by simpa using hq
        have hF := HF.out
        rw [if_neg (by simpa using hq)] at hF
        have hql : q1.length ≤ 66000 := HPL.out
        obtain ⟨hN, hll, hrel2⟩ := HN.out
        obtain ⟨S, hS⟩ : ∃ S, Txt.bytes q1 = S := ⟨_, rfl⟩
        have hSz : S.size = q1.length := by rw [← hS]; exact bytes_size _
        have hSd : S.data.toList = q1 := by rw [← hS]; exact bytes_data _
        rw [hS]
        have HS2 := Lib.hid (And.intro hSz hSd); clear hS hSd
        have hNb : N ≤ 170000000000000000 := by omega
        have hSb : S.size ≤ 66000 := by omega
        have HQ := Lib.hid (And.intro hql hN)
        have HZ2 := Lib.hid (And.intro hSb hNb)
        clear hql hN hSz
        by_cases hle : N + q1.length + 1 ≤ 1048576
        · have hzz := HS2.out.1
          have hd : decide ((N : Int) + ((S.size : Int) + 1) ≤ 1048576) = true := decide_eq_true (by omega)
          clear hzz
          have hst1 : N = bs.length ∧ bs.length ≤ 1048576 ∧ flatS ls = bs := by
            rcases hrel2 with h | ⟨h, -⟩
            · exact h
            · omega
          obtain ⟨hNe, hbl, hfl⟩ := hst1
          rw [if_pos hbl] at hF
          have HF2 := Lib.hid hF; clear hF HF hq
          have HFL := Lib.hid (And.intro hNe (And.intro hfl hle)); clear hNe hfl hrel2 hle
          have HLL := Lib.hid hll; clear hll
          go_wp2_with (at_builtin; refine wpList_append_own _ rfl _ _ 77 rfl w.heap.size 9 i0 (.string .empty) 1 16 Tryz.underlying77 hi hz0 hz1 hz2 rfl (by decide) _ _ _ rfl (World.ownsRow.alloc HO1.out _) ⟨w1.heap.size, 0, none⟩ 2 2 [.string S, .string ⟨#[10]⟩] rfl rfl ?a0 ?a1 ?a2 ?a3 ?a4 ?_)
          case a0 => exact new_list w1 [.string S, .string ⟨#[10]⟩] _ _ rfl
          case a1 => intro y hy; simp at hy; rcases hy with rfl | rfl <;> rfl
          case a2 => have := HLL.out; unfold maxLen; omega
          case a3 => have := HLL.out; omega
          case a4 => have := HB1.out.size; simp; omega
          intro v3 w3 hown hgrow _
          have HO3 : Hid (OwnStr w.heap.size w3 v3 (ls ++ [S, ⟨#[10]⟩])) := Lib.hid (by
            unfold OwnStr
            rw [List.map_append, List.length_append]
            exact hown)
          have HB3 := Lib.hid ((HB1.out.alloc HB1.out.size (.cells #[.string S, .string ⟨#[10]⟩] 9)).grown hgrow (by have := HB1.out.size; simp; omega) HO1.out.own_ge)
          obtain ⟨B3, n3, c3, rfl⟩ := own_slice hown
          clear hown hgrow
          go_wp2
          go_roundw
          case rel =>
            have hq := HS2.out
            have h1 := HFL.out
            have h2 := HLL.out
            have hq2 := HQ.out
            refine ⟨k + 1, N + q1.length + 1, bs ++ q1 ++ [10], ls ++ [S, ⟨#[10]⟩], HLT.out, ?_, ?_, ?_, HF2.out, HB3.out, ?_, ?_, .inl ⟨?_, ?_, ?_⟩⟩
            · go_num
            · refine congrArg _ ?_; omega
            · exact HO3.out
            · omega
            · simp; omega
            · simp; omega
            · simp; omega
            · rw [← h1.2.1, ← hq.2]; simp [flatS]
          case measure => have := HLT.out; simp [intOf]; omega
        · have hd : decide ((N : Int) + ((S.size : Int) + 1) ≤ 1048576) = false := decide_eq_false (by have := HS2.out.1; omega)
          have hnx : ∃ bs', evPrintAllF ((ps.map (·.1)).drop (k + 1)) (k + 1) bs' = R ∧ 1048576 < bs'.length := by
            rcases hrel2 with ⟨h1, h2, h3⟩ | ⟨h1, h2⟩
            · rw [if_pos h2] at hF
              exact ⟨_, hF, by simp; omega⟩
            · rw [if_neg (by omega)] at hF
              exact ⟨_, hF, h2⟩
          obtain ⟨bs', hF', hbl'⟩ := hnx
          have HF2 := Lib.hid (And.intro hF' hbl'); clear hF HF hq hrel2 hF' hbl'
          go_wp2
          go_roundw
          case rel =>
            have hq := HS2.out
            have hq2 := HQ.out
            refine ⟨k + 1, N + q1.length + 1, bs', ls, HLT.out, ?_, ?_, HO1.out, HF2.out.1, HB1.out, ?_, ?_, .inr ⟨?_, HF2.out.2⟩⟩
            · go_num
            · refine congrArg _ ?_; omega
            · omega
            · omega
            · omega
          case measure => have := HLT.out; simp [intOf]; omega
      · have hne : (q2 != 0) = true := by simpa using hq
        have hF := HF.out
        rw [if_pos hq] at hF
        subst hF
        clear HF hq
        go_wp2
        go_ret3
        exact ⟨rfl, HB1.out⟩
    · have t0 : decide ((k : Int) < (ps.length : Int)) = false := decide_eq_false (by omega)
      have t0' : decide (k < ps.length) = false := decide_eq_false hlt
      rw [List.drop_of_length_le (by simp; omega), evPrintAllF] at hf
      rcases hrel2 with ⟨rfl, hle, hfl⟩ | ⟨hNb, hbig⟩
      · rw [if_neg (by omega)] at hf
        subst hf
        have hd : decide ((1048576 : Int) < (bs.length : Int)) = false := decide_eq_false (by omega)
        have hjoin : ∀ (ad : Option Addr) (cc : Nat), OwnStr w.heap.size wr (.slice ad ls.length cc) ls → Calls Tryz.prog 50 #[.slice ad ls.length cc, .string ⟨#[]⟩] wr fun e w' => e = .returned (.string (Txt.bytes bs)) ∧ Below wr.heap.size wr w' := by
          intro ad cc h
          have hbb : (⟨(flatS ls).toArray⟩ : ByteArray) = Txt.bytes bs := by rw [hfl]; rfl
          have hh := h
          obtain ⟨-, ⟨e, h0⟩ | ⟨g, cp, cur, e, -, hb, hc, -⟩⟩ := h
          · simp only [Value.slice.injEq] at e
            obtain ⟨rfl, h1, rfl⟩ := e
            have hnil : ls = [] := List.length_eq_zero_iff.1 h0
            rw [h1]
            refine (Tryz.strings_Join_none none 0 ⟨#[]⟩ wr).mono ?_
            rintro e w' ⟨rfl, rfl⟩
            refine ⟨?_, Below.refl _ _⟩
            rw [← hbb, hnil]; rfl
          · simp only [Value.slice.injEq] at e
            obtain ⟨rfl, -, rfl⟩ := e
            have := Tryz.strings_Join g 0 cc ls ⟨#[]⟩ wr (fun j x hj => by
              have := World.ownsRow.cells hh rfl j (.string x) (by rw [List.getElem?_map, hj]; rfl)
              have e1 : (⟨g, 0, none⟩ : Addr).add j = ⟨g, 0 + j, none⟩ := by unfold Addr.add; split <;> simp_all
              rw [e1] at this; exact this) (Array.getElem?_eq_some_iff.1 hb).1 (by omega) hc (by
              have : Lib.join (ls.map (·.data.toList)) (⟨#[]⟩ : ByteArray).data.toList = bs := by rw [← hfl]; exact join_flat ls
              rw [this]; omega)
            refine this.mono ?_
            rintro e w' ⟨rfl, hb'⟩
            refine ⟨?_, hb'⟩
            have : Lib.join (ls.map (·.data.toList)) (⟨#[]⟩ : ByteArray).data.toList = bs := by rw [← hfl]; exact join_flat ls
            rw [this]; rfl
        have hj := hjoin _ _ HO.out
        have HJ := Lib.hid hj; clear hj hjoin HR
        go_wp2_with fail
        refine HJ.out.mono ?_
        rintro e w3 ⟨rfl, hb3⟩
        have HB3 := Lib.hid (HB.out.trans (hb3.mono HB.out.size)); clear hb3
        go_wp2
        go_ret3
        exact ⟨rfl, HB3.out⟩
      · rw [if_pos hbig] at hf
        subst hf
        have hd : decide ((1048576 : Int) < (N : Int)) = true := decide_eq_true (by omega)
        clear HR
        go_wp2_with fail
        go_ret3
        exact ⟨rfl, HB.out⟩
end Go.Proofs.YtejpdfenejbjdaaGreatDoor

namespace Go.Proofs.YtejpdfenejbjdaaGreatDoor
open Go.RowKit Txt
set_option linter.unusedVariables false
set_option linter.unusedSimpArgs false

/-- What holds at the head of a round of ParseAll. -/
structure PaI (w : World) (qs : List (Ev × Value)) (v : Value) (W : World) : Prop where
  own : W.ownsRow w.heap.size 24 5 v qs.length (ecs qs)
  tm : ∀ q ∈ qs, TermAt w.heap.size W q.2 q.1.term
  be : Below w.heap.size w W
theorem PaI.below {w W W' : World} {qs : List (Ev × Value)} {v : Value} (h : PaI w qs v W) (hb : Below W.heap.size W W') : PaI w qs v W' :=
  ⟨own_keepE h.own fun g _ _ hl => hb.block g hl, fun q hq => (h.tm q hq).below hb, h.be.trans (hb.mono h.be.size)⟩
/-- A block of events, that the call owns, is none of a term's. -/
theorem own_termNe {base b : Nat} {W : World} {v x : Value} {n : Nat} {xs : List Value} {t : List Cl} (h : W.ownsRow b 24 5 v n xs) (hx : TermAt base W x t) : ∀ ad m c, x = .slice (some ad) m c → v.ownBlock ≠ some ad.block := fun ad m c e hb => by
  obtain ⟨-, hh, cc, h2⟩ := hx.2 ad m c e
  obtain ⟨-, ⟨rfl, -⟩ | ⟨g, cap, cur, rfl, -, hg, -⟩⟩ := h
  · cases hb
  · cases hb; rw [hg] at h2; simp at h2
theorem PaI.push {w W W6 : World} {qs : List (Ev × Value)} {v v' u : Value} {e : Ev} {o : Obj} (h : PaI w qs v W) (hu : TermAt w.heap.size W u e.term) (hown : W6.ownsRow w.heap.size 24 5 v' (qs.length + 1) (ecs qs ++ ec e u)) (hg : (W.alloc o).grownBy W6 v.ownBlock) : PaI w (qs ++ [(e, u)]) v' W6 := by
  have hsz := h.be.size
  have hk : ∀ (x : Value) (t : List Cl), TermAt w.heap.size W x t → TermAt w.heap.size W6 x t := fun x t hx => hx.keep fun ad m c e hl =>
    (hg.block ad.block (by simp; omega) (fun e2 => own_termNe h.own hx ad m c e e2.symm)).trans (Below.heap_alloc _ _ _ hl)
  refine ⟨?_, fun q hq => ?_, ?_⟩
  · have e1 : ecs (qs ++ [(e, u)]) = ecs qs ++ ec e u := by simp [ecs]
    rw [e1, List.length_append, List.length_singleton]; exact hown
  · rcases List.mem_append.1 hq with hq | hq
    · exact hk _ _ (h.tm q hq)
    · rw [List.mem_singleton] at hq; subst hq; exact hk _ _ hu
  · exact (h.be.alloc h.be.size o).grown hg (by simp; omega) (fun g hgg => (World.ownsRow.lt h.own g hgg).1)

theorem cut_less {l : List UInt8} {c : UInt8} (h : (Lib.cut l [c]).2.2 = true) (hl : l ≠ []) : (Lib.cut l [c]).2.1.length < l.length := by
  unfold Lib.cut at h ⊢
  split
  · have : 0 < l.length := List.length_pos_iff.2 hl
    simp; omega
  · rename_i h1; rw [if_neg h1] at h; cases h
/-- What comes of ParseAll. -/
def EvsOut (w : World) (r : List Ev × Int × Nat) (e : Ending) (w' : World) : Prop :=
  ∃ v qs, e = .returned (.tuple #[v, .int .i64 r.2.1, .int .i64 (r.2.2 : Int)]) ∧ PaI w qs v w' ∧ qs.map (·.1) = r.1
set_option maxHeartbeats 4000000 in
set_option maxRecDepth 100000 in
theorem tparseAllE_calls (s : ByteArray) (w : World) (ht : TabsT w) (hs : s.size ≤ 140737488355328) :
    Calls Tryz.prog 21 #[.string s] w (EvsOut w (evParseAll s.data.toList)) := by
  obtain ⟨i0, hi, hz0, hz1, hz2⟩ := info_parts info_ev
  have HT := Lib.hid ht; clear ht
  have hsl : s.data.toList.length = s.size := by simp
  by_cases hbig : 1048576 < s.size
  · have e : evParseAll s.data.toList = ([], 4, 0) := by unfold evParseAll; rw [if_pos (by omega)]
    rw [e]
    have hd : decide ((1048576 : Int) < (s.size : Int)) = true := decide_eq_true (by omega)
    clear hsl
    go_enter Tryz.func21, Tryz.ntmps21
    go_wp2_with fail
    go_ret3
    exact ⟨.slice none 0 0, [], rfl, ⟨World.ownsRow_nil _ _ _ 5, fun q hq => (by cases hq), Below.refl _ _⟩, rfl⟩
  · have e : evParseAll s.data.toList = evParseAllF (s.size + 1) s.data.toList [] := by unfold evParseAll; rw [if_neg (by omega), hsl]
    rw [e]
    generalize hR : evParseAllF (s.size + 1) s.data.toList [] = R
    have HR := Lib.hid hR; clear hR e
    have hd : decide ((1048576 : Int) < (s.size : Int)) = false := decide_eq_false (by omega)
    clear hsl
    go_enter Tryz.func21, Tryz.ntmps21
    go_wp2_with fail
    go_loopw [0, 5] (fun sv v wr => ∃ (k : Nat) (r : ByteArray) (qs : List (Ev × Value)), sv = .string r ∧ evParseAllF k r.data.toList (qs.map (·.1)) = R ∧ r.size < k ∧ qs.length + r.size ≤ 1048576 ∧ PaI w qs v wr) (fun sv _ _ => match sv with | .string r => r.size | _ => 0)
    case atStart => exact ⟨s.size + 1, s, [], rfl, HR.out, by omega, by simp; omega, ⟨World.ownsRow_nil _ _ _ 5, fun q hq => (by cases hq), Below.refl _ _⟩⟩
    case round =>
      obtain ⟨k, r, qs, rfl, hf, hrk, hqr, hp⟩ := hrel
      obtain ⟨k, rfl⟩ : ∃ j, k = j + 1 := ⟨k - 1, by omega⟩
      rw [evParseAllF] at hf
      have HF := Lib.hid hf; clear hf HR
      have HP := Lib.hid hp; clear hp
      have HN := Lib.hid (And.intro hrk hqr); clear hrk hqr
      obtain ⟨A0, n0, c0, rfl⟩ := own_slice HP.out.own
      have hn0 : n0 = qs.length := by
        obtain ⟨-, ⟨e, h0⟩ | ⟨g, cp, cur, e, -⟩⟩ := HP.out.own
        · cases e; exact h0.symm
        · cases e; rfl
      subst hn0
      by_cases hr : r.size = 0
      · have h0 : (!r.toList.isEmpty) = false := by rw [isEmpty_size]; simp [hr]
        have h0' : r.toList.isEmpty = true := by rw [isEmpty_size]; simp [hr]
        have hd0 : r.data.toList = [] := List.length_eq_zero_iff.1 (by simpa using hr)
        have hF := HF.out
        rw [if_pos hd0] at hF
        subst hF
        clear hd0 hr HF
        go_wp2_with fail
        go_ret3
        exact ⟨_, qs, rfl, HP.out, rfl⟩
      · have h0 : (!r.toList.isEmpty) = true := by rw [isEmpty_size]; simp [hr]
        have h0' : r.toList.isEmpty = false := by rw [isEmpty_size]; simp [hr]
        have hd0 : r.data.toList ≠ [] := fun e => hr (by have := congrArg List.length e; simpa using this)
        have hF := HF.out
        rw [if_neg hd0] at hF
        have HF2 := Lib.hid hF; clear hF HF
        have hless := fun h => cut_less (l := r.data.toList) (c := 10) h hd0
        have hlr : r.data.toList.length = r.size := by simp
        obtain ⟨m, hm⟩ := (HT.out.below HP.out.be).mx
        have HC := Lib.hid (Tryz.strings_Cut r ⟨#[10]⟩ m wr (by have := HN.out; omega) hm)
        change Hid (Calls _ _ _ _ fun e w' => e = .returned (.tuple #[.string ⟨(Lib.cut r.data.toList [10]).1.toArray⟩, .string ⟨(Lib.cut r.data.toList [10]).2.1.toArray⟩, .bool (Lib.cut r.data.toList [10]).2.2]) ∧ ∃ n, w' = wr.drewN n) at HC
        clear hm hr hd0
        generalize Lib.cut r.data.toList [10] = CT at *
        obtain ⟨cl, cr, cb⟩ := CT
        dsimp only at HC HF2 hless
        have hcr : (⟨cr.toArray⟩ : ByteArray).data.toList = cr := rfl
        have hcz : (⟨cr.toArray⟩ : ByteArray).size = cr.length := by simp [ByteArray.size]
        generalize (⟨cr.toArray⟩ : ByteArray) = RS at *
        generalize (⟨cl.toArray⟩ : ByteArray) = LN at *
        have HCR := Lib.hid (And.intro hcr (And.intro hcz (And.intro hless hlr))); clear hcr hcz hless hlr
        go_wp2_with fail
        refine HC.out.mono ?_
        rintro e w1 ⟨rfl, n, rfl⟩
        have HP1 := Lib.hid (HP.out.below (below_dN (Below.refl wr.heap.size wr) n)); clear HP HC
        generalize wr.drewN n = wq at *
        have hpa := tparse_calls LN wq (HT.out.below HP1.out.be)
        generalize evParse LN = EP at *
        obtain ⟨⟨ek, tick, pd, bb, tm⟩, err⟩ := EP
        have HPA := Lib.hid hpa; clear hpa
        dsimp only at HF2
        go_wp2_with fail
        refine HPA.out.mono ?_
        rintro e w2 ⟨u, rfl, hu, hb2⟩
        obtain ⟨UA, uc, rfl, -, -⟩ := hu.1
        have HU := Lib.hid (hu.mono HP1.out.be.size); have HP2 := Lib.hid (HP1.out.below hb2); clear hu hb2 HPA
        unfold evV
        dsimp only
        have hal : Below w2.heap.size w2 (w2.alloc (.cells #[.int .i64 ek, .int .i64 tick, .int .i64 pd, .int .i64 bb, .slice UA tm.length uc] 24)) := (Below.refl _ _).alloc (Nat.le_refl _) _
        have HU3 := Lib.hid (HU.out.below hal); have HP3 := Lib.hid (HP2.out.below hal); clear hal
        by_cases hbad : cb = false ∨ err ≠ 0
        · have hF := HF2.out
          rw [if_pos hbad] at hF
          have hql : (qs.map (·.1)).length = qs.length := by simp
          rw [hql] at hF
          subst hF
          cases cb with
          | false =>
            clear hbad HF2
            go_wp2_with fail
            go_ret3
            exact ⟨.slice none 0 0, [], rfl, ⟨World.ownsRow_nil _ _ _ 5, fun q hq => (by cases hq), HP3.out.be⟩, rfl⟩
          | true =>
            have hne : (err != 0) = true := by rcases hbad with h | h; cases h; simpa using h
            clear hbad HF2
            go_wp2_with fail
            go_ret3
            exact ⟨.slice none 0 0, [], rfl, ⟨World.ownsRow_nil _ _ _ 5, fun q hq => (by cases hq), HP3.out.be⟩, rfl⟩
        · have hF := HF2.out
          rw [if_neg hbad] at hF
          simp only [not_or, Bool.not_eq_false, ne_eq, Decidable.not_not] at hbad
          obtain ⟨rfl, rfl⟩ := hbad
          have HF3 := Lib.hid hF; clear hF HF2
          go_wp2_with (at_builtin; refine wpList_append_own _ rfl _ _ 25 rfl w.heap.size 24 i0 (.agg #[.int .i64 0, .int .i64 0, .int .i64 0, .int .i64 0, .slice none 0 0]) 5 56 Tryz.underlying25 hi hz0 hz1 hz2 rfl (by decide) _ _ _ rfl (World.ownsRow.alloc HP3.out.own _) ⟨_, 0, none⟩ 1 1 (ec ⟨ek, tick, pd, bb, tm⟩ (.slice UA tm.length uc)) rfl rfl ?b1 (ec_oneCell _ _ _ _) ?b3 ?b4 ?b5 ?_)
          case b1 => first | exact new_list _ (ec ⟨ek, tick, pd, bb, tm⟩ (.slice UA tm.length uc)) _ _ (by first | rfl | simp) | (intro j u hj; exact hj)
          case b3 => have := HN.out; unfold maxLen; omega
          case b4 => have := HN.out; omega
          case b5 => have := HP3.out.be.size; simp at this ⊢; omega
          intro v3 w3 hown hgrow _
          have HP4 := Lib.hid (HP3.out.push HU3.out hown hgrow)
          obtain ⟨A3, n3, cc3, rfl⟩ := own_slice hown
          clear hown hgrow
          go_wp2_with fail
          go_roundw
          case rel => exact ⟨k, RS, qs ++ [(⟨ek, tick, pd, bb, tm⟩, .slice UA tm.length uc)], rfl, by rw [HCR.out.1, List.map_append]; exact HF3.out, by have h1 := HCR.out; have h2 := HN.out; have := h1.2.2.1 (by first | rfl | trivial); omega, by have h1 := HCR.out; have h2 := HN.out; have := h1.2.2.1 (by first | rfl | trivial); simp; omega, HP4.out⟩
          case measure => have h1 := HCR.out; have := h1.2.2.1 (by first | rfl | trivial); simp; omega
end Go.Proofs.YtejpdfenejbjdaaGreatDoor

namespace Go.Proofs.YtejpdfenejbjdaaGreatDoor
open Go.RowKit Txt
set_option linter.unusedVariables false
set_option linter.unusedSimpArgs false

def evFirst : List Ev → List Ev → Nat → Int
  | [], [], _ => -1
  | a :: l, b :: m, k => if evSame a b then evFirst l m (k + 1) else k
  | [], _ :: _, k => k
  | _ :: _, [], k => k
theorem evFirst_step {l m : List Ev} {k : Nat} (h1 : k < l.length) (h2 : k < m.length) : evFirst (l.drop k) (m.drop k) k = if evSame l[k] m[k] then evFirst (l.drop (k + 1)) (m.drop (k + 1)) (k + 1) else k := by
  rw [List.drop_eq_getElem_cons h1, List.drop_eq_getElem_cons h2, evFirst]
theorem evFirst_end {l m : List Ev} {k : Nat} (h1 : l.length ≤ k) (h2 : m.length ≤ k) : evFirst (l.drop k) (m.drop k) k = -1 := by
  rw [List.drop_of_length_le h1, List.drop_of_length_le h2, evFirst]
theorem evFirst_left {l m : List Ev} {k : Nat} (h1 : l.length ≤ k) (h2 : k < m.length) : evFirst (l.drop k) (m.drop k) k = k := by
  rw [List.drop_of_length_le h1, List.drop_eq_getElem_cons h2, evFirst]
theorem evFirst_right {l m : List Ev} {k : Nat} (h1 : k < l.length) (h2 : m.length ≤ k) : evFirst (l.drop k) (m.drop k) k = k := by
  rw [List.drop_of_length_le h2, List.drop_eq_getElem_cons h1, evFirst]
theorem evFirst_self (l : List Ev) : ∀ k, evFirst l l k = -1 := by
  induction l with
  | nil => intro k; rfl
  | cons a l ih => intro k; rw [evFirst, evSame_self, if_pos rfl]; exact ih _

set_option maxHeartbeats 4000000 in
set_option maxRecDepth 100000 in
theorem tfirst_calls (x y : Value) (ps qs : List (Ev × Value)) (w : World) (hx : SeesE w x ps) (hy : SeesE w y qs) (hxs : ∀ p ∈ ps, SeesT w p.2 p.1.term) (hys : ∀ p ∈ qs, SeesT w p.2 p.1.term) (hl : ∀ p ∈ qs, p.1.term.length ≤ 4398046511104) (hn1 : ps.length ≤ 140737488355328) (hn2 : qs.length ≤ 140737488355328) :
    Calls Tryz.prog 26 #[x, y] w fun e w' => e = .returned (.int .i64 (evFirst (ps.map (·.1)) (qs.map (·.1)) 0)) ∧ Below w.heap.size w w' := by
  have HX := Lib.hid hx
  have HY := Lib.hid hy
  obtain ⟨A, ca, rfl, hca, -⟩ := hx
  obtain ⟨B, cb, rfl, hcb, -⟩ := hy
  have HXS := Lib.hid hxs; clear hxs
  have HYS := Lib.hid hys; clear hys
  have HL := Lib.hid hl; clear hl
  generalize hR : evFirst (ps.map (·.1)) (qs.map (·.1)) 0 = R
  have HR := Lib.hid hR; clear hR
  obtain ⟨n, hn⟩ : ∃ n, ps.length = n := ⟨_, rfl⟩
  rw [hn] at hca HX hn1 ⊢
  have HN := Lib.hid hn; clear hn
  obtain ⟨m, hm⟩ : ∃ m, qs.length = m := ⟨_, rfl⟩
  rw [hm] at hcb HY hn2 ⊢
  have HM := Lib.hid hm; clear hm
  obtain ⟨M, hM⟩ : ∃ M, min n m = M := ⟨_, rfl⟩
  have hM2 : min (n : Int) (m : Int) = (M : Int) := by rw [← hM]; omega
  have hM3 : M ≤ n ∧ M ≤ m ∧ (M = n ∨ M = m) := by omega
  go_enter Tryz.func26, Tryz.ntmps26
  go_wp2_with fail
  go_loopw [11] (fun i wr => ∃ k : Nat, k ≤ M ∧ i = .int .i64 k ∧ Hid (Below w.heap.size w wr) ∧ evFirst ((ps.map (·.1)).drop k) ((qs.map (·.1)).drop k) k = R) (fun i _ => M - (intOf i).toNat)
  case atStart => exact ⟨0, Nat.zero_le _, rfl, Lib.hid (Below.refl _ _), HR.out⟩
  case round =>
    obtain ⟨k, hk, rfl, HB, hf⟩ := hrel
    by_cases hlt : k < M
    · have t0 : decide ((k : Int) < (M : Int)) = true := decide_eq_true (by omega)
      have t0' : decide (k < M) = true := decide_eq_true hlt
      have hp : k < ps.length := by have := HN.out; omega
      have hq : k < qs.length := by have := HM.out; omega
      obtain ⟨ad, _, hxe, -, ha⟩ := HX.out.at5 k hp
      obtain rfl : A = some ad := by injection hxe
      obtain ⟨bd, _, hye, -, hb⟩ := HY.out.at5 k hq
      obtain rfl : B = some bd := by injection hye
      clear hxe hye
      have hs1 := HXS.out _ (List.getElem_mem hp)
      have hs2 := HYS.out _ (List.getElem_mem hq)
      have hl1 := HL.out _ (List.getElem_mem hq)
      have hst := evFirst_step (l := ps.map (·.1)) (m := qs.map (·.1)) (k := k) (by simpa using hp) (by simpa using hq)
      rw [hf] at hst
      rw [List.getElem_map, List.getElem_map] at hst
      generalize ps[k] = p at *
      generalize qs[k] = q at *
      obtain ⟨⟨ek, tick, pid, bb, t⟩, u⟩ := p
      obtain ⟨⟨fk, fick, fid, fb, t2⟩, v⟩ := q
      dsimp only at *
      clear hp hq
      have hsame : ∀ W, Below w.heap.size w W → Calls Tryz.prog 12 #[evV ⟨ek, tick, pid, bb, t⟩ u, evV ⟨fk, fick, fid, fb, t2⟩ v] W fun e w' => e = .returned (.bool (evSame ⟨ek, tick, pid, bb, t⟩ ⟨fk, fick, fid, fb, t2⟩)) ∧ Below W.heap.size W w' := by
        intro W hW
        exact tsame_calls ⟨ek, tick, pid, bb, t⟩ ⟨fk, fick, fid, fb, t2⟩ u v W (hs1.below hW) (hs2.below hW) hl1
      obtain ⟨sm, hsm⟩ : ∃ sm, evSame ⟨ek, tick, pid, bb, t⟩ ⟨fk, fick, fid, fb, t2⟩ = sm := ⟨_, rfl⟩
      rw [hsm] at hst
      simp only [hsm] at hsame
      clear hsm
      obtain ⟨U, uc, rfl, -, -⟩ := hs1
      obtain ⟨V, vc, rfl, -, -⟩ := hs2
      unfold evV at hsame
      dsimp only at hsame
      have hkeep : ∀ W, Below w.heap.size w W → At5 W (ad.add (k * 5)) ⟨ek, tick, pid, bb, t⟩ (.slice U t.length uc) ∧ At5 W (bd.add (k * 5)) ⟨fk, fick, fid, fb, t2⟩ (.slice V t2.length vc) ∧ Below w.heap.size w W := fun W hW => ⟨ha.below hW, hb.below hW, hW⟩
      unfold At5 at hkeep
      dsimp only at hkeep
      have HC := Lib.hid hsame; have HK := Lib.hid hkeep; have HST := Lib.hid hst
      clear hsame ha hb hkeep hst hf hl1
      have hki : (k : Int) < (n : Int) := by omega
      have hki2 : (k : Int) < (m : Int) := by omega
      go_wp2_with fail
      have HLT := Lib.hid hlt
      have hb0 : Below w.heap.size w wr.drew := HB.out.trans ((Below.refl wr.heap.size wr).drew.mono HB.out.size)
      go_region_held3 (fun w' => (w'.cell? (ad.add (k * 5)) = some (.int .i64 ek) ∧ w'.cell? ⟨(ad.add (k * 5)).block, (ad.add (k * 5)).off + 1, none⟩ = some (.int .i64 tick) ∧ w'.cell? ⟨(ad.add (k * 5)).block, (ad.add (k * 5)).off + 2, none⟩ = some (.int .i64 pid) ∧ w'.cell? ⟨(ad.add (k * 5)).block, (ad.add (k * 5)).off + 3, none⟩ = some (.int .i64 bb) ∧ w'.cell? ⟨(ad.add (k * 5)).block, (ad.add (k * 5)).off + 4, none⟩ = some (.slice U t.length uc)) ∧ (w'.cell? (bd.add (k * 5)) = some (.int .i64 fk) ∧ w'.cell? ⟨(bd.add (k * 5)).block, (bd.add (k * 5)).off + 1, none⟩ = some (.int .i64 fick) ∧ w'.cell? ⟨(bd.add (k * 5)).block, (bd.add (k * 5)).off + 2, none⟩ = some (.int .i64 fid) ∧ w'.cell? ⟨(bd.add (k * 5)).block, (bd.add (k * 5)).off + 3, none⟩ = some (.int .i64 fb) ∧ w'.cell? ⟨(bd.add (k * 5)).block, (bd.add (k * 5)).off + 4, none⟩ = some (.slice V t2.length vc)) ∧ Below w.heap.size w w')
        (exact HK.out _ (by assumption))
        (first | (go_at_call 12; have hz := (by assumption : _ ∧ _ ∧ Below w.heap.size w _).2.2; refine (HC.out _ hz).mono ?_; rintro e w1 ⟨rfl, hb1⟩; have hz1 : Below w.heap.size w w1 := hz.trans (hb1.mono hz.size); clear hb1 hz))
      have hz := (by assumption : Below w.heap.size w w1)
      have HZ := Lib.hid hz; clear hz
      cases sm with
      | false =>
        have hR := HST.out
        rw [if_neg (by decide)] at hR
        subst hR
        go_wp2
        go_ret
        exact ⟨rfl, HZ.out⟩
      | true =>
        have hR := HST.out
        rw [if_pos rfl] at hR
        have HR2 := Lib.hid hR.symm; clear hR
        go_wp2
        go_roundw
        case rel => exact ⟨k + 1, by have := HLT.out; omega, by go_num, HZ, HR2.out⟩
        case measure => have := HLT.out; simp [intOf]; omega
    · have t0 : decide ((k : Int) < (M : Int)) = false := decide_eq_false (by omega)
      have t0' : decide (k < M) = false := decide_eq_false hlt
      have hkM : k = M := by omega
      subst hkM
      have hn' := HN.out
      have hm' := HM.out
      by_cases hnm : n = m
      · have hR : R = -1 := by rw [← hf]; exact evFirst_end (by simp; omega) (by simp; omega)
        have b1 : ((n : Int) == (m : Int)) = true := by rw [beq_iff_eq]; omega
        have HNM := Lib.hid hnm
        clear hf hnm hn' hm'
        subst hR
        go_wp2_with fail
        go_ret
        exact ⟨rfl, HB.out⟩
      · have hR : R = (k : Int) := by
          rw [← hf]
          rcases Nat.lt_or_ge n m with h | h
          · exact evFirst_left (by simp; omega) (by simp; omega)
          · exact evFirst_right (by simp; omega) (by simp; omega)
        have b1 : ((n : Int) == (m : Int)) = false := by rw [beq_eq_false_iff_ne]; omega
        clear hf hn' hm'
        subst hR
        go_wp2_with fail
        go_ret
        exact ⟨rfl, HB.out⟩

set_option maxHeartbeats 4000000 in
set_option maxRecDepth 100000 in
theorem rfirst_calls (x y : Value) (ps qs : List (Ev × Value)) (w : World) (hx : SeesE w x ps) (hy : SeesE w y qs) (hxs : ∀ p ∈ ps, SeesT w p.2 p.1.term) (hys : ∀ p ∈ qs, SeesT w p.2 p.1.term) (hl : ∀ p ∈ qs, p.1.term.length ≤ 4398046511104) (hn1 : ps.length ≤ 140737488355328) (hn2 : qs.length ≤ 140737488355328) :
    Calls Tryz.prog 27 #[x, y] w fun e w' => e = .returned (.int .i64 (evFirst (ps.map (·.1)) (qs.map (·.1)) 0)) ∧ Below w.heap.size w w' := by
  have HX := Lib.hid hx
  have HY := Lib.hid hy
  obtain ⟨A, ca, rfl, hca, -⟩ := hx
  obtain ⟨B, cb, rfl, hcb, -⟩ := hy
  have HXS := Lib.hid hxs; clear hxs
  have HYS := Lib.hid hys; clear hys
  have HL := Lib.hid hl; clear hl
  generalize hR : evFirst (ps.map (·.1)) (qs.map (·.1)) 0 = R
  have HR := Lib.hid hR; clear hR
  obtain ⟨n, hn⟩ : ∃ n, ps.length = n := ⟨_, rfl⟩
  rw [hn] at hca HX hn1 ⊢
  have HN := Lib.hid hn; clear hn
  obtain ⟨m, hm⟩ : ∃ m, qs.length = m := ⟨_, rfl⟩
  rw [hm] at hcb HY hn2 ⊢
  have HM := Lib.hid hm; clear hm
  go_enter Tryz.func27, Tryz.ntmps27
  go_wp2_with fail
  go_loopw [5] (fun i wr => ∃ k : Nat, (k ≤ n ∨ k ≤ m) ∧ i = .int .i64 k ∧ Hid (Below w.heap.size w wr) ∧ evFirst ((ps.map (·.1)).drop k) ((qs.map (·.1)).drop k) k = R) (fun i _ => max n m - (intOf i).toNat)
  case atStart => exact ⟨0, .inl (Nat.zero_le _), rfl, Lib.hid (Below.refl _ _), HR.out⟩
  case round =>
    obtain ⟨k, hk, rfl, HB, hf⟩ := hrel
    have HKN := Lib.hid hk; clear hk
    by_cases hn' : k < n
    · have t0 : decide ((k : Int) < (n : Int)) = true := decide_eq_true (by omega)
      have t0' : decide (k < n) = true := decide_eq_true hn'
      have t1 : decide ((n : Int) ≤ (k : Int)) = false := decide_eq_false (by omega)
      have t1' : decide (n ≤ k) = false := decide_eq_false (by omega)
      by_cases hm' : k < m
      · have t3 : decide ((m : Int) ≤ (k : Int)) = false := decide_eq_false (by omega)
        have t3' : decide (m ≤ k) = false := decide_eq_false (by omega)
        have hp : k < ps.length := by have := HN.out; omega
        have hq : k < qs.length := by have := HM.out; omega
        obtain ⟨ad, _, hxe, -, ha⟩ := HX.out.at5 k hp
        obtain rfl : A = some ad := by injection hxe
        obtain ⟨bd, _, hye, -, hb⟩ := HY.out.at5 k hq
        obtain rfl : B = some bd := by injection hye
        clear hxe hye
        have hs1 := HXS.out _ (List.getElem_mem hp)
        have hs2 := HYS.out _ (List.getElem_mem hq)
        have hl1 := HL.out _ (List.getElem_mem hq)
        have hst := evFirst_step (l := ps.map (·.1)) (m := qs.map (·.1)) (k := k) (by simpa using hp) (by simpa using hq)
        rw [hf] at hst
        rw [List.getElem_map, List.getElem_map] at hst
        generalize ps[k] = p at *
        generalize qs[k] = q at *
        obtain ⟨⟨ek, tick, pid, bb, t⟩, u⟩ := p
        obtain ⟨⟨fk, fick, fid, fb, t2⟩, v⟩ := q
        dsimp only at *
        clear hp hq
        have hsame : ∀ W, Below w.heap.size w W → Calls Tryz.prog 13 #[evV ⟨ek, tick, pid, bb, t⟩ u, evV ⟨fk, fick, fid, fb, t2⟩ v] W fun e w' => e = .returned (.bool (evSame ⟨ek, tick, pid, bb, t⟩ ⟨fk, fick, fid, fb, t2⟩)) ∧ Below W.heap.size W w' := by
          intro W hW
          exact rsame_calls ⟨ek, tick, pid, bb, t⟩ ⟨fk, fick, fid, fb, t2⟩ u v W (hs1.below hW) (hs2.below hW) hl1
        obtain ⟨sm, hsm⟩ : ∃ sm, evSame ⟨ek, tick, pid, bb, t⟩ ⟨fk, fick, fid, fb, t2⟩ = sm := ⟨_, rfl⟩
        rw [hsm] at hst
        simp only [hsm] at hsame
        clear hsm
        obtain ⟨U, uc, rfl, -, -⟩ := hs1
        obtain ⟨V, vc, rfl, -, -⟩ := hs2
        unfold evV at hsame
        dsimp only at hsame
        have hkeep : ∀ W, Below w.heap.size w W → At5 W (ad.add (k * 5)) ⟨ek, tick, pid, bb, t⟩ (.slice U t.length uc) ∧ At5 W (bd.add (k * 5)) ⟨fk, fick, fid, fb, t2⟩ (.slice V t2.length vc) ∧ Below w.heap.size w W := fun W hW => ⟨ha.below hW, hb.below hW, hW⟩
        unfold At5 at hkeep
        dsimp only at hkeep
        have HC := Lib.hid hsame; have HK := Lib.hid hkeep; have HST := Lib.hid hst
        clear hsame ha hb hkeep hst hf hl1
        have hki : (k : Int) < (n : Int) := by omega
        have hki2 : (k : Int) < (m : Int) := by omega
        have HLT := Lib.hid (And.intro hn' hm')
        go_wp2_with fail
        have hb0 : Below w.heap.size w wr.drew := HB.out.trans ((Below.refl wr.heap.size wr).drew.mono HB.out.size)
        go_region_held3 (fun w' => (w'.cell? (ad.add (k * 5)) = some (.int .i64 ek) ∧ w'.cell? ⟨(ad.add (k * 5)).block, (ad.add (k * 5)).off + 1, none⟩ = some (.int .i64 tick) ∧ w'.cell? ⟨(ad.add (k * 5)).block, (ad.add (k * 5)).off + 2, none⟩ = some (.int .i64 pid) ∧ w'.cell? ⟨(ad.add (k * 5)).block, (ad.add (k * 5)).off + 3, none⟩ = some (.int .i64 bb) ∧ w'.cell? ⟨(ad.add (k * 5)).block, (ad.add (k * 5)).off + 4, none⟩ = some (.slice U t.length uc)) ∧ (w'.cell? (bd.add (k * 5)) = some (.int .i64 fk) ∧ w'.cell? ⟨(bd.add (k * 5)).block, (bd.add (k * 5)).off + 1, none⟩ = some (.int .i64 fick) ∧ w'.cell? ⟨(bd.add (k * 5)).block, (bd.add (k * 5)).off + 2, none⟩ = some (.int .i64 fid) ∧ w'.cell? ⟨(bd.add (k * 5)).block, (bd.add (k * 5)).off + 3, none⟩ = some (.int .i64 fb) ∧ w'.cell? ⟨(bd.add (k * 5)).block, (bd.add (k * 5)).off + 4, none⟩ = some (.slice V t2.length vc)) ∧ Below w.heap.size w w')
          (exact HK.out _ (by assumption))
          (first | (go_at_call 13; have hz := (by assumption : _ ∧ _ ∧ Below w.heap.size w _).2.2; refine (HC.out _ hz).mono ?_; rintro e w1 ⟨rfl, hb1⟩; have hz1 : Below w.heap.size w w1 := hz.trans (hb1.mono hz.size); clear hb1 hz))
        have hz := (by assumption : Below w.heap.size w w1)
        have HZ := Lib.hid hz; clear hz
        cases sm with
        | false =>
          have hR := HST.out
          rw [if_neg (by decide)] at hR
          subst hR
          go_wp2
          go_ret
          exact ⟨rfl, HZ.out⟩
        | true =>
          have hR := HST.out
          rw [if_pos rfl] at hR
          have HR2 := Lib.hid hR.symm; clear hR
          go_wp2
          go_roundw
          case rel => exact ⟨k + 1, by have := HLT.out; omega, by go_num, HZ, HR2.out⟩
          case measure => have := HLT.out; simp [intOf]; omega

      · have t3 : decide ((m : Int) ≤ (k : Int)) = true := decide_eq_true (by omega)
        have t3' : decide (m ≤ k) = true := decide_eq_true (by omega)
        have hR : R = (k : Int) := by rw [← hf]; exact evFirst_right (by have := HN.out; simp; omega) (by have := HM.out; simp; omega)
        clear hf
        subst hR
        have hb0 : Below w.heap.size w wr.drew := HB.out.trans ((Below.refl wr.heap.size wr).drew.mono HB.out.size)
        go_wp2_with fail
        go_region
        all_goals
          go_wp2
          go_ret
          exact ⟨rfl, by assumption⟩
    · have t0 : decide ((k : Int) < (n : Int)) = false := decide_eq_false (by omega)
      have t0' : decide (k < n) = false := decide_eq_false hn'
      have t1 : decide ((n : Int) ≤ (k : Int)) = true := decide_eq_true (by omega)
      have t1' : decide (n ≤ k) = true := decide_eq_true (by omega)
      by_cases hm' : k < m
      · have t3 : decide ((k : Int) < (m : Int)) = true := decide_eq_true (by omega)
        have t3' : decide (k < m) = true := decide_eq_true hm'
        have hR : R = (k : Int) := by rw [← hf]; exact evFirst_left (by have := HN.out; simp; omega) (by have := HM.out; simp; omega)
        clear hf
        subst hR
        have hb0 : Below w.heap.size w wr.drew := HB.out.trans ((Below.refl wr.heap.size wr).drew.mono HB.out.size)
        go_wp2_with fail
        go_region
        all_goals
          go_wp2
          go_ret
          exact ⟨rfl, by assumption⟩
      · have t3 : decide ((k : Int) < (m : Int)) = false := decide_eq_false (by omega)
        have t3' : decide (k < m) = false := decide_eq_false hm'
        have hR : R = -1 := by rw [← hf]; exact evFirst_end (by have := HN.out; simp; omega) (by have := HM.out; simp; omega)
        clear hf
        subst hR
        go_wp2_with fail
        go_ret
        exact ⟨rfl, HB.out⟩
end Go.Proofs.YtejpdfenejbjdaaGreatDoor

namespace Go.Proofs.YtejpdfenejbjdaaGreatDoor
open Go.RowKit Txt
set_option linter.unusedVariables false
set_option linter.unusedSimpArgs false

theorem evsOk_fst {ps qs : List (Ev × Value)} (h : EvsOk ps) (he : qs.map (·.1) = ps.map (·.1)) : EvsOk qs := fun q hq => by
  have h1 : q.1 ∈ ps.map (·.1) := by rw [← he]; exact List.mem_map_of_mem hq
  obtain ⟨p, hp, e⟩ := List.mem_map.1 h1
  have := h p hp
  rw [e] at this; exact this
theorem evsOk_len {ps : List (Ev × Value)} (h : EvsOk ps) : ∀ p ∈ ps, p.1.term.length ≤ 4398046511104 := fun p hp => by
  have := (h p hp).2.2.2.2.2; omega

set_option maxHeartbeats 8000000 in
set_option maxRecDepth 100000 in
theorem twrites_calls (x y : Value) (ps ms : List (Ev × Value)) (w : World) (hx : SeesE w x ps) (hy : SeesE w y ms) (hxs : ∀ p ∈ ps, SeesT w p.2 p.1.term) (hys : ∀ p ∈ ms, SeesT w p.2 p.1.term) (hok : EvsOk ps) (hom : EvsOk ms) (hn : ps.length * 56 ≤ 140737488351232) (hm : ms.length * 56 ≤ 140737488351232) (ht : TabsT w) :
    Calls Tryz.prog 5 #[x, y] w fun e w' => e = .returned (.bool true) ∧ Below w.heap.size w w' := by
  have hle := elent_calls x ps w hx hxs (fun p hp => (hok p hp).2.2.2.2.2) (by omega)
  have HX := Lib.hid hx; have HY := Lib.hid hy; have HXS := Lib.hid hxs; have HYS := Lib.hid hys; have HOK := Lib.hid hok; have HOM := Lib.hid hom; have HT := Lib.hid ht; have HLE := Lib.hid hle
  obtain ⟨A, ca, rfl, -, -⟩ := hx
  obtain ⟨B, cb, rfl, -, -⟩ := hy
  have HNM := Lib.hid (And.intro hn hm)
  clear hxs hys hok hom ht hle hn hm
  go_enter Tryz.func5, Tryz.ntmps5
  go_wp2_with fail
  refine HLE.out.mono ?_
  rintro e w1 ⟨g, cap, qs, rfl, hg, hql, hlen, hall, hfst, hb1⟩
  have HB1 := Lib.hid hb1; have HLN := Lib.hid hlen; have HALL := Lib.hid hall; have HF := Lib.hid hfst; have HQL := Lib.hid hql
  have hqs : ∀ W, Below w1.heap.size w1 W → ∀ q ∈ qs, SeesT W q.2 q.1.term := fun W hW q hq => by
    obtain ⟨g', c', h1, -⟩ := HALL.out q hq
    exact (h1.below hW).sees
  have HQS := Lib.hid hqs
  have hokq : EvsOk qs := evsOk_fst HOK.out hfst
  have hsq : SeesE w1 (.slice (some ⟨g, 0, none⟩) ps.length cap) qs := hlen.sees
  have h1 := tprintAllE_calls _ qs w1 hsq (hqs w1 (Below.refl _ _)) hokq (by rw [hql]; have := HNM.out; omega) (HT.out.tabs.below hb1)
  rw [hfst] at h1
  have h2 := fun W (hW : Below w.heap.size w W) => rprintAllE_calls _ ps W (HX.out.below hW) (fun p hp => (HXS.out p hp).below hW) HOK.out (by have := HNM.out; omega) (HT.out.tabs.below hW)
  have hpp := fun r n h => parseAll_printAll encode_rune (l := ps.map (·.1)) (r := r) (n := n) (fun e he => by
    obtain ⟨p, hp, rfl⟩ := List.mem_map.1 he
    exact (HOK.out p hp).2.1) h
  generalize evPrintAll (ps.map (·.1)) = P at *
  obtain ⟨PT, PE, PI⟩ := P
  dsimp only at h1 h2
  have hPB : (Txt.bytes PT).data.toList = PT := bytes_data _
  generalize Txt.bytes PT = PB at *
  have HPB := Lib.hid hPB; have HPP := Lib.hid hpp; have H1 := Lib.hid h1; have H2 := Lib.hid h2; have HOKQ := Lib.hid hokq; have HSQ := Lib.hid hsq
  clear hPB hpp h1 h2 hokq hsq hqs hb1 hlen hall hfst hql hg
  go_wp2_with fail
  refine H1.out.mono ?_
  rintro e w2 ⟨rfl, hb2⟩
  have HB2 := Lib.hid hb2
  have HW2 := Lib.hid (HB1.out.trans (hb2.mono HB1.out.size)); clear hb2
  go_wp2_with fail
  refine (H2.out w2 HW2.out).mono ?_
  rintro e w3 ⟨rfl, hb3⟩
  have HB3 := Lib.hid (HB2.out.trans (hb3.mono HB2.out.size))
  have HW3 := Lib.hid (HW2.out.trans (hb3.mono HW2.out.size)); clear hb3 H1 H2 HB2 HW2
  have hkp := kept28_calls (.slice (some ⟨g, 0, none⟩) ps.length cap) (.slice A ps.length ca) qs ps g cap w.heap.size w3 (HLN.out.below HB3.out) (HX.out.below HW3.out) (HALL.out.below HB3.out) (fun p hp => (HXS.out p hp).below HW3.out) (evsOk_len HOKQ.out) HF.out (by rw [HQL.out]; have := HNM.out; omega)
  have HKP := Lib.hid hkp; clear hkp
  go_wp2_with fail
  refine HKP.out.mono ?_
  rintro e w4 ⟨rfl, hb4⟩
  have HB4 := Lib.hid (HB3.out.trans (hb4.mono HB3.out.size))
  have HW4 := Lib.hid (HW3.out.trans (hb4.mono HW3.out.size)); clear hb4 HKP HB3 HW3
  have hf1 := tfirst_calls (.slice (some ⟨g, 0, none⟩) ps.length cap) (.slice B ms.length cb) qs ms w4 (HSQ.out.below HB4.out) (HY.out.below HW4.out) (HQS.out w4 HB4.out) (fun p hp => (HYS.out p hp).below HW4.out) (evsOk_len HOM.out) (by rw [HQL.out]; have := HNM.out; omega) (by have := HNM.out; omega)
  have hf2 := fun W (hW : Below w.heap.size w W) => rfirst_calls (.slice A ps.length ca) (.slice B ms.length cb) ps ms W (HX.out.below hW) (HY.out.below hW) (fun p hp => (HXS.out p hp).below hW) (fun p hp => (HYS.out p hp).below hW) (evsOk_len HOM.out) (by have := HNM.out; omega) (by have := HNM.out; omega)
  rw [HF.out] at hf1
  generalize evFirst (ps.map (·.1)) (ms.map (·.1)) 0 = FI at *
  have HF1 := Lib.hid hf1; have HF2 := Lib.hid hf2; clear hf1 hf2
  go_wp2_with fail
  refine HF1.out.mono ?_
  rintro e w5 ⟨rfl, hb5⟩
  have HW5 := Lib.hid (HW4.out.trans (hb5.mono HW4.out.size)); clear hb5 HF1 HW4
  go_wp2_with fail
  refine (HF2.out w5 HW5.out).mono ?_
  rintro e w6 ⟨rfl, hb6⟩
  have HW6 := Lib.hid (HW5.out.trans (hb6.mono HW5.out.size)); clear hb6 HF2 HW5
  by_cases hpe : PE = 0
  · subst hpe
    have hpp := HPP.out PT PI rfl
    have hpz : PB.size = PT.length := by rw [← HPB.out]; simp
    have hpa := tparseAllE_calls PB w6 (HT.out.below HW6.out) (by omega)
    rw [HPB.out, hpp.1] at hpa
    have HPA := Lib.hid hpa; clear hpa hpp hpz
    go_wp2_with fail
    refine HPA.out.mono ?_
    rintro e w7 ⟨v, zs, rfl, hpi, hzs⟩
    have HPI := Lib.hid hpi; have HZS := Lib.hid hzs
    obtain ⟨C, nc, cc, rfl⟩ := own_slice hpi.own
    have HW7 := Lib.hid (HW6.out.trans (hpi.be.mono HW6.out.size))
    have hse := seesE_own hpi.own rfl
    have hsa := rsameAllE_calls (.slice C nc cc) (.slice A ps.length ca) zs ps w7 hse (HX.out.below HW7.out) (fun q hq => (hpi.tm q hq).1) (fun p hp => (HXS.out p hp).below HW7.out) (evsOk_len (evsOk_fst HOK.out hzs)) hzs (by have := congrArg List.length hzs; rw [List.length_map, List.length_map] at this; have := HNM.out; omega)
    have HSA := Lib.hid hsa; clear hsa hse hpi hzs
    dsimp only
    go_wp2_with fail
    refine HSA.out.mono ?_
    rintro e w8 ⟨rfl, hb8⟩
    have HW8 := Lib.hid (HW7.out.trans (hb8.mono HW7.out.size)); clear hb8
    have hf3 := tfirst_calls (.slice A ps.length ca) (.slice A ps.length ca) ps ps w8 (HX.out.below HW8.out) (HX.out.below HW8.out) (fun p hp => (HXS.out p hp).below HW8.out) (fun p hp => (HXS.out p hp).below HW8.out) (evsOk_len HOK.out) (by have := HNM.out; omega) (by have := HNM.out; omega)
    rw [evFirst_self] at hf3
    have HF3 := Lib.hid hf3; clear hf3
    go_wp2_with fail
    refine HF3.out.mono ?_
    rintro e w9 ⟨rfl, hb9⟩
    have HW9 := Lib.hid (HW8.out.trans (hb9.mono HW8.out.size)); clear hb9
    go_wp2_with fail
    refine (awake_calls _ (HT.out.below HW9.out)).mono ?_
    rintro e w10 ⟨rfl, hb10⟩
    have HWA := Lib.hid (HW9.out.trans (hb10.mono HW9.out.size)); clear hb10
    go_wp2
    go_ret
    exact ⟨rfl, HWA.out⟩
  · have hne : (PE != 0) = true := by simpa using hpe
    go_wp2_with fail
    refine (awake_calls _ (HT.out.below HW6.out)).mono ?_
    rintro e w7 ⟨rfl, hb7⟩
    have HW7 := Lib.hid (HW6.out.trans (hb7.mono HW6.out.size)); clear hb7
    go_wp2
    go_ret
    exact ⟨rfl, HW7.out⟩
end Go.Proofs.YtejpdfenejbjdaaGreatDoor

namespace Go.Proofs.YtejpdfenejbjdaaGreatDoor
open Go.ChangeShapes Go.WideShapes Go.ChangeAt Go.RowKit Go.Lib Go.Deep Txt
set_option linter.unusedVariables false
set_option linter.unusedSimpArgs false

variable {H : Type} {enc : TypeId × Value → H} {w : World} {base : Nat} {spare : Nat → Bool} {held : Bool}
theorem open_evs {fuel : Nat} {cs : List Value} {x : DataW H × List MemPlace} (h : DataW.trod enc Tryz.prog w base spare held fuel 25 cs = some x) (hw : (x.1.weights Tryz.prog 25).all (· ≤ reachBytes) = true) :
    ∃ (v : Value) (ps : List (Ev × Value)), cs = [v] ∧ SeesE w v ps ∧ (∀ p ∈ ps, SeesT w p.2 p.1.term) ∧ EvsOk ps ∧ ps.length * 56 ≤ 140737488351232 := by
  rcases open_slice Tryz.underlying25 h with ⟨rfl, rfl⟩ | ⟨a, len, cap, m, n, D, Pl, rfl, hb, hl, hm, hmm, rfl, hi⟩
  · exact ⟨_, [], rfl, ⟨none, 0, rfl, Nat.le_refl _, fun h => absurd rfl h⟩, fun c hc => (by cases hc), fun c hc => (by cases hc), by simp⟩
  · have hlm : len ≤ m := by rw [hmm]; split <;> omega
    have hce : Tryz.prog.cellsOf 24 = 5 := by kernel_rfl
    have hall : ∀ i, i < len → ∃ q : Ev × (Option Addr × Nat), w.cells? base (a.add (i * 5)) 5 = some (ec q.1 (.slice q.2.1 q.1.term.length q.2.2)) ∧ EvIn w q.1 q.2.1 q.2.2 := by
      intro i hil
      obtain ⟨cs', h1, h2⟩ := hi i (by omega)
      have hwi : ((D i).weights Tryz.prog 24).all (· ≤ reachBytes) = true := List.all_eq_true.2 fun n hn => List.all_eq_true.1 hw n (by
        rw [DataW.weights]
        simp only [Tryz.underlying25]
        exact List.mem_cons_of_mem _ (List.mem_append_left _ (weightsAll_mem (d := D i) (List.mem_map.2 ⟨i, List.mem_range.2 hil, rfl⟩) hn)))
      obtain ⟨e, A, c, rfl, hin⟩ := trod_ev h2 hwi
      rw [hce] at h1
      exact ⟨(e, A, c), h1, hin⟩
    haveI : Inhabited (Ev × (Option Addr × Nat)) := ⟨(⟨0, 0, 0, 0, []⟩, none, 0)⟩
    obtain ⟨C, hC⟩ := choose_lt hall
    have ht : ((List.range len).map fun i => ((C i).1, Value.slice (C i).2.1 (C i).1.term.length (C i).2.2)).length = len := by simp
    obtain ⟨ps, hps⟩ : ∃ ps : List (Ev × Value), ((List.range len).map fun i => ((C i).1, Value.slice (C i).2.1 (C i).1.term.length (C i).2.2)) = ps := ⟨_, rfl⟩
    have hat : ∀ i (h : i < ps.length), ps[i] = ((C i).1, Value.slice (C i).2.1 (C i).1.term.length (C i).2.2) := by
      intro i h; subst hps; simp
    rw [hps] at ht
    refine ⟨_, ps, rfl, ⟨some a, cap, by rw [ht], by rw [ht]; exact hl, fun _ => ⟨a, rfl, fun j u hj => ?_⟩⟩, fun p hp => ?_, fun p hp => ?_, ?_⟩
    · have hjl : j < len * 5 := by
        have := (List.getElem?_eq_some_iff.1 hj).1
        rw [ecs_length, ht] at this; exact this
      have hi3 : j / 5 < len := by omega
      have hd : j = (j / 5) * 5 + j % 5 := by omega
      have hcv := ecs_at ps (j / 5) (j % 5) (by omega) (by omega)
      rw [← hd, hj, hat] at hcv
      obtain ⟨_, -, hatc⟩ := World.cells?_some (hC _ hi3).1
      have := hatc (j % 5) (by omega)
      rw [add_add, ← hd] at this
      rw [this, hcv]
    · obtain ⟨i, hi', rfl⟩ := List.getElem_of_mem hp
      rw [hat i hi']
      exact (hC i (by omega)).2.sees
    · obtain ⟨i, hi', rfl⟩ := List.getElem_of_mem hp
      rw [hat i hi']
      have h := (hC i (by omega)).2
      exact ⟨h.texts, h.fits, h.tick, h.pid, h.by_, h.len⟩
    · rw [ht]
      have := List.all_eq_true.1 hw ((((List.range len).map D).length + ((List.range (m - len)).map fun j => D (len + j)).length) * Tryz.prog.bytesOf 24) (by
        rw [DataW.weights]
        simp only [Tryz.underlying25]
        exact List.mem_cons_self)
      have e : Tryz.prog.bytesOf 24 = 56 := by kernel_rfl
      rw [e] at this
      have h2 : reachBytes = 140737488351232 := by decide
      rw [h2] at this
      simp only [decide_eq_true_eq, List.length_map, List.length_range] at this
      omega
end Go.Proofs.YtejpdfenejbjdaaGreatDoor
