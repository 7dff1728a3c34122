/- Walks: how an atom is written. -/
import Derived.Test.YtebdikbngnolbaaDoorHex
import Derived.Test.YtebdikbngnolbaaDoorRd5
import Derived.OwnWalk
namespace Go.Proofs.YtebdikbngnolbaaDoor
open Go.RowKit Txt
set_option linter.unusedVariables false
set_option linter.unusedSimpArgs false

theorem bt_own : Bt 83 2 0 := ⟨by kernel_rfl, by decide⟩
theorem Bw.of_mem {b o : Nat} {w w' : World} (h : Below w.heap.size w w') (hb : b < w.heap.size) : Bw b o w w' :=
  .of_block (h.mono (Nat.le_of_lt hb)) (fun k x hk _ _ => (h.block k (by rcases Nat.lt_or_ge k w.heap.size with h' | h'; exact h'; rw [Array.getElem?_eq_none h'] at hk; cases hk)).trans hk) (h.block b hb)
theorem Bu.iterAt {T n b o : Nat} {l : List UInt8} {w : World} {it : Nat} {s : ByteArray} {p : Nat} (h : Bu T n b o l w) (hit : w.heap[it]? = some (.stringIter s p)) (s' : ByteArray) (q : Nat) : Bu T n b o l (w.iterAt it s' q) := by
  have hne : it ≠ b := by
    rintro rfl
    have := h.shape
    simp [World.shape?, hit] at this
  have hk : (w.iterAt it s' q).heap[b]? = w.heap[b]? := Lib.iterAt_other _ _ _ _ _ (Ne.symm hne)
  obtain ⟨u, hu, ho, hn⟩ := h.v
  refine ⟨by rw [Lib.iterAt_size]; exact h.lt, (shape_block hk).trans h.shape, by rw [World.cell?_of_block (w := w) hk]; exact h.a0, ⟨u, (World.cell?_of_block (w := w) hk).trans hu, ownsRowF_keep ho fun g hg hv => ?_, hn⟩, (World.frozen?_of_block (w := w) hk).trans h.f0, (World.frozen?_of_block (w := w) hk).trans h.f1⟩
  refine Lib.iterAt_other _ _ _ _ _ ?_
  rintro rfl
  obtain ⟨c, fz, hc⟩ := Lib.ownsRowF_kind ho _ hv
  rw [hit] at hc; cases hc

/-- What holds while an atom's runes are written. -/
structure QR (it b : Nat) (w : World) (s : ByteArray) (P : List UInt8) (pos : Nat) (acc : List UInt8) (wr : World) : Prop where
  it : wr.heap[it]? = some (.stringIter s pos)
  bu : Bu 83 2 b 0 (39 :: acc) wr
  be : Below w.heap.size w wr
  eq : ∃ fuel, acc ++ piecesF s fuel pos = P ∧ s.size ≤ pos + fuel
  len : acc.length ≤ 6 * pos
  pos : pos ≤ s.size
theorem Bu.below {T n b o : Nat} {l : List UInt8} {w w' : World} (h : Bu T n b o l w) (hb : Below w.heap.size w w') : Bu T n b o l w' := by
  have hk := hb.block b h.lt
  obtain ⟨u, hu, ho, hn⟩ := h.v
  refine ⟨Nat.lt_of_lt_of_le h.lt hb.size, (shape_block hk).trans h.shape, by rw [World.cell?_of_block (w := w) hk]; exact h.a0, ⟨u, (World.cell?_of_block (w := w) hk).trans hu, ownsRowF_keep ho fun g hg hv => ?_, hn⟩, (World.frozen?_of_block (w := w) hk).trans h.f0, (World.frozen?_of_block (w := w) hk).trans h.f1⟩
  obtain ⟨c, fz, hc⟩ := Lib.ownsRowF_kind ho _ hv
  exact hb.block g (Array.getElem?_eq_some_iff.1 hc).1
theorem escape_lt (r : Nat) : escape r < 256 := by
  unfold escape
  repeat' split
  all_goals decide
theorem hexT_len (r : Nat) : (hexT r).length ≤ 2 := by
  unfold hexT; split
  · exact Nat.le_succ 1
  · exact Nat.le_refl 2
theorem piece_len (r : Nat) : (piece r).length ≤ 6 := by
  unfold piece
  have h1 := encode_le r
  have h2 := hexT_len r
  split
  · rw [List.length_cons]; omega
  · split
    · rw [List.length_cons, List.length_cons, List.length_nil]; omega
    · split
      · rw [List.length_append, List.length_append, List.length_cons, List.length_cons, List.length_cons, List.length_cons, List.length_nil]; omega
      · omega
theorem QR.step {it b : Nat} {w : World} {s : ByteArray} {P : List UInt8} {pos : Nat} {acc : List UInt8} {wr : World} (h : QR it b w s P pos acc wr) (hp : pos < s.size) (hw : w.heap.size ≤ b) (hbit : b < it) :
    Bu 83 2 b 0 (39 :: acc) (wr.iterAt it s (pos + (Utf8.decode s pos).2)) ∧ Below w.heap.size w (wr.iterAt it s (pos + (Utf8.decode s pos).2)) ∧
    (∀ w2, Bu 83 2 b 0 (39 :: (acc ++ piece (Utf8.decode s pos).1)) w2 → Bw b 0 (wr.iterAt it s (pos + (Utf8.decode s pos).2)) w2 → QR it b w s P (pos + (Utf8.decode s pos).2) (acc ++ piece (Utf8.decode s pos).1) w2) := by
  have hbu := h.bu.iterAt h.it s (pos + (Utf8.decode s pos).2)
  have hbe := Lib.below_iterAt h.be (show w.heap.size ≤ it by omega) s (pos + (Utf8.decode s pos).2)
  have hit := Lib.iterAt_heap wr it s pos (pos + (Utf8.decode s pos).2) h.it
  refine ⟨hbu, hbe, fun w2 h2 hbw => ?_⟩
  obtain ⟨fuel, he, hf⟩ := h.eq
  have hwp := width_pos s pos hp
  have hpl := piece_len (Utf8.decode s pos).1
  have hlen := h.len
  refine ⟨hbw.others it _ hit (by intro e; cases e; omega) (by intro c fz e; cases e), h2, hbe.trans (hbw.below.mono hw), ?_, by simp only [List.length_append]; omega, decode_in s pos hp⟩
  obtain ⟨fuel, rfl⟩ : ∃ f, fuel = f + 1 := ⟨fuel - 1, by omega⟩
  rw [piecesF, if_pos hp] at he
  exact ⟨fuel, by rw [List.append_assoc]; exact he, by omega⟩
theorem QR.over {it b : Nat} {w : World} {s : ByteArray} {P : List UInt8} {pos : Nat} {acc : List UInt8} {wr : World} (h : QR it b w s P pos acc wr) (hp : ¬ pos < s.size) : acc = P := by
  obtain ⟨fuel, he, hf⟩ := h.eq
  cases fuel with
  | zero => simpa [piecesF] using he
  | succ f => rw [piecesF, if_neg hp] at he; simpa using he

set_option maxHeartbeats 4000000 in
set_option maxRecDepth 100000 in
theorem quote_calls (s : ByteArray) (w : World) (hs : s.size ≤ 140737488355328) (ht : Tabs w) :
    Calls Tryd.prog 41 #[.string s] w fun e w' => e = .returned (.tuple #[.string (Txt.bytes (quote s).1), .int .i64 (quote s).2]) ∧ Below w.heap.size w w' := by
  have HT := Lib.hid ht; clear ht
  cases hok : atomOk s with
  | false =>
    have hq : quote s = ([], 20) := by unfold quote; rw [hok]; rfl
    rw [hq]
    have HOK := Lib.hid hok; clear hok hq
    go_enter Tryd.func41, Tryd.ntmps41
    go_wp2_with (go_at_call 49; refine (atomRight_calls s false _ hs HT.out HOK.out).mono ?_; rintro e w' ⟨rfl, hb⟩)
    go_ret2
    exact ⟨rfl, hb⟩
  | true =>
    have h255 : s.size ≤ 255 := by
      simp only [atomOk, Bool.and_eq_true, decide_eq_true_eq] at hok
      exact hok.1
    have hbb : Txt.bytes s.data.toList = s := by apply ByteArray.ext; simp [Txt.bytes]
    cases hba : bare s with
    | true =>
      have hq : quote s = (s.data.toList, 0) := by unfold quote; rw [hok, hba]; rfl
      rw [hq]
      simp only
      rw [hbb]
      have HOK := Lib.hid hok
      have HBA := Lib.hid hba
      clear hok hq hbb hba
      go_enter Tryd.func41, Tryd.ntmps41
      go_wp2_with (first | (go_at_call 49; refine (atomRight_calls s true _ hs HT.out HOK.out).mono ?_; rintro e w' ⟨rfl, hb⟩) | (go_at_call 56; refine (bare_calls s true _ h255 HBA.out).mono ?_; rintro e w' ⟨rfl, n, rfl⟩))
      go_ret2
      exact ⟨rfl, below_drewN hb _⟩
    | false =>
      have hq : quote s = (39 :: (piecesF s s.size 0 ++ [39]), 0) := by unfold quote; rw [hok, hba]; rfl
      rw [hq]
      simp only
      have HOK := Lib.hid hok
      have HBA := Lib.hid hba
      clear hok hq hbb hba
      go_enter Tryd.func41, Tryd.ntmps41
      go_wp2_with fail
      refine (atomRight_calls s true _ hs HT.out HOK.out).mono ?_
      rintro e w1 ⟨rfl, hb1⟩
      have HB1 := Lib.hid hb1; clear hb1
      go_wp2_with fail
      refine (bare_calls s false _ h255 HBA.out).mono ?_
      rintro e w' ⟨rfl, n, rfl⟩
      have HB2 := Lib.hid (below_drewN HB1.out n)
      generalize w1.drewN n = w2 at *
      clear HB1
      have hbu : Bu 83 2 w2.heap.size 0 [] (w2.alloc (.cells #[.pointer none, .slice none 0 0] 83)) := by
        refine ⟨by simp, by simp only [World.shape?, heap_alloc_new]; rfl, .inl (by simp only [World.cell?, heap_alloc_new]; rfl), ⟨.slice none 0 0, by simp only [World.cell?, heap_alloc_new]; rfl, ⟨by simp [Lib.byteCells], .inl ⟨rfl, rfl⟩⟩, fun _ => rfl⟩, ?_, ?_⟩
        all_goals (simp only [World.frozen?, heap_alloc_new]; rfl)
      have HBU := Lib.hid hbu; clear hbu
      go_wp2_with fail
      refine (writeByte_calls 83 2 _ 0 bt_own [] 39 _ HBU.out (by simp)).mono ?_
      rintro e w3 ⟨rfl, hb3, hbw3⟩
      have hsz2 : w.heap.size ≤ w2.heap.size := HB2.out.size
      have hlt3 := hb3.lt
      have hbe3 : Below w.heap.size w w3 := (HB2.out.alloc HB2.out.size _).trans (hbw3.below.mono hsz2)
      have HU3 := Lib.hid hb3; clear hb3
      have HE3 := Lib.hid hbe3; clear hbe3 hbw3
      have HQ0 : Hid (QR w3.heap.size w2.heap.size w s (piecesF s s.size 0) 0 [] (w3.alloc (.stringIter s 0))) := by
        refine Lib.hid ⟨World.iter_heap _ _ _, HU3.out.alloc _, HE3.out.alloc HE3.out.size _, ⟨s.size, by simp, by omega⟩, by simp, by omega⟩
      obtain ⟨P, hPdef⟩ : ∃ P, piecesF s s.size 0 = P := ⟨_, rfl⟩
      rw [hPdef] at HQ0
      have HPD := Lib.hid hPdef; clear hPdef
      go_wp2_with fail
      go_loopw [] (fun wr => ∃ pos acc, QR w3.heap.size w2.heap.size w s P pos acc wr) (fun wr => s.size - wr.iterPos w3.heap.size)
      case atStart => exact ⟨0, [], HQ0.out⟩
      case round =>
        obtain ⟨pos, acc, hqr⟩ := hrel
        have HR := Lib.hid hqr; clear hqr
        have hit := HR.out.it
        have hlast : (wr.iterPos w3.heap.size) = pos := by simp [World.iterPos, hit]
        have HL := Lib.hid hlast; clear hlast
        by_cases hp : pos < s.size
        · have hwd := width_pos s pos hp
          have hdin := decode_in s pos hp
          have hrl := Lib.rune_le s pos
          have hnx := fun ty => Lib.run_next_any_at (P := Tryd.prog) wr w3.heap.size s pos ty hit hp
          obtain ⟨hbu1, hbe1, hst⟩ := HR.out.step hp hsz2 hlt3
          have hpc : piece (Utf8.decode s pos).1 = piece (Utf8.decode s pos).1 := rfl
          have hal : acc.length ≤ 1530 := by have := HR.out.len; have := HR.out.pos; omega
          clear hit
          have HT1 := Lib.hid (HT.out.below hbe1)
          have HU1 := Lib.hid hbu1; clear hbu1
          have HST := Lib.hid hst; clear hst hpc hbe1
          generalize hw1e : wr.iterAt w3.heap.size s (pos + (Utf8.decode s pos).2) = v1 at *
          clear hw1e
          generalize hdc : Utf8.decode s pos = dc at *
          clear hdc
          obtain ⟨r, n⟩ := dc
          simp only at *
          have hend : ∀ w4, Bu 83 2 w2.heap.size 0 (39 :: (acc ++ piece r)) w4 → Bw w2.heap.size 0 v1 w4 → (∃ pos acc, QR w3.heap.size w2.heap.size w s P pos acc w4) ∧ s.size - w4.iterPos w3.heap.size < s.size - wr.iterPos w3.heap.size := by
            intro w4 h1 h2
            have h3 := HST.out w4 h1 h2
            refine ⟨⟨_, _, h3⟩, ?_⟩
            have := h3.it
            rw [HL.out]
            simp only [World.iterPos, this]; omega
          have HEND := Lib.hid hend; clear hend HST
          have hoe : (UInt8.ofNat (escape r)).toNat = escape r := by
            have := escape_lt r
            simp; omega
          have HOE := Lib.hid hoe; clear hoe
          by_cases c39 : r = 39 ∨ r = 92
          · have hcases : (((r : Int) == 39) = true) ∨ (((r : Int) == 39) = false ∧ ((r : Int) == 92) = true) := by rcases c39 with rfl | rfl <;> simp
            have hpc : piece r = 92 :: (Utf8.encode (r : Int)).data.toList := by unfold piece; rw [if_pos c39]
            have HP := Lib.hid hpc; clear hpc c39
            rcases hcases with h39 | ⟨h39, h92⟩
            all_goals
              go_wp2_with (go_at_call 58; refine (escape_calls r _).mono ?_; rintro e w' ⟨rfl, rfl⟩)
              refine (writeByte_calls 83 2 _ 0 bt_own (39 :: acc) 92 _ HU1.out (by simp; omega)).mono ?_
              rintro e w4 ⟨rfl, hb4, hbw4⟩
              have HU4 := Lib.hid hb4; clear hb4
              have HW4 := Lib.hid hbw4; clear hbw4
              go_wp2_with fail
              refine (writeRune_calls 83 2 _ 0 bt_own _ r (by omega) _ HU4.out (by simp; omega)).mono ?_
              rintro e w5 ⟨⟨kk, rfl⟩, hb5, hbw5⟩
              have HF := Lib.hid (HEND.out w5 (by rw [HP.out]; simpa using hb5) (HW4.out.trans hbw5)); clear hb5 hbw5
              go_wp2
              go_roundw
              case rel => exact HF.out.1
              case measure => exact HF.out.2
          · have h39 : ((r : Int) == 39) = false := by rw [beq_eq_false_iff_ne]; omega
            have h92 : ((r : Int) == 92) = false := by rw [beq_eq_false_iff_ne]; omega
            by_cases hesc : escape r ≠ 0
            · have he : ((escape r : Int) != 0) = true := by simp; omega
              have hpc : piece r = [92, UInt8.ofNat (escape r)] := by unfold piece; rw [if_neg c39, if_pos hesc]
              have HP := Lib.hid hpc; clear hpc c39 hesc
              go_wp2_with (go_at_call 58; refine (escape_calls r _).mono ?_; rintro e w' ⟨rfl, rfl⟩)
              refine (writeByte_calls 83 2 _ 0 bt_own (39 :: acc) 92 _ HU1.out (by simp; omega)).mono ?_
              rintro e w4 ⟨rfl, hb4, hbw4⟩
              have HU4 := Lib.hid hb4; clear hb4
              have HW4 := Lib.hid hbw4; clear hbw4
              go_wp2_with fail
              have hwb := writeByte_calls 83 2 _ 0 bt_own (39 :: acc ++ [92]) (UInt8.ofNat (escape r)) _ HU4.out (by simp; omega)
              rw [HOE.out] at hwb
              refine hwb.mono ?_
              clear hwb
              rintro e w5 ⟨rfl, hb5, hbw5⟩
              have HF := Lib.hid (HEND.out w5 (by rw [HP.out]; simpa using hb5) (HW4.out.trans hbw5)); clear hb5 hbw5
              go_wp2
              go_roundw
              case rel => exact HF.out.1
              case measure => exact HF.out.2
            · have he : ((escape r : Int) != 0) = false := by simp; omega
              by_cases hhex : r < 32 ∨ (128 ≤ r ∧ r < 160)
              · have hcases : decide ((r : Int) < 32) = true ∨ (decide ((r : Int) < 32) = false ∧ decide ((128 : Int) ≤ (r : Int)) = true ∧ decide ((r : Int) < 160) = true) := by
                  rcases hhex with h | h
                  · left; simp; omega
                  · by_cases h' : r < 32
                    · left; simp; omega
                    · right; simp; omega
                have hpc : piece r = [92, 120, 123] ++ hexT r ++ [125] := by unfold piece; rw [if_neg c39, if_neg hesc, if_pos hhex]
                have h160 : r < 160 := by omega
                have hlen := hexT_len r
                have hz0 : (Txt.bytes (hexT r)).size ≤ 2 := by rw [bytes_size]; exact hlen
                have hz1 : (({ data := #[92, 120, 123] } : ByteArray) ++ Txt.bytes (hexT r)).size ≤ 100 := by
                  rw [ByteArray.size_append, bytes_size, show (({ data := #[92, 120, 123] } : ByteArray)).size = 3 from rfl]; omega
                have hz2 : ((({ data := #[92, 120, 123] } : ByteArray) ++ Txt.bytes (hexT r)) ++ ({ data := #[125] } : ByteArray)).size ≤ 100 ∧ ((({ data := #[92, 120, 123] } : ByteArray) ++ Txt.bytes (hexT r)) ++ ({ data := #[125] } : ByteArray)).size ≠ 0 := by
                  rw [ByteArray.size_append, ByteArray.size_append, bytes_size, show (({ data := #[92, 120, 123] } : ByteArray)).size = 3 from rfl, show (({ data := #[125] } : ByteArray)).size = 1 from rfl]; omega
                have hz3 : ((({ data := #[92, 120, 123] } : ByteArray) ++ Txt.bytes (hexT r)) ++ ({ data := #[125] } : ByteArray)).data.toList = piece r := by
                  rw [hpc]; simp [Txt.bytes]
                have HZ2 := Lib.hid hz2; clear hz2
                have HP := Lib.hid hz3; clear hz3 hpc c39 hesc hhex hlen
                rcases hcases with h32 | ⟨h32, h128, hl160⟩
                all_goals
                  go_wp2_with (first | (go_at_call 58; refine (escape_calls r _).mono ?_; rintro e w' ⟨rfl, rfl⟩) | (go_at_call 40; refine (formatInt16 r _ HT1.out h160).mono ?_; rintro e w4 ⟨rfl, hb4⟩))
                  have HU4 := Lib.hid (HU1.out.below hb4)
                  have HW4 := Lib.hid (Bw.of_mem (o := 0) hb4 HU1.out.lt); clear hb4
                  refine (writeString_calls 83 2 _ 0 bt_own (39 :: acc) _ _ HU4.out (by simp; omega) (by have := HZ2.out.1; omega) HZ2.out.2).mono ?_
                  rintro e w5 ⟨⟨kk, rfl⟩, hb5, hbw5⟩
                  have HF := Lib.hid (HEND.out w5 (by rw [HP.out] at hb5; simpa using hb5) (HW4.out.trans hbw5)); clear hb5 hbw5
                  go_wp2
                  go_roundw
                  case rel => exact HF.out.1
                  case measure => exact HF.out.2
              · have hcases : (decide ((r : Int) < 32) = false ∧ decide ((128 : Int) ≤ (r : Int)) = false) ∨ (decide ((r : Int) < 32) = false ∧ decide ((128 : Int) ≤ (r : Int)) = true ∧ decide ((r : Int) < 160) = false) := by
                  by_cases h' : 128 ≤ r
                  · right; simp; omega
                  · left; simp; omega
                have hpc : piece r = (Utf8.encode (r : Int)).data.toList := by unfold piece; rw [if_neg c39, if_neg hesc, if_neg hhex]
                have HP := Lib.hid hpc; clear hpc c39 hesc hhex
                rcases hcases with ⟨h32, h128⟩ | ⟨h32, h128, hl160⟩
                all_goals
                  go_wp2_with (go_at_call 58; refine (escape_calls r _).mono ?_; rintro e w' ⟨rfl, rfl⟩)
                  refine (writeRune_calls 83 2 _ 0 bt_own _ r (by omega) _ HU1.out (by simp; omega)).mono ?_
                  rintro e w5 ⟨⟨kk, rfl⟩, hb5, hbw5⟩
                  have HF := Lib.hid (HEND.out w5 (by rw [HP.out]; simpa using hb5) hbw5); clear hb5 hbw5
                  go_wp2
                  go_roundw
                  case rel => exact HF.out.1
                  case measure => exact HF.out.2
        · have hnx := fun ty => Lib.run_next_end_at (P := Tryd.prog) wr w3.heap.size s pos ty hit hp
          clear hit
          have hfin := HR.out.over hp
          subst hfin
          go_wp2_with fail
          refine (writeByte_calls 83 2 _ 0 bt_own (39 :: acc) 39 _ HR.out.bu (by have := HR.out.len; have := HR.out.pos; simp; omega)).mono ?_
          rintro e w4 ⟨rfl, hb4, hbw4⟩
          have HU4 := Lib.hid hb4; clear hb4
          have HW4 := Lib.hid hbw4; clear hbw4
          go_wp2_with fail
          refine (string_calls 83 2 _ 0 _ _ HU4.out).mono ?_
          rintro e w5 ⟨rfl, hb5, hbw5⟩
          go_wp2
          go_ret2
          exact ⟨by rw [HPD.out]; simp, HR.out.be.trans ((HW4.out.trans hbw5).below.mono hsz2)⟩
end Go.Proofs.YtebdikbngnolbaaDoor
