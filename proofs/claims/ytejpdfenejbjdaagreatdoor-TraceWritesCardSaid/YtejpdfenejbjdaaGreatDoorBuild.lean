/- Walks: strings.Builder, wherever it lies. -/
import Derived.Test.YtejpdfenejbjdaaGreatDoorCells
import Derived.Lib.Builder
import Derived.Lib.FrozenHead2
import Derived.Lib.RuneBytes
import Derived.Lib.OthersKept
namespace Go.Proofs.YtejpdfenejbjdaaGreatDoor
open Go.RowKit Txt
set_option linter.unusedVariables false
set_option linter.unusedSimpArgs false

theorem size_builder : (Tryz.prog.info? 113).map (·.size) = some 2 := by kernel_rfl
/-- In a block of 'n' cells of type 'T' a builder lies at cell 'o'. -/
structure Bt (T n o : Nat) : Prop where
  lies : liesAt Tryz.prog Tryz.prog.depth T (n / Tryz.prog.cellsOf T) o 113 1 = true
  lt : o < n

/-- A builder that holds bytes. -/
structure Bu (T n b o : Nat) (l : List UInt8) (w : World) : Prop where
  lt : b < w.heap.size
  shape : w.shape? b = some (T, n)
  a0 : w.cell? ⟨b, o, none⟩ = some (.pointer none) ∨ w.cell? ⟨b, o, none⟩ = some (.pointer (some ⟨b, o, none⟩))
  v : ∃ v, w.cell? ⟨b, o + 1, none⟩ = some v ∧ w.ownsRowF (b + 1) 5 1 v l.length (Lib.byteCells l) ∧ (l = [] → v = .slice none 0 0)
  f0 : w.frozen? ⟨b, o, none⟩ = false
  f1 : w.frozen? ⟨b, o + 1, none⟩ = false

/-- What a writing method leaves: all blocks below the builder's; all above that are no rows of bytes; the other cells of its own. -/
structure Bw (b o : Nat) (w w' : World) : Prop where
  below : Below b w w'
  others : Lib.OthersKept 5 (some b) w w'
  cells : ∀ j, j ≠ o → j ≠ o + 1 → w'.cell? ⟨b, j, none⟩ = w.cell? ⟨b, j, none⟩ ∧ w'.frozen? ⟨b, j, none⟩ = w.frozen? ⟨b, j, none⟩
  shape : w'.shape? b = w.shape? b

theorem Bw.refl (b o : Nat) (w : World) : Bw b o w w := ⟨Below.refl _ _, Lib.OthersKept.refl _ _ _, fun _ _ _ => ⟨rfl, rfl⟩, rfl⟩
theorem Bw.trans {b o : Nat} {w u v : World} (h : Bw b o w u) (k : Bw b o u v) : Bw b o w v :=
  ⟨h.below.trans k.below, h.others.trans k.others, fun j h1 h2 => ⟨(k.cells j h1 h2).1.trans (h.cells j h1 h2).1, (k.cells j h1 h2).2.trans (h.cells j h1 h2).2⟩, k.shape.trans h.shape⟩
theorem shape_block {w w' : World} {r : Nat} (h : w'.heap[r]? = w.heap[r]?) : w'.shape? r = w.shape? r := by simp [World.shape?, h]
theorem Bw.of_block {b o : Nat} {w w' : World} (h : Below b w w') (h2 : Lib.OthersKept 5 (some b) w w') (hb : w'.heap[b]? = w.heap[b]?) : Bw b o w w' :=
  ⟨h, h2, fun j _ _ => ⟨World.cell?_of_block (w := w) hb, World.frozen?_of_block (w := w) hb⟩, shape_block hb⟩
theorem Bw.alloc {b o : Nat} {w u : World} (h : Bw b o w u) (hb : b < w.heap.size) (x : Obj) : Bw b o w (u.alloc x) := by
  have hs : b < u.heap.size := Nat.lt_of_lt_of_le hb h.below.size
  exact h.trans (.of_block ((Below.refl _ _).alloc (by omega) _) ((Lib.OthersKept.refl _ _ _).alloc _) (Below.heap_alloc _ _ _ hs))
theorem setCell_shape (w : World) (a : Addr) (v : Value) (r : Nat) : (w.setCell a v).shape? r = w.shape? r := by
  by_cases h : a.block = r
  · simp only [World.shape?, World.setCell, Array.getElem?_modify, if_pos h]
    cases w.heap[r]? with
    | none => rfl
    | some o =>
      cases o with
      | cells c e f => simp; split <;> simp
      | _ => rfl
  · simp only [World.shape?, World.setCell, Array.getElem?_modify, if_neg h]
theorem cell_ne (w : World) (b i j : Nat) (v : Value) (h : j ≠ i) : (w.setCell ⟨b, i, none⟩ v).cell? ⟨b, j, none⟩ = w.cell? ⟨b, j, none⟩ := by
  simp only [World.cell?, World.setCell, Array.getElem?_modify]
  cases w.heap[b]? with
  | none => simp
  | some o => cases o <;> simp [Array.getElem?_setIfInBounds, Ne.symm h]
theorem cell_eq {w : World} {b i : Nat} {u : Value} (h : w.cell? ⟨b, i, none⟩ = some u) (v : Value) : (w.setCell ⟨b, i, none⟩ v).cell? ⟨b, i, none⟩ = some v := by
  simp only [World.cell?, World.setCell, Array.getElem?_modify] at h ⊢
  cases hh : w.heap[b]? with
  | none => rw [hh] at h; simp at h
  | some o =>
    rw [hh] at h
    cases o <;> simp at h ⊢
    obtain ⟨h1, h2⟩ := Array.getElem?_eq_some_iff.1 h
    simp [h1]
theorem frozen_set (w : World) (a : Addr) (v : Value) (p : Addr) : (w.setCell a v).frozen? p = w.frozen? p := by
  by_cases h : a.block = p.block
  · simp only [World.frozen?, World.setCell, Array.getElem?_modify, if_pos h]
    cases w.heap[p.block]? with
    | none => rfl
    | some o => cases o <;> rfl
  · simp only [World.frozen?, World.setCell, Array.getElem?_modify, if_neg h]
theorem Bw.set {b o : Nat} {w u : World} (h : Bw b o w u) (i : Nat) (hi : i = o ∨ i = o + 1) (v : Value) : Bw b o w (u.setCell ⟨b, i, none⟩ v) :=
  h.trans ⟨(Below.refl b u).setCell (p := ⟨b, i, none⟩) (Nat.le_refl b) v, (Lib.OthersKept.refl _ (some b) u).setCell ⟨b, i, none⟩ rfl v, fun j h1 h2 => ⟨cell_ne _ _ _ _ _ (by omega), frozen_set _ _ _ _⟩, setCell_shape _ _ _ _⟩

theorem ownsRowF_keep {w w' : World} {base e size n : Nat} {v : Value} {xs : List Value} (h : w.ownsRowF base e size v n xs) (hk : ∀ g, base ≤ g → v.ownBlock = some g → w'.heap[g]? = w.heap[g]?) : w'.ownsRowF base e size v n xs := by
  obtain ⟨hl, h0 | ⟨g, cap, cur, fz, rfl, hg, hh, r⟩⟩ := h
  · exact ⟨hl, .inl h0⟩
  · exact ⟨hl, .inr ⟨g, cap, cur, fz, rfl, hg, by rw [hk g hg rfl]; exact hh, r⟩⟩

/-- The address is laid. -/
theorem Bu.used {T n b o : Nat} {l : List UInt8} {w : World} (h : Bu T n b o l w) : Bu T n b o l (w.setCell ⟨b, o, none⟩ (.pointer (some ⟨b, o, none⟩))) := by
  obtain ⟨u, hu⟩ : ∃ u, w.cell? ⟨b, o, none⟩ = some u := by rcases h.a0 with h | h <;> exact ⟨_, h⟩
  obtain ⟨v, hv, hown, hn⟩ := h.v
  refine ⟨by simpa [World.setCell] using h.lt, (setCell_shape _ _ _ _).trans h.shape, .inr (cell_eq hu _), ⟨v, (cell_ne _ _ _ _ _ (by omega)).trans hv, ownsRowF_keep hown fun g hg _ => Below.heap_setCell _ _ _ _ (by simp; omega), hn⟩, (frozen_set _ _ _ _).trans h.f0, (frozen_set _ _ _ _).trans h.f1⟩

set_option maxHeartbeats 1000000 in
set_option maxRecDepth 100000 in
theorem copyCheck_used (b o : Nat) (w : World) (h0 : w.cell? ⟨b, o, none⟩ = some (.pointer (some ⟨b, o, none⟩))) :
    Calls Tryz.prog 112 #[.pointer (some ⟨b, o, none⟩)] w fun e w' => e = .returned (.tuple #[]) ∧ w' = w := by
  obtain ⟨j, hj, _⟩ := Option.map_eq_some_iff.1 size_builder
  have hne : ∀ W : World, (binOp .neq 111 (.pointer (some ⟨b, o, none⟩)) (.pointer (some ⟨b, o, none⟩))).run Tryz.prog W = .ok (.bool false) W := fun W => Lib.run_neq_ptr_same W _ Tryz.underlying111 hj
  go_enter Tryz.func112, Tryz.ntmps112
  go_wp2
  go_end0
  exact ⟨rfl, rfl⟩
set_option maxHeartbeats 1000000 in
set_option maxRecDepth 100000 in
theorem copyCheck_fresh (T n b o : Nat) (hB : Bt T n o) (w : World) (h0 : w.cell? ⟨b, o, none⟩ = some (.pointer none)) (hsh : w.shape? b = some (T, n)) (hfz : w.frozen? ⟨b, o, none⟩ = false) :
    Calls Tryz.prog 112 #[.pointer (some ⟨b, o, none⟩)] w fun e w' => e = .returned (.tuple #[]) ∧ w' = w.setCell ⟨b, o, none⟩ (.pointer (some ⟨b, o, none⟩)) := by
  obtain ⟨j, hj, hjs⟩ := Option.map_eq_some_iff.1 size_builder
  go_enter Tryz.func112, Tryz.ntmps112
  go_wp2
  rw [Lib.run_to_unsafe w ⟨b, o, none⟩ Tryz.underlying111 Tryz.underlying180 hj (by rw [hjs]; decide) hsh hB.lt]
  simp only [Result.andThen]
  rw [Oper.upon_value]
  go_wp2
  rw [run_callFunc_extern Tryz.func162 (by kernel_rfl) (by kernel_rfl) (by kernel_rfl) (e := Extern.AbiNoEscape.same) (by kernel_rfl)]
  rw [Lib.run_noEscape]
  simp only [Result.andThen]
  rw [Oper.upon_value]
  go_wp2
  rw [Lib.run_from_unsafe w ⟨b, o, none⟩ Tryz.underlying180 Tryz.underlying111 hj hsh hB.lies]
  simp only [Result.andThen]
  rw [Oper.upon_value]
  go_wp2
  go_end0
  exact ⟨rfl, rfl⟩
theorem copyCheck_calls (T n b o : Nat) (hB : Bt T n o) (l : List UInt8) (w : World) (h : Bu T n b o l w) :
    Calls Tryz.prog 112 #[.pointer (some ⟨b, o, none⟩)] w fun e w' => e = .returned (.tuple #[]) ∧ Bu T n b o l w' ∧ Bw b o w w' ∧ w'.heap.size = w.heap.size := by
  rcases h.a0 with h0 | h0
  · refine (copyCheck_fresh T n b o hB w h0 h.shape h.f0).mono ?_
    rintro e w' ⟨rfl, rfl⟩
    exact ⟨rfl, h.used, (Bw.refl _ _ _).set o (.inl rfl) _, by simp [World.setCell]⟩
  · refine (copyCheck_used b o w h0).mono ?_
    rintro e w' ⟨rfl, rfl⟩
    exact ⟨rfl, h, Bw.refl _ _ _, rfl⟩
end Go.Proofs.YtejpdfenejbjdaaGreatDoor

namespace Go.Proofs.YtejpdfenejbjdaaGreatDoor
open Go.RowKit Txt
set_option linter.unusedVariables false
set_option linter.unusedSimpArgs false

/-- The row behind a write lies in the builder again. -/
theorem Bu.put {T n b o : Nat} {l l' : List UInt8} {w w1 : World} {v v' : Value} {ro : Option Nat} (h : Bu T n b o l w) (hro : ∀ g, ro = some g → b < g ∧ ∃ c fz, w.heap[g]? = some (.cells c 5 fz))
    (hg : w.grownBy w1 ro) (hown : w1.ownsRowF (b + 1) 5 1 v' l'.length (Lib.byteCells l')) (hl : l' ≠ []) :
    Bu T n b o l' (w1.setCell ⟨b, o + 1, none⟩ v') ∧ Bw b o w (w1.setCell ⟨b, o + 1, none⟩ v') ∧ Bw b o w w1 ∧ w1.heap[b]? = w.heap[b]? := by
  have hb : w1.heap[b]? = w.heap[b]? := hg.block b h.lt (fun e => by have := (hro b e.symm).1; omega)
  obtain ⟨u, hu, -⟩ := h.v
  have hw1 : Bw b o w w1 := .of_block ((Below.refl _ _).grown hg (Nat.le_of_lt h.lt) (fun k hk => by have := (hro k hk).1; omega)) ((Lib.OthersKept.refl _ _ _).grown hg (fun g hg => (hro g hg).2)) hb
  refine ⟨⟨by simp [World.setCell]; exact Nat.lt_of_lt_of_le h.lt hg.size, ?_, ?_, ⟨v', cell_eq ((World.cell?_of_block (w := w) hb).trans hu) _, ownsRowF_keep hown fun g hg _ => Below.heap_setCell _ _ _ _ (by simp; omega), fun e => absurd e hl⟩, ?_, ?_⟩, hw1.set (o + 1) (.inr rfl) _, hw1, hb⟩
  · rw [setCell_shape, shape_block hb]; exact h.shape
  · rw [cell_ne _ _ _ _ _ (by omega), World.cell?_of_block (w := w) hb]; exact h.a0
  · rw [frozen_set, World.frozen?_of_block (w := w) hb]; exact h.f0
  · rw [frozen_set, World.frozen?_of_block (w := w) hb]; exact h.f1

theorem ownsRowF_kind' {w : World} {B n : Nat} {v : Value} {xs : List Value} (h : w.ownsRowF (B + 1) 5 1 v n xs) : ∀ g, v.ownBlock = some g → B < g ∧ ∃ c fz, w.heap[g]? = some (.cells c 5 fz) := by
  intro g hg
  exact ⟨(h.lt g hg).1, Lib.ownsRowF_kind h g hg⟩

theorem Bu.alloc {T n b o : Nat} {l : List UInt8} {w : World} (h : Bu T n b o l w) (x : Obj) : Bu T n b o l (w.alloc x) := by
  have hk := Below.heap_alloc w x b h.lt
  obtain ⟨u, hu, ho, hn⟩ := h.v
  exact ⟨by simp; have := h.lt; omega, (shape_block hk).trans h.shape, by rw [World.cell?_of_block (w := w) hk]; exact h.a0, ⟨u, (World.cell?_of_block (w := w) hk).trans hu, ho.alloc _, hn⟩, (World.frozen?_of_block (w := w) hk).trans h.f0, (World.frozen?_of_block (w := w) hk).trans h.f1⟩
theorem Bu.drew {T n b o : Nat} {l : List UInt8} {w : World} (h : Bu T n b o l w) : Bu T n b o l w.drew := ⟨h.lt, h.shape, h.a0, h.v, h.f0, h.f1⟩
theorem Bu.drewN {T n b o : Nat} {l : List UInt8} {w : World} (h : Bu T n b o l w) (k : Nat) : Bu T n b o l (w.drewN k) := ⟨h.lt, h.shape, h.a0, h.v, h.f0, h.f1⟩
theorem Bw.drew {b o : Nat} {w u : World} (h : Bw b o w u) : Bw b o w u.drew := ⟨h.below.drew, h.others.drew, h.cells, h.shape⟩
theorem Bw.drewN {b o : Nat} {w u : World} (h : Bw b o w u) (k : Nat) : Bw b o w (u.drewN k) := ⟨⟨h.below.os, h.below.tape, h.below.output, h.below.size, h.below.block⟩, h.others, h.cells, h.shape⟩
theorem rowF_slice {w : World} {B n : Nat} {v : Value} {xs : List Value} (h : w.ownsRowF B 5 1 v n xs) : ∃ A c, v = .slice A n c := by
  obtain ⟨-, ⟨rfl, rfl⟩ | ⟨g, cap, cur, fz, rfl, -⟩⟩ := h <;> exact ⟨_, _, rfl⟩

set_option maxHeartbeats 1000000 in
set_option maxRecDepth 100000 in
theorem writeByte_calls (T n b o : Nat) (hB : Bt T n o) (l : List UInt8) (c : UInt8) (w : World) (h : Bu T n b o l w) (hl : l.length ≤ 1099511627776) :
    Calls Tryz.prog 159 #[.pointer (some ⟨b, o, none⟩), .int .u8 (c.toNat : Int)] w fun e w' => e = .returned .nilIface ∧ Bu T n b o (l ++ [c]) w' ∧ Bw b o w w' := by
  obtain ⟨i0, hi, hz0, hz1, hz2⟩ := info_parts info_u8
  have HH := Lib.hid h; clear h
  go_enter Tryz.func159, Tryz.ntmps159
  go_wp2_with fail
  refine (copyCheck_calls T n b o hB l w HH.out).mono ?_
  rintro e w1 ⟨rfl, hb1, hw1, -⟩
  have HB1 := Lib.hid hb1
  have HW1 := Lib.hid hw1; clear hw1
  obtain ⟨v, hv, hown, -⟩ := hb1.v
  have HO := Lib.hid hown; clear hown
  have f1 := hb1.f1
  have hlt := hb1.lt
  clear hb1
  go_wp2_with (at_builtin; refine wpList_append_ownF _ rfl _ _ 91 rfl (b + 1) 5 i0 (.int .u8 0) 1 1 Tryz.underlying91 hi hz0 hz1 hz2 rfl (by decide) _ _ _ rfl (HO.out.alloc _) ⟨w1.heap.size, 0, none⟩ 1 1 [.int .u8 (c.toNat : Int)] rfl rfl ?c1 ?c2 ?c3 ?c4 ?c5 ?_)
  case c1 => exact new_list _ [_] _ _ (by simp)
  case c2 => intro u hu; simp at hu; subst hu; rfl
  case c3 => unfold maxLen; omega
  case c4 => omega
  case c5 => simp; omega
  intro v' w2 hown' hgrow _
  have hbu0 : Bu T n b o l (w1.alloc (.cells #[.int .u8 (c.toNat : Int)] 5)) := by
    have hk := Below.heap_alloc w1 (.cells #[.int .u8 (c.toNat : Int)] 5) b hlt
    have h1 := HB1.out
    obtain ⟨u, hu, ho, hn⟩ := h1.v
    exact ⟨by simp; omega, (shape_block hk).trans h1.shape, by rw [World.cell?_of_block (w := w1) hk]; exact h1.a0, ⟨u, (World.cell?_of_block (w := w1) hk).trans hu, ho.alloc _, hn⟩, (World.frozen?_of_block (w := w1) hk).trans h1.f0, (World.frozen?_of_block (w := w1) hk).trans h1.f1⟩
  have hput := hbu0.put (l' := l ++ [c]) (v := v) (v' := v') (ro := v.ownBlock) (fun g hg => ⟨(ownsRowF_kind' HO.out g hg).1, by
    obtain ⟨c', fz, hc⟩ := (ownsRowF_kind' HO.out g hg).2
    exact ⟨c', fz, (Below.heap_alloc w1 _ g (Array.getElem?_eq_some_iff.1 hc).1).trans hc⟩⟩) hgrow (by rw [byteCells_append, List.length_append]; exact hown') (by simp)
  obtain ⟨A', n', c', rfl⟩ : ∃ A n c, v' = .slice A n c := by
    obtain ⟨-, ⟨rfl, -⟩ | ⟨g, cap, cur, fz, rfl, -⟩⟩ := hown' <;> exact ⟨_, _, _, rfl⟩
  have HP := Lib.hid hput; clear hput hbu0 hown' hgrow
  have f1' : w2.frozen? ⟨b, o + 1, none⟩ = false := (World.frozen?_of_block (w := w1) (HP.out.2.2.2.trans (Below.heap_alloc w1 _ b hlt))).trans f1
  have hv' : w2.cell? ⟨b, o + 1, none⟩ = some v := (World.cell?_of_block (w := w1) (HP.out.2.2.2.trans (Below.heap_alloc w1 _ b hlt))).trans hv
  go_wp2
  go_ret
  exact ⟨rfl, HP.out.1, HW1.out.trans (((Bw.refl _ _ _).alloc hlt _).trans HP.out.2.1)⟩

theorem encode_ok (r : Nat) (h : r < 55296 ∨ (57343 < r ∧ r ≤ 1114111)) : Utf8.valid (r : Int) = true := by
  simp only [Utf8.valid, Bool.or_eq_true, Bool.and_eq_true, decide_eq_true_eq]; omega
theorem u8_of (a : Int) (b : Nat) (h : a = (b : Int)) : a.toNat.toUInt8 = UInt8.ofNat b := by subst h; rfl
theorem encode_one (r : Nat) (h : r ≤ 127) : Lib.encodeRune (r : Int) = (Utf8.encode (r : Int)).data.toList := by
  unfold Lib.encodeRune Utf8.encode
  rw [Lib.encodeRuneZ_one (by omega) (by omega)]
  simp only [encode_ok r (by omega), if_true, Int.toNat_natCast]
  rw [if_pos (by omega)]
  rfl
theorem encode_two (r : Nat) (h : 128 ≤ r) (h2 : r ≤ 2047) : Lib.encodeRune (r : Int) = (Utf8.encode (r : Int)).data.toList := by
  unfold Lib.encodeRune Utf8.encode
  rw [Lib.encodeRuneZ_two (by omega) (by omega)]
  simp only [encode_ok r (by omega), if_true, Int.toNat_natCast]
  rw [if_neg (by omega), if_pos (by omega)]
  simp only [List.map_cons, List.map_nil]
  rw [u8_of _ (192 + r / 64) (by omega), u8_of _ (128 + r % 64) (by omega)]
theorem encode_three (r : Nat) (h : 2048 ≤ r) (h2 : r < 55296 ∨ (57343 < r ∧ r ≤ 65535)) : Lib.encodeRune (r : Int) = (Utf8.encode (r : Int)).data.toList := by
  unfold Lib.encodeRune Utf8.encode
  rw [Lib.encodeRuneZ_three (by omega)]
  simp only [encode_ok r (by omega), if_true, Int.toNat_natCast]
  rw [if_neg (by omega), if_neg (by omega), if_pos (by omega)]
  simp only [List.map_cons, List.map_nil]
  rw [u8_of _ (224 + r / 4096) (by omega), u8_of _ (128 + r / 64 % 64) (by omega), u8_of _ (128 + r % 64) (by omega)]
theorem encode_four (r : Nat) (h : 65536 ≤ r) (h2 : r ≤ 1114111) : Lib.encodeRune (r : Int) = (Utf8.encode (r : Int)).data.toList := by
  unfold Lib.encodeRune Utf8.encode
  rw [Lib.encodeRuneZ_four (by omega) (by omega)]
  simp only [encode_ok r (by omega), if_true, Int.toNat_natCast]
  rw [if_neg (by omega), if_neg (by omega), if_neg (by omega)]
  simp only [List.map_cons, List.map_nil]
  rw [u8_of _ (240 + r / 262144) (by omega), u8_of _ (128 + r / 4096 % 64) (by omega), u8_of _ (128 + r / 64 % 64) (by omega), u8_of _ (128 + r % 64) (by omega)]
theorem encode_bad (r : Nat) (h : (55296 ≤ r ∧ r ≤ 57343) ∨ 1114111 < r) : Lib.encodeRune (r : Int) = (Utf8.encode (r : Int)).data.toList := by
  unfold Lib.encodeRune Utf8.encode
  rw [Lib.encodeRuneZ_bad (by omega)]
  have : Utf8.valid (r : Int) = false := by
    rw [← Bool.not_eq_true]
    simp only [Utf8.valid, Bool.or_eq_true, Bool.and_eq_true, decide_eq_true_eq]; omega
  simp only [this, Bool.false_eq_true, if_false]
  decide
theorem encode_rune (r : Nat) : Lib.encodeRune (r : Int) = (Utf8.encode (r : Int)).data.toList := by
  by_cases h1 : r ≤ 127
  · exact encode_one r h1
  · by_cases h2 : r ≤ 2047
    · exact encode_two r (by omega) h2
    · by_cases h3 : r < 55296 ∨ (57343 < r ∧ r ≤ 65535)
      · exact encode_three r (by omega) h3
      · by_cases h4 : 65536 ≤ r ∧ r ≤ 1114111
        · exact encode_four r h4.1 h4.2
        · exact encode_bad r (by omega)

theorem runeCells_eq (r : Nat) : Lib.runeCells (r : Int) = Lib.byteCells (Utf8.encode (r : Int)).data.toList := by rw [← encode_rune, Lib.byteCells_encodeRune]
theorem encode_ne (r : Nat) : (Utf8.encode (r : Int)).data.toList ≠ [] := by
  rw [← encode_rune]
  intro h
  have := (Lib.runeCells_le (r : Int)).1
  rw [Lib.runeCells_length, h] at this
  simp at this
theorem encode_le (r : Nat) : (Utf8.encode (r : Int)).data.toList.length ≤ 4 := by
  have := (Lib.runeCells_le (r : Int)).2
  rwa [Lib.runeCells_length, encode_rune] at this

set_option maxHeartbeats 1000000 in
set_option maxRecDepth 100000 in
theorem writeRune_calls (T n b o : Nat) (hB : Bt T n o) (l : List UInt8) (r : Nat) (hr : r ≤ 2147483647) (w : World) (h : Bu T n b o l w) (hl : l.length ≤ 1099511627776) :
    Calls Tryz.prog 161 #[.pointer (some ⟨b, o, none⟩), .int .i32 (r : Int)] w fun e w' => (∃ k : Int, e = .returned (.tuple #[.int .i64 k, .nilIface])) ∧ Bu T n b o (l ++ (Utf8.encode (r : Int)).data.toList) w' ∧ Bw b o w w' := by
  have HH := Lib.hid h; clear h
  go_enter Tryz.func161, Tryz.ntmps161
  go_wp2_with fail
  refine (copyCheck_calls T n b o hB l w HH.out).mono ?_
  rintro e w1 ⟨rfl, hb1, hw1, -⟩
  have HB1 := Lib.hid hb1
  have HW1 := Lib.hid hw1; clear hw1
  obtain ⟨v, hv, hown, -⟩ := hb1.v
  have HO := Lib.hid hown; clear hown
  obtain ⟨A, c, rfl⟩ := rowF_slice HO.out
  have f1 := hb1.f1
  have hlt := hb1.lt
  clear hb1
  go_wp2_with fail
  refine (Tryz.utf8_AppendRune_row (b + 1) _ l.length (Lib.byteCells l) (r : Int) (by omega) (by omega) w1 HO.out (by omega) (by omega)).mono ?_
  rintro e w2 ⟨v', rfl, hown', x, hgrow⟩
  have hput := (HB1.out.alloc x).put (l' := l ++ (Utf8.encode (r : Int)).data.toList) (v := .slice A l.length c) (v' := v') (ro := (Value.slice A l.length c).ownBlock) (fun g hg => ⟨(ownsRowF_kind' HO.out g hg).1, by
    obtain ⟨c', fz, hc⟩ := (ownsRowF_kind' HO.out g hg).2
    exact ⟨c', fz, (Below.heap_alloc w1 _ g (Array.getElem?_eq_some_iff.1 hc).1).trans hc⟩⟩) hgrow (by rw [runeCells_eq, byteCells_length] at hown'; rw [byteCells_append, List.length_append]; exact hown') (fun e => encode_ne r (List.append_eq_nil_iff.1 e).2)
  obtain ⟨A', c', rfl⟩ := rowF_slice hown'
  have HP := Lib.hid hput; clear hput hown' hgrow
  have f1' : w2.frozen? ⟨b, o + 1, none⟩ = false := (World.frozen?_of_block (w := w1) (HP.out.2.2.2.trans (Below.heap_alloc w1 _ b hlt))).trans f1
  have hv' : w2.cell? ⟨b, o + 1, none⟩ = some (.slice A l.length c) := (World.cell?_of_block (w := w1) (HP.out.2.2.2.trans (Below.heap_alloc w1 _ b hlt))).trans hv
  go_wp2
  go_ret2
  exact ⟨⟨_, rfl⟩, HP.out.1, HW1.out.trans (((Bw.refl _ _ _).alloc hlt _).trans HP.out.2.1)⟩

theorem freeze_at (w : World) (g n : Nat) (cur : Array Value) (T : Nat) (fz : Nat × Nat) (hg : w.heap[g]? = some (.cells cur T fz)) (hn : n ≠ 0) (hfz : fz.2 ≤ n) : ∃ fz' : Nat × Nat, (w.freeze ⟨g, 0, none⟩ n).heap[g]? = some (.cells cur T fz') ∧ fz'.2 ≤ n := by
  obtain ⟨lo, hi⟩ := fz
  simp only [World.freeze, hn, if_false, Array.getElem?_modify, hg, if_true]
  refine ⟨_, rfl, ?_⟩
  split
  · simp
  · simp at hfz ⊢; omega
theorem freeze_other (w : World) (a : Addr) (n k : Nat) (h : k ≠ a.block) : (w.freeze a n).heap[k]? = w.heap[k]? := by
  unfold World.freeze
  split
  · rfl
  · simp only [Array.getElem?_modify, if_neg (Ne.symm h)]
theorem freeze_size (w : World) (a : Addr) (n : Nat) : (w.freeze a n).heap.size = w.heap.size := by
  unfold World.freeze; split <;> simp

set_option maxHeartbeats 1000000 in
set_option maxRecDepth 100000 in
theorem string_calls (T n b o : Nat) (l : List UInt8) (w : World) (h : Bu T n b o l w) :
    Calls Tryz.prog 83 #[.pointer (some ⟨b, o, none⟩)] w fun e w' => e = .returned (.string (Txt.bytes l)) ∧ Bu T n b o l w' ∧ Bw b o w w' := by
  obtain ⟨v, hv, hown, hnil⟩ := h.v
  have HH := Lib.hid h; clear h
  by_cases hl : l = []
  · subst hl
    obtain rfl := hnil rfl
    clear hnil hown
    have c1 : w.drew.cell? ⟨b, o + 1, none⟩ = some (.slice none 0 0) := hv
    have hSD : (Builtin.unsafeSliceData_ #[91] 150 #[.slice none 0 0]).run Tryz.prog w.drew = .ok (.pointer none) w.drew := rfl
    have hUS := fun W q => Lib.run_unsafeString_none (P := Tryz.prog) W 150 3 9 q
    go_enter Tryz.func83, Tryz.ntmps83
    go_wp2
    go_region
    all_goals (go_wp2; go_ret; exact ⟨rfl, HH.out.drew, (Bw.refl _ _ _).drew⟩)
  · have hl0 : l.length ≠ 0 := fun e => hl (List.length_eq_zero_iff.1 e)
    obtain ⟨-, ⟨-, h0⟩ | ⟨g, cap, cur, fz, rfl, hbg, hg, hfz, hncap, hcm, hcs, htk⟩⟩ := id hown
    · exact absurd h0 hl0
    have HO := Lib.hid hown; clear hown hnil
    have c1 : w.drew.cell? ⟨b, o + 1, none⟩ = some (.slice (some ⟨g, 0, none⟩) l.length cap) := hv
    have hSD : (Builtin.unsafeSliceData_ #[91] 150 #[.slice (some ⟨g, 0, none⟩) l.length cap]).run Tryz.prog w.drew = .ok (.pointer (some ⟨g, 0, none⟩)) w.drew := Lib.run_unsafeSliceData_row _ _ _ _ _ _ (by omega)
    have hUS : (Builtin.unsafeString_ #[150, 3] 9 #[.pointer (some ⟨g, 0, none⟩), .int .i64 l.length]).run Tryz.prog w.drew = .ok (.string ⟨l.toArray⟩) (w.drew.freeze ⟨g, 0, none⟩ l.length) := by
      refine Lib.run_unsafeString_row w.drew 150 3 9 5 Tryz.underlying150 (by kernel_rfl) g cur.size (by have hg' : w.drew.heap[g]? = some (.cells cur 5 fz) := hg; simp [World.shape?, hg']) l hl (by omega) (by unfold maxLen at hcm; omega) ?_
      intro j x hx
      exact World.ownsRowF.cells (w := w.drew) HO.out (g := g) rfl j (.int .u8 x.toNat) (by simp [Lib.byteCells, hx])
    have hend : Bu T n b o l (w.drew.freeze ⟨g, 0, none⟩ l.length) ∧ Bw b o w (w.drew.freeze ⟨g, 0, none⟩ l.length) := by
      have hbk : (w.drew.freeze ⟨g, 0, none⟩ l.length).heap[b]? = w.heap[b]? := freeze_other w.drew _ _ _ (by simp; omega)
      obtain ⟨fz', hgf, hfz'⟩ := freeze_at w.drew g l.length cur 5 fz hg hl0 (by omega)
      refine ⟨⟨by rw [freeze_size]; exact HH.out.lt, (shape_block hbk).trans HH.out.shape, by rw [World.cell?_of_block (w := w) hbk]; exact HH.out.a0, ⟨_, (World.cell?_of_block (w := w) hbk).trans hv, ⟨by rw [byteCells_length]; simp, .inr ⟨g, cap, cur, fz', rfl, hbg, hgf, by omega, hncap, hcm, hcs, htk⟩⟩, fun e => absurd e hl⟩, (World.frozen?_of_block (w := w) hbk).trans HH.out.f0, (World.frozen?_of_block (w := w) hbk).trans HH.out.f1⟩, ?_⟩
      refine .of_block (Lib.below_freeze (Below.drew (Below.refl b w)) (p := ⟨g, 0, none⟩) (by simp; omega) _) ?_ hbk
      exact Lib.OthersKept.freeze ((Lib.OthersKept.refl _ _ _).drew) ⟨g, 0, none⟩ _ ⟨cur, fz, hg⟩
    have HE := Lib.hid hend; clear hend
    clear hbg hg hfz hncap hcm hcs htk hl
    go_enter Tryz.func83, Tryz.ntmps83
    go_wp2
    go_region
    all_goals (go_wp2; go_ret; exact ⟨rfl, HE.out⟩)
end Go.Proofs.YtejpdfenejbjdaaGreatDoor
