/- Walks: the reader of atoms in quotes: what is put, digits. -/
import Derived.Test.YtejpdfenejbjdaaGreatDoorAtomB
namespace Go.Proofs.YtejpdfenejbjdaaGreatDoor
open Go.RowKit Txt
set_option linter.unusedVariables false
set_option linter.unusedSimpArgs false

theorem bt_reader : Bt 204 5 2 := ⟨by kernel_rfl, by decide⟩
theorem bt_builder : Bt 113 2 0 := ⟨by kernel_rfl, by decide⟩

/-- The atom's reader lies in block b. -/
structure AR (b : Nat) (s : ByteArray) (x : AS) (w : World) : Prop where
  bu : Bu 204 5 b 2 x.out w
  c0 : w.cell? ⟨b, 0, none⟩ = some (.string s)
  c1 : w.cell? ⟨b, 1, none⟩ = some (.int .i64 (x.p : Int))
  c4 : w.cell? ⟨b, 4, none⟩ = some (.bool x.bad)
  f0 : w.frozen? ⟨b, 0, none⟩ = false
  f1 : w.frozen? ⟨b, 1, none⟩ = false
  f4 : w.frozen? ⟨b, 4, none⟩ = false

theorem AR.drewN {b : Nat} {s : ByteArray} {x : AS} {w : World} (h : AR b s x w) (n : Nat) : AR b s x (w.drewN n) := ⟨h.bu.drewN n, h.c0, h.c1, h.c4, h.f0, h.f1, h.f4⟩
theorem AR.drew {b : Nat} {s : ByteArray} {x : AS} {w : World} (h : AR b s x w) : AR b s x w.drew := ⟨h.bu.drew, h.c0, h.c1, h.c4, h.f0, h.f1, h.f4⟩
theorem Bu.setOther {T n b o : Nat} {l : List UInt8} {w : World} (h : Bu T n b o l w) (i : Nat) (h1 : i ≠ o) (h2 : i ≠ o + 1) (v : Value) : Bu T n b o l (w.setCell ⟨b, i, none⟩ v) := by
  obtain ⟨u, hu, ho, hn⟩ := h.v
  exact ⟨by simpa [World.setCell] using h.lt, (setCell_shape _ _ _ _).trans h.shape, by rw [cell_ne _ _ _ _ _ (Ne.symm h1)]; exact h.a0, ⟨u, (cell_ne _ _ _ _ _ (Ne.symm h2)).trans hu, ownsRowF_keep ho fun g hg _ => Below.heap_setCell _ _ _ _ (by simp; omega), hn⟩, (frozen_set _ _ _ _).trans h.f0, (frozen_set _ _ _ _).trans h.f1⟩
theorem AR.setp {b : Nat} {s : ByteArray} {x : AS} {w : World} (h : AR b s x w) (q : Nat) (v : Int) (hv : v = (q : Int)) : AR b s { x with p := q } (w.setCell ⟨b, 1, none⟩ (.int .i64 v)) := by
  subst hv
  exact ⟨h.bu.setOther 1 (by omega) (by omega) _, (cell_ne _ _ _ _ _ (by omega)).trans h.c0, cell_eq h.c1 _, (cell_ne _ _ _ _ _ (by omega)).trans h.c4, (frozen_set _ _ _ _).trans h.f0, (frozen_set _ _ _ _).trans h.f1, (frozen_set _ _ _ _).trans h.f4⟩
theorem AR.setbad {b : Nat} {s : ByteArray} {x : AS} {w : World} (h : AR b s x w) : AR b s { x with bad := true } (w.setCell ⟨b, 4, none⟩ (.bool true)) :=
  ⟨h.bu.setOther 4 (by omega) (by omega) _, (cell_ne _ _ _ _ _ (by omega)).trans h.c0, (cell_ne _ _ _ _ _ (by omega)).trans h.c1, cell_eq h.c4 _, (frozen_set _ _ _ _).trans h.f0, (frozen_set _ _ _ _).trans h.f1, (frozen_set _ _ _ _).trans h.f4⟩
theorem AR.wrote {b : Nat} {s : ByteArray} {x : AS} {w w' : World} {l : List UInt8} (h : AR b s x w) (hb : Bu 204 5 b 2 l w') (hw : Bw b 2 w w') : AR b s { x with out := l } w' :=
  ⟨hb, (hw.cells 0 (by omega) (by omega)).1.trans h.c0, (hw.cells 1 (by omega) (by omega)).1.trans h.c1, (hw.cells 4 (by omega) (by omega)).1.trans h.c4, (hw.cells 0 (by omega) (by omega)).2.trans h.f0, (hw.cells 1 (by omega) (by omega)).2.trans h.f1, (hw.cells 4 (by omega) (by omega)).2.trans h.f4⟩
/-- What leaves every block alone that lies there. -/
theorem AR.below {b : Nat} {s : ByteArray} {x : AS} {w w' : World} (h : AR b s x w) (hb : Below w.heap.size w w') : AR b s x w' := by
  have hk := hb.block b h.bu.lt
  obtain ⟨u, hu, ho, hn⟩ := h.bu.v
  have hc : ∀ j, w'.cell? ⟨b, j, none⟩ = w.cell? ⟨b, j, none⟩ := fun j => World.cell?_of_block (w := w) hk
  have hf : ∀ j, w'.frozen? ⟨b, j, none⟩ = w.frozen? ⟨b, j, none⟩ := fun j => World.frozen?_of_block (w := w) hk
  refine ⟨⟨Nat.lt_of_lt_of_le h.bu.lt hb.size, (shape_block hk).trans h.bu.shape, by rw [hc]; exact h.bu.a0, ⟨u, (hc _).trans hu, ?_, hn⟩, (hf _).trans h.bu.f0, (hf _).trans h.bu.f1⟩, (hc _).trans h.c0, (hc _).trans h.c1, (hc _).trans h.c4, (hf _).trans h.f0, (hf _).trans h.f1, (hf _).trans h.f4⟩
  exact ownsRowF_keep ho fun g _ hg => hb.block g (ho.lt g hg).2

/-- How a method of the reader ends. -/
def AStep (b : Nat) (s : ByteArray) (w : World) (r : Option AS) (e : Ending) (w' : World) : Prop :=
  match r with
  | some y => e = .returned (.bool true) ∧ AR b s y w' ∧ Below b w w'
  | none => e = .returned (.bool false) ∧ (∃ y, AR b s y w') ∧ Below b w w'

set_option maxHeartbeats 1000000 in
set_option maxRecDepth 100000 in
theorem put_calls (b : Nat) (s : ByteArray) (x : AS) (n : Nat) (w : World) (h : AR b s x w) (hl : x.out.length ≤ 1099511627776) (hn : n ≤ 4294967296) :
    Calls Tryz.prog 228 #[.pointer (some ⟨b, 0, none⟩), .int .i64 (n : Int)] w fun e w' => e = .returned (.tuple #[]) ∧ AR b s (putA x n) w' ∧ Below b w w' := by
  have HA := Lib.hid h; clear h
  have c4 := HA.out.c4
  have f4 := HA.out.f4
  unfold putA
  by_cases h1 : 1114111 < n
  · rw [if_pos (.inl h1)]
    go_enter Tryz.func228, Tryz.ntmps228
    go_wp2
    exact bodyPost_ret (results_none rfl _ _ _) rfl ⟨rfl, HA.out.setbad, (Below.refl b w).setCell (p := ⟨b, 4, none⟩) (Nat.le_refl b) _⟩
  · by_cases h2 : 55296 ≤ n
    · by_cases h3 : n < 57344
      · rw [if_pos (.inr ⟨h2, h3⟩)]
        go_enter Tryz.func228, Tryz.ntmps228
        go_wp2
        exact bodyPost_ret (results_none rfl _ _ _) rfl ⟨rfl, HA.out.setbad, (Below.refl b w).setCell (p := ⟨b, 4, none⟩) (Nat.le_refl b) _⟩
      · rw [if_neg (by omega)]
        have hw32 : IntKind.i32.wrap (n : Int) = (n : Int) := IntWalk.i32_in _ (by omega)
        go_enter Tryz.func228, Tryz.ntmps228
        go_wp2_with fail
        refine (writeRune_calls _ _ b 2 bt_reader x.out n (by omega) w HA.out.bu hl).mono ?_
        rintro e w1 ⟨⟨k, rfl⟩, hb1, hw1⟩
        have HE := Lib.hid (And.intro (HA.out.wrote hb1 hw1) hw1.below); clear hb1 hw1
        go_wp2
        go_end0
        exact ⟨rfl, HE.out⟩
    · rw [if_neg (by omega)]
      have hw32 : IntKind.i32.wrap (n : Int) = (n : Int) := IntWalk.i32_in _ (by omega)
      go_enter Tryz.func228, Tryz.ntmps228
      go_wp2_with fail
      refine (writeRune_calls _ _ b 2 bt_reader x.out n (by omega) w HA.out.bu hl).mono ?_
      rintro e w1 ⟨⟨k, rfl⟩, hb1, hw1⟩
      have HE := Lib.hid (And.intro (HA.out.wrote hb1 hw1) hw1.below); clear hb1 hw1
      go_wp2
      go_end0
      exact ⟨rfl, HE.out⟩

def hexL : List UInt8 := [48, 49, 50, 51, 52, 53, 54, 55, 56, 57, 97, 98, 99, 100, 101, 102]
def hexI (c : UInt8) : Int := Lib.indexByte hexL (lowerC c)
set_option maxRecDepth 100000 in
theorem hexI_all : ∀ n : Fin 256, hexI (UInt8.ofNat n.val) = (match hexVal (UInt8.ofNat n.val) with | some v => (v : Int) | none => -1) := by decide
theorem hexI_eq (c : UInt8) : hexI c = (match hexVal c with | some v => (v : Int) | none => -1) := by
  have := hexI_all ⟨c.toNat, c.toNat_lt⟩
  simpa using this
theorem hexI_calls (c : UInt8) (w : World) : Calls Tryz.prog 138 #[.string ⟨#[48, 49, 50, 51, 52, 53, 54, 55, 56, 57, 97, 98, 99, 100, 101, 102]⟩, .int .u8 ((lowerC c).toNat : Int)] w fun e w' => e = .returned (.int .i64 (hexI c)) ∧ w' = w := by
  refine (Tryz.strings_IndexByte _ _ _).mono ?_
  rintro e w' ⟨rfl, rfl⟩
  exact ⟨by rw [u8_back]; rfl, rfl⟩
theorem digVal_some {base : Nat} {c : UInt8} {d : Nat} (h : digVal base c = some d) : hexI c = (d : Int) ∧ d < base := by
  unfold digVal at h
  rw [hexI_eq]
  cases hv : hexVal c with
  | none => rw [hv] at h; cases h
  | some v =>
    rw [hv] at h
    simp only [Option.bind_some] at h
    split at h
    · cases h; exact ⟨rfl, by assumption⟩
    · cases h
theorem digVal_none {base : Nat} {c : UInt8} (h : digVal base c = none) : hexI c < 0 ∨ (base : Int) ≤ hexI c := by
  unfold digVal at h
  rw [hexI_eq]
  cases hv : hexVal c with
  | none => left; simp
  | some v =>
    rw [hv] at h
    simp only [Option.bind_some] at h
    split at h
    · cases h
    · right; simp; omega

theorem digitsF_end {s : ByteArray} {base m p n k : Nat} (h : s.size ≤ p) : digitsF s base m p n k = (k, n, p) := by
  cases m with
  | zero => rfl
  | succ m => rw [digitsF, at?_ge h]; rfl

set_option maxHeartbeats 2000000 in
set_option maxRecDepth 100000 in
theorem digitsA_calls (b : Nat) (s : ByteArray) (x : AS) (base least most : Nat) (w : World) (h : AR b s x w) (hl : x.out.length ≤ 1099511627776) (hp : x.p ≤ s.size) (hs : s.size ≤ 1099511627776) (hbase : base ≤ 16) (hleast : least ≤ 2) (hmost : most ≤ 1099511627776) :
    Calls Tryz.prog 223 #[.pointer (some ⟨b, 0, none⟩), .int .i64 (base : Int), .int .i64 (least : Int), .int .i64 (most : Int)] w (AStep b s w (digitsA s x base least most)) := by
  have HA := Lib.hid h; clear h
  unfold digitsA
  generalize hR : digitsF s base most x.p 0 0 = R
  have HR := Lib.hid hR; clear hR
  simp only
  generalize hRES : (if R.1 < least then none else some (putA { x with p := R.2.2 } R.2.1)) = RES
  have HRES := Lib.hid hRES; clear hRES
  go_enter Tryz.func223, Tryz.ntmps223
  go_wp2_with fail
  go_loopw [9, 10, 11] (fun n k u wr => ∃ nn kk pp : Nat, kk ≤ most ∧ pp ≤ s.size ∧ nn ≤ 4294967296 ∧ n = .int .i64 nn ∧ k = .int .i64 kk ∧ digitsF s base (most - kk) pp nn kk = R ∧ AR b s { x with p := pp } wr ∧ Below b w wr) (fun _ k _ wr => most - (intOf k).toNat)
  case atStart => exact ⟨0, 0, x.p, Nat.zero_le _, hp, by omega, rfl, rfl, HR.out, HA.out, Below.refl _ _⟩
  case round =>
    obtain ⟨nn, kk, pp, hkk, hpp, hnn, rfl, rfl, hf, har, hbel⟩ := hrel
    have HF := Lib.hid hf; clear hf
    have HB := Lib.hid hbel; clear hbel
    have HAR := Lib.hid har; clear har
    have c0 := HAR.out.c0
    have c1 : wr.cell? ⟨b, 1, none⟩ = some (.int .i64 (pp : Int)) := HAR.out.c1
    have f1 := HAR.out.f1
    have hdone : ∀ (W : World), AR b s { x with p := pp } W → Below b w W → R = (kk, nn, pp) → (kk < least → AStep b s w RES (.returned (.bool false)) W) ∧ (¬ kk < least → RES = some (putA { x with p := pp } nn)) := by
      intro W hW hbW hRv
      have hRE := HRES.out
      rw [hRv] at hRE
      simp only at hRE
      refine ⟨fun hlt => ?_, fun hge => ?_⟩
      · rw [if_pos hlt] at hRE; subst hRE; exact ⟨rfl, ⟨_, hW⟩, hbW⟩
      · rw [if_neg hge] at hRE; exact hRE.symm
    have HD := Lib.hid hdone; clear hdone
    by_cases hk1 : kk < most
    · by_cases hp1 : pp < s.size
      · cases hdv : digVal base s[pp] with
        | none =>
          have hRV : R = (kk, nn, pp) := by
            have h1 := HF.out
            rw [show most - kk = (most - kk - 1) + 1 by omega, digitsF, at?_lt hp1] at h1
            simp only [Option.bind_some, hdv] at h1
            exact h1.symm
          have HRV := Lib.hid hRV; clear hRV
          have hdn := digVal_none hdv
          clear hdv
          rcases hdn with hdn | hdn
          · go_wp2_with fail
            go_quiet (fail)
            go_wp2_with fail
            go_quiet ((first | (go_at_call 229; exact quiet_more (lower_calls _ _)) | (go_at_call 138; exact quiet_more (hexI_calls _ _))))
            by_cases hle : kk < least
            · go_wp2
              go_ret
              exact (HD.out _ (HAR.out.drewN _) (below_drewN HB.out _) HRV.out).1 hle
            · go_wp2_with fail
              have hres := (HD.out wr HAR.out HB.out HRV.out).2 hle
              have HRS := Lib.hid hres; clear hres
              refine (put_calls b s { x with p := pp } nn _ (HAR.out.drewN _) hl hnn).mono ?_
              rintro e w7 ⟨rfl, har7, hb7⟩
              have HE := Lib.hid (And.intro har7 ((below_drewN HB.out _).trans hb7)); clear har7 hb7
              go_wp2
              go_ret
              rw [HRS.out]
              exact ⟨rfl, HE.out⟩
          · have hdn2 : 0 ≤ hexI s[pp] := by omega
            go_wp2_with fail
            go_quiet (fail)
            go_wp2_with fail
            go_quiet ((first | (go_at_call 229; exact quiet_more (lower_calls _ _)) | (go_at_call 138; exact quiet_more (hexI_calls _ _))))
            by_cases hle : kk < least
            · go_wp2
              go_ret
              exact (HD.out _ (HAR.out.drewN _) (below_drewN HB.out _) HRV.out).1 hle
            · go_wp2_with fail
              have hres := (HD.out wr HAR.out HB.out HRV.out).2 hle
              have HRS := Lib.hid hres; clear hres
              refine (put_calls b s { x with p := pp } nn _ (HAR.out.drewN _) hl hnn).mono ?_
              rintro e w7 ⟨rfl, har7, hb7⟩
              have HE := Lib.hid (And.intro har7 ((below_drewN HB.out _).trans hb7)); clear har7 hb7
              go_wp2
              go_ret
              rw [HRS.out]
              exact ⟨rfl, HE.out⟩
        | some d =>
          obtain ⟨hd1, hd2⟩ := digVal_some hdv
          have h1 := HF.out
          rw [show most - kk = (most - (kk + 1)) + 1 by omega, digitsF, at?_lt hp1] at h1
          simp only [Option.bind_some, hdv] at h1
          have HF1 := Lib.hid h1; clear h1 hdv
          have hc := hexI_calls s[pp]
          rw [hd1] at hc
          have HC := Lib.hid hc; clear hc hd1
          have hmul : nn * base ≤ 68719476736 := by
            have := Nat.mul_le_mul hnn hbase
            omega
          have hmn : (((nn * base : Nat) : Int) + (d : Int)) ≤ 68719476760 := by omega
          have hcast : (nn : Int) * (base : Int) = ((nn * base : Nat) : Int) := by simp
          generalize hP : nn * base = P at *
          have HP := Lib.hid hP; clear hP
          have hmin : min ((P : Int) + (d : Int)) 4294967296 = ((min (P + d) 4294967296 : Nat) : Int) := by omega
          go_wp2_with fail
          go_quiet (fail)
          go_wp2_with fail
          go_quiet ((first | (go_at_call 229; exact quiet_more (lower_calls _ _)) | (go_at_call 138; exact quiet_more (HC.out _))))
          go_wp2_with fail
          refine ⟨⟨min (P + d) 4294967296, kk + 1, pp + 1, by omega, by omega, by omega, rfl, by go_num, by first | exact HF1.out | (rw [← HP.out]; exact HF1.out), (HAR.out.drewN _).setp (pp + 1) _ (by omega), (below_drewN HB.out _).setCell (p := ⟨b, 1, none⟩) (Nat.le_refl b) _⟩, by simp [intOf]; omega⟩
      · have hRV : R = (kk, nn, pp) := HF.out.symm.trans (digitsF_end (by omega))
        have HRV := Lib.hid hRV; clear hRV
        go_wp2_with fail
        go_quiet (fail)
        by_cases hle : kk < least
        · go_wp2
          go_ret
          exact (HD.out _ (HAR.out.drewN _) (below_drewN HB.out _) HRV.out).1 hle
        · go_wp2_with fail
          have hres := (HD.out wr HAR.out HB.out HRV.out).2 hle
          have HRS := Lib.hid hres; clear hres
          refine (put_calls b s { x with p := pp } nn _ (HAR.out.drewN _) hl hnn).mono ?_
          rintro e w7 ⟨rfl, har7, hb7⟩
          have HE := Lib.hid (And.intro har7 ((below_drewN HB.out _).trans hb7)); clear har7 hb7
          go_wp2
          go_ret
          rw [HRS.out]
          exact ⟨rfl, HE.out⟩
    · have hRV : R = (kk, nn, pp) := by
        rw [← HF.out, show most - kk = 0 by omega]; rfl
      have HRV := Lib.hid hRV; clear hRV
      go_wp2_with fail
      go_quiet (fail)
      by_cases hle : kk < least
      · go_wp2
        go_ret
        exact (HD.out _ (HAR.out.drewN _) (below_drewN HB.out _) HRV.out).1 hle
      · go_wp2_with fail
        have hres := (HD.out wr HAR.out HB.out HRV.out).2 hle
        have HRS := Lib.hid hres; clear hres
        refine (put_calls b s { x with p := pp } nn _ (HAR.out.drewN _) hl hnn).mono ?_
        rintro e w7 ⟨rfl, har7, hb7⟩
        have HE := Lib.hid (And.intro har7 ((below_drewN HB.out _).trans hb7)); clear har7 hb7
        go_wp2
        go_ret
        rw [HRS.out]
        exact ⟨rfl, HE.out⟩


set_option maxHeartbeats 2000000 in
set_option maxRecDepth 100000 in
theorem control_calls (b : Nat) (s : ByteArray) (x : AS) (w : World) (h : AR b s x w) (hl : x.out.length ≤ 1099511627776) (hp : x.p ≤ s.size) (hs : s.size ≤ 1099511627776) :
    Calls Tryz.prog 222 #[.pointer (some ⟨b, 0, none⟩)] w (AStep b s w (controlA s x)) := by
  have HA := Lib.hid h; clear h
  have c0 := HA.out.c0
  have c1 := HA.out.c1
  have f1 := HA.out.f1
  unfold controlA
  by_cases hlt : x.p < s.size
  · rw [at?_lt hlt]
    simp only
    generalize hdd : (if smallB s[x.p] = true then s[x.p].toNat - 32 else s[x.p].toNat) = d
    have HDD := Lib.hid hdd; clear hdd
    have hc256 : (s[x.p].toNat : Int) < 256 := by have := s[x.p].toNat_lt; omega
    by_cases h1 : 97 ≤ s[x.p].toNat ∧ s[x.p].toNat ≤ 122
    · obtain ⟨h1, h2⟩ := h1
      have hd : d = s[x.p].toNat - 32 := by rw [← HDD.out, if_pos (by simp [smallB, h1, h2])]
      have hdb : 65 ≤ d ∧ d ≤ 90 := by omega
      have hde : ((d : Nat) : Int) = (s[x.p].toNat : Int) - 32 := by omega
      have HDE := Lib.hid hde; clear hde hd
      rw [if_neg (by omega)]
      go_enter Tryz.func222, Tryz.ntmps222
      go_wp2_with fail
      go_quiet (fail)
      go_wp2_with fail
      go_quiet (fail)
      go_wp2_with fail
      rw [show ((s[x.p].toNat : Int) - 32 - 64) = ((d - 64 : Nat) : Int) by have := HDE.out; omega]
      refine (put_calls b s { x with p := x.p + 1 } (d - 64) _ ((HA.out.drewN _).setp (x.p + 1) _ (by omega)) hl (by have := HDE.out; omega)).mono ?_
      rintro e w7 ⟨rfl, har7, hb7⟩
      have HE := Lib.hid (And.intro har7 (((below_drewN (Below.refl b w) _).setCell (p := ⟨b, 1, none⟩) (Nat.le_refl b) _).trans hb7)); clear har7 hb7
      go_wp2
      go_ret
      exact ⟨rfl, HE.out⟩
    · have hd : d = s[x.p].toNat := by rw [← HDD.out, if_neg (by simp [smallB]; omega)]
      have hde : ((d : Nat) : Int) = (s[x.p].toNat : Int) := by omega
      have HDE := Lib.hid hde; clear hde
      rcases Nat.lt_or_ge s[x.p].toNat 64 with h2 | h2
      · rw [if_pos (by omega)]
        clear h1 hd
        go_enter Tryz.func222, Tryz.ntmps222
        go_wp2_with fail
        go_quiet (fail)
        go_wp2_with fail
        go_quiet (fail)
        go_wp2
        go_ret
        exact ⟨rfl, ⟨_, (HA.out.drewN _).setp (x.p + 1) _ (by omega)⟩, (below_drewN (Below.refl b w) _).setCell (p := ⟨b, 1, none⟩) (Nat.le_refl b) _⟩
      · rcases Nat.lt_or_ge 95 s[x.p].toNat with h3 | h3
        · rw [if_pos (by omega)]
          rcases Nat.lt_or_ge s[x.p].toNat 97 with h4 | h4
          · clear h1 hd
            go_enter Tryz.func222, Tryz.ntmps222
            go_wp2_with fail
            go_quiet (fail)
            go_wp2_with fail
            go_quiet (fail)
            go_wp2
            go_ret
            exact ⟨rfl, ⟨_, (HA.out.drewN _).setp (x.p + 1) _ (by omega)⟩, (below_drewN (Below.refl b w) _).setCell (p := ⟨b, 1, none⟩) (Nat.le_refl b) _⟩
          · have h5 : 122 < s[x.p].toNat := by omega
            clear h1 hd
            go_enter Tryz.func222, Tryz.ntmps222
            go_wp2_with fail
            go_quiet (fail)
            go_wp2_with fail
            go_quiet (fail)
            go_wp2
            go_ret
            exact ⟨rfl, ⟨_, (HA.out.drewN _).setp (x.p + 1) _ (by omega)⟩, (below_drewN (Below.refl b w) _).setCell (p := ⟨b, 1, none⟩) (Nat.le_refl b) _⟩
        · rw [if_neg (by omega)]
          clear h1 hd
          go_enter Tryz.func222, Tryz.ntmps222
          go_wp2_with fail
          go_quiet (fail)
          go_wp2_with fail
          go_quiet (fail)
          go_wp2_with fail
          rw [show ((s[x.p].toNat : Int) - 64) = ((d - 64 : Nat) : Int) by have := HDE.out; omega]
          refine (put_calls b s { x with p := x.p + 1 } (d - 64) _ ((HA.out.drewN _).setp (x.p + 1) _ (by omega)) hl (by have := HDE.out; omega)).mono ?_
          rintro e w7 ⟨rfl, har7, hb7⟩
          have HE := Lib.hid (And.intro har7 (((below_drewN (Below.refl b w) _).setCell (p := ⟨b, 1, none⟩) (Nat.le_refl b) _).trans hb7)); clear har7 hb7
          go_wp2
          go_ret
          exact ⟨rfl, HE.out⟩
  · rw [at?_ge (by omega)]
    simp only
    go_enter Tryz.func222, Tryz.ntmps222
    go_wp2_with fail
    go_quiet (fail)
    go_wp2
    go_ret
    exact ⟨rfl, ⟨_, HA.out.drewN _⟩, below_drewN (Below.refl _ _) _⟩
end Go.Proofs.YtejpdfenejbjdaaGreatDoor
