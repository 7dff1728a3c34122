/- Walks: lists of terms: how they lie in memory; SameAll; PrintAll. -/
import Derived.Test.YtebdikbngnolbaaDoorPrint
import Derived.Test.YtebdikbngnolbaaDoorBackD
namespace Go.Proofs.YtebdikbngnolbaaDoor
open Go.RowKit Txt
set_option linter.unusedVariables false
set_option linter.unusedSimpArgs false

/-- A slice of slices reads as a list of lists of cells. -/
def SeesTT (w : World) (x : Value) (l : List (List Cl)) : Prop :=
  ∃ A cap, x = .slice A l.length cap ∧ l.length ≤ cap ∧ (l ≠ [] → ∃ ad, A = some ad ∧ ad.block < w.heap.size ∧ ∀ (j : Nat) (h : j < l.length), ∃ v, w.cell? (ad.add j) = some v ∧ SeesT w v l[j])
theorem SeesTT.at {w : World} {x : Value} {l : List (List Cl)} (h : SeesTT w x l) (j : Nat) (hj : j < l.length) :
    ∃ ad cap v, x = .slice (some ad) l.length cap ∧ l.length ≤ cap ∧ ad.block < w.heap.size ∧ w.cell? (ad.add j) = some v ∧ SeesT w v l[j] := by
  obtain ⟨A, cap, rfl, hc, hA⟩ := h
  obtain ⟨ad, rfl, hl, hv⟩ := hA (by intro e; subst e; simp at hj)
  obtain ⟨v, h1, h2⟩ := hv j hj
  exact ⟨ad, cap, v, rfl, hc, hl, h1, h2⟩
theorem SeesTT.below {w w' : World} {x : Value} {l : List (List Cl)} (h : SeesTT w x l) (hb : Below w.heap.size w w') : SeesTT w' x l := by
  obtain ⟨A, cap, rfl, hc, hA⟩ := h
  refine ⟨A, cap, rfl, hc, fun hne => ?_⟩
  obtain ⟨ad, rfl, hl, hv⟩ := hA hne
  refine ⟨ad, rfl, Nat.lt_of_lt_of_le hl hb.size, fun j hj => ?_⟩
  obtain ⟨v, h1, h2⟩ := hv j hj
  exact ⟨v, (hb.cell (by rw [add_block]; exact hl)).trans h1, h2.below hb⟩
theorem SeesT.drewN {w : World} {x : Value} {t : List Cl} (h : SeesT w x t) (n : Nat) : SeesT (w.drewN n) x t := h
theorem SeesTT.drewN {w : World} {x : Value} {l : List (List Cl)} (h : SeesTT w x l) (n : Nat) : SeesTT (w.drewN n) x l := h

theorem print_len {t : List Cl} (h : (print t).2 = 0) : (print t).1.length ≤ 65536 := by
  unfold print at h ⊢
  split
  · simp
  · rename_i hx
    rw [if_neg hx] at h
    cases hF : printF t [] [] with
    | none => simp
    | some b => exact (printF_pr _ _ _ _ hF).2
theorem same_self' (t : List Cl) : sameL t t = true := by
  induction t with
  | nil => rfl
  | cons c t ih => simp [sameL, sameC, ih]
set_option maxHeartbeats 1000000 in
theorem sameAll_calls (x y : Value) (l : List (List Cl)) (w : World) (hx : SeesTT w x l) (hy : SeesTT w y l) (hs : ∀ t ∈ l, t.length ≤ 1024) (hl : l.length ≤ 140737488355328) :
    Calls Tryd.prog 13 #[x, y] w fun e w' => e = .returned (.bool true) ∧ ∃ n, w' = w.drewN n := by
  have HX := Lib.hid hx
  have HY := Lib.hid hy
  obtain ⟨A, ca, rfl, -, -⟩ := hx
  obtain ⟨B, cb, rfl, -, -⟩ := hy
  have HS := Lib.hid hs; clear hs
  go_enter Tryd.func13, Tryd.ntmps13
  go_wp2_with fail
  go_loopw [5] (fun i wr => ∃ k : Nat, k ≤ l.length ∧ i = .int .i64 k ∧ ∃ n, wr = w.drewN n) (fun i _ => l.length - (intOf i).toNat)
  case atStart => exact ⟨0, Nat.zero_le _, rfl, 0, rfl⟩
  case round =>
    obtain ⟨k, hk, rfl, n, rfl⟩ := hrel
    by_cases hlt : k < l.length
    · obtain ⟨ad, _, v, hxe, _, hadl, c0, hv⟩ := (HX.out.drewN n).at k hlt
      obtain rfl : A = some ad := by injection hxe
      obtain ⟨bd, _, u, hye, _, hbdl, d0, hu⟩ := (HY.out.drewN n).at k hlt
      obtain rfl : B = some bd := by injection hye
      clear hxe hye
      have hl1 := HS.out l[k] (List.getElem_mem hlt)
      have HLT := Lib.hid (And.intro hlt hk)
      generalize hW : w.drewN n = wr at *
      have HW := Lib.hid hW; clear hW
      have hsame : ∀ m, Calls Tryd.prog 8 #[v, u] (wr.drewN m) fun e w' => e = .returned (.bool true) ∧ ∃ j, w' = wr.drewN j := by
        intro m
        have h := same_calls v u l[k] l[k] (wr.drewN m) (hv.drewN _) (hu.drewN _) (by omega)
        rw [same_self'] at h
        exact Calls.quiet_of h
      have HC := Lib.hid hsame; clear hsame
      have HV := Lib.hid hv; clear hv
      have HU := Lib.hid hu; clear hu
      obtain ⟨V, vc, rfl, -, -⟩ := HV.out
      obtain ⟨U, uc, rfl, -, -⟩ := HU.out
      generalize l[k] = lk at *
      go_wp2_with fail
      go_quiet ((go_at_call 8; exact HC.out _))
      go_wp2
      go_roundw
      case rel => exact ⟨k + 1, by have := HLT.out.1; omega, by go_num, n + nq, by rw [← HW.out, World.drewN_drewN]⟩
      case measure => have := HLT.out.1; simp [intOf]; omega
    · go_wp2_with fail
      go_ret
      exact ⟨rfl, n, rfl⟩

set_option maxHeartbeats 2000000 in
set_option maxRecDepth 100000 in
theorem printAll_calls (x : Value) (l : List (List Cl)) (w : World) (hx : SeesTT w x l) (hto : ∀ t ∈ l, TextsOk t ∧ ∀ c ∈ t, fits c) (hl : l.length ≤ 140737488355328) (ht : Tabs w) :
    Calls Tryd.prog 11 #[x] w fun e w' => e = .returned (.tuple #[.string (Txt.bytes (printAll l).1), .int .i64 (printAll l).2.1, .int .i64 ((printAll l).2.2 : Int)]) ∧ Below w.heap.size w w' := by
  obtain ⟨i0, hi, hz0, hz1, hz2⟩ := info_parts info_u8
  have HX := Lib.hid hx
  obtain ⟨A, cap, rfl, hcap, -⟩ := hx
  have HT := Lib.hid ht; clear ht
  have HTO := Lib.hid hto; clear hto
  generalize hR : printAll l = R
  have HR : Hid (printAllF l 0 [] = R) := Lib.hid hR
  clear hR
  go_enter Tryd.func11, Tryd.ntmps11
  go_wp2_with fail
  go_loopw [5, 12] (fun b i wr => ∃ (k : Nat) (bs : List UInt8), k ≤ l.length ∧ i = .int .i64 (k : Nat) ∧ OwnB w.heap.size wr b bs ∧ printAllF (l.drop k) k bs = R ∧ Below w.heap.size w wr ∧ bs.length ≤ 140000) (fun _ i _ => l.length - (intOf i).toNat)
  case atStart => exact ⟨0, [], Nat.zero_le _, rfl, OwnB.nil _ _, HR.out, Below.refl _ _, by simp⟩
  case round =>
    obtain ⟨k, bs, hk, rfl, ho, hf, hb, hbl⟩ := hrel
    have HO := Lib.hid ho; clear ho
    have HB := Lib.hid hb; clear hb
    obtain ⟨B1, n1, c1, rfl⟩ := own_slice HO.out
    have hn1 : n1 = bs.length := by
      have := HO.out
      obtain ⟨-, ⟨e, h0⟩ | ⟨g, cp, cur, e, -⟩⟩ := this
      · cases e; exact h0.symm
      · cases e; rfl
    subst hn1
    by_cases hlt : k < l.length
    · rw [List.drop_eq_getElem_cons hlt, printAllF] at hf
      have HF := Lib.hid hf; clear hf
      obtain ⟨ad, _, v, hxe, _, hadl, c0, hv⟩ := HX.out.at k hlt
      obtain rfl : A = some ad := by injection hxe
      clear hxe
      have c0' : wr.cell? (ad.add k) = some v := (HB.out.cell (by rw [add_block]; exact hadl)).trans c0
      clear c0
      have hto := HTO.out l[k] (List.getElem_mem hlt)
      have hvr : SeesT wr v l[k] := hv.keep fun a _ hal => HB.out.block _ hal
      have hpr := fun W (h1 : SeesT W v (l[k]'hlt)) (h2 : Tabs W) => print_calls v (l[k]'hlt) W h1 hto.1 hto.2 h2
      have hpl : (print (l[k]'hlt)).2 = 0 → (print (l[k]'hlt)).1.length ≤ 65536 := print_len
      have HV := Lib.hid hvr; clear hvr hv hto
      have HLT := Lib.hid hlt
      generalize l[k] = t at *
      have HP := Lib.hid hpr; clear hpr
      obtain ⟨V, vc, rfl, -, -⟩ := HV.out
      generalize hQ : print t = Q at *
      clear hQ
      obtain ⟨q1, q2⟩ := Q
      simp only at hpl HF
      have HPL := Lib.hid hpl; clear hpl
      go_wp2_with fail
      refine (HP.out _ HV.out (HT.out.below HB.out)).mono ?_
      rintro e w1 ⟨rfl, hb1⟩
      have HO1 := Lib.hid (HO.out.below hb1)
      have HB1 := Lib.hid (HB.out.trans (hb1.mono HB.out.size)); clear hb1
      by_cases hq : q2 = 0
      · have hne : (q2 != 0) = false := by simpa using hq
        have hF := HF.out
        rw [if_neg (by simpa using hq)] at hF
        have hql : q1.length ≤ 65536 := HPL.out hq
        by_cases hle : bs.length ≤ 65536
        · have hd : decide ((bs.length : Int) ≤ 65536) = true := by simp; omega
          rw [if_pos hle] at hF
          have HF2 := Lib.hid hF; clear hF HF hq
          have hz : (Txt.bytes q1).size = q1.length := bytes_size _
          have HZ := Lib.hid hz; clear hz
          go_wp2_with (at_builtin; refine Lib.wpList_append_own_string _ rfl _ _ 53 9 rfl w.heap.size 5 i0 Tryd.underlying53 Tryd.underlying9 hi hz0 hz1 hz2 _ _ _ rfl HO1.out _ rfl ?a1 ?a2 ?a3 ?_)
          case a1 => have := HZ.out; unfold maxLen; omega
          case a2 => have := HZ.out; omega
          case a3 => exact HB1.out.size
          intro b2 w2 hown hgrow _
          have HO2 : Hid (OwnB w.heap.size w2 b2 (bs ++ q1)) := Lib.hid (by
            have e : Lib.strCells (Txt.bytes q1) = Lib.byteCells q1 := by simp [Lib.strCells, Lib.byteCells, Txt.bytes]
            rw [e, HZ.out] at hown
            exact OwnB.appended hown rfl)
          have HB2 := Lib.hid (HB1.out.grown hgrow HB1.out.size HO1.out.own_ge)
          clear hown hgrow
          go_wp2_with (at_builtin; refine Lib.wpList_append_own_string _ rfl _ _ 53 9 rfl w.heap.size 5 i0 Tryd.underlying53 Tryd.underlying9 hi hz0 hz1 hz2 _ _ _ rfl HO2.out _ rfl ?b1 ?b2 ?b3 ?_)
          case b1 => have e : (({ data := #[46, 10] } : ByteArray)).size = 2 := rfl
                     rw [e, List.length_append]; unfold maxLen; omega
          case b2 => have e : (({ data := #[46, 10] } : ByteArray)).size = 2 := rfl
                     rw [e, List.length_append]; omega
          case b3 => exact HB2.out.size
          intro b3 w3 hown hgrow _
          have HO3 : Hid (OwnB w.heap.size w3 b3 (bs ++ q1 ++ [46, 10])) := Lib.hid (OwnB.appended (u := [46, 10]) hown (by simp))
          have HB3 := Lib.hid (HB2.out.grown hgrow HB2.out.size HO2.out.own_ge)
          obtain ⟨B3, n3, c3, rfl⟩ := own_slice hown
          clear hown hgrow
          go_wp2
          go_roundw
          case rel => exact ⟨k + 1, bs ++ q1 ++ [46, 10], HLT.out, by go_num, HO3.out, HF2.out, HB3.out, by simp only [List.length_append, List.length_cons, List.length_nil]; omega⟩
          case measure => have := HLT.out; simp [intOf]; omega
        · have hd : decide ((bs.length : Int) ≤ 65536) = false := by simp; omega
          rw [if_neg hle] at hF
          have HF2 := Lib.hid hF; clear hF HF hq
          go_wp2
          go_roundw
          case rel => exact ⟨k + 1, bs, HLT.out, by go_num, HO1.out, HF2.out, HB1.out, hbl⟩
          case measure => have := HLT.out; simp [intOf]; omega
      · have hne : (q2 != 0) = true := by simpa using hq
        have hF := HF.out
        rw [if_pos hq] at hF
        subst hF
        clear HF hq
        go_wp2
        go_ret3
        exact ⟨rfl, HB1.out⟩
    · rw [List.drop_of_length_le (by omega), printAllF] at hf
      by_cases hbig : 65536 < bs.length
      · rw [if_pos hbig] at hf
        subst hf
        have hd : decide ((65536 : Int) < (bs.length : Int)) = true := by simp; omega
        clear HR
        go_wp2_with fail
        go_ret3
        exact ⟨rfl, HB.out⟩
      · rw [if_neg hbig] at hf
        subst hf
        have hd : decide ((65536 : Int) < (bs.length : Int)) = false := by simp; omega
        have hcv := conv_own HO.out
        clear HR
        go_wp2_with fail
        go_ret3
        exact ⟨rfl, HB.out⟩
end Go.Proofs.YtebdikbngnolbaaDoor
