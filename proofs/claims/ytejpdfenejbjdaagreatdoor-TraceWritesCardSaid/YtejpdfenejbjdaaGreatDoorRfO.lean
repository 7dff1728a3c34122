/- Walks: the reference: Print of a term. -/
import Derived.Test.YtejpdfenejbjdaaGreatDoorRfL
import Derived.Test.YtejpdfenejbjdaaGreatDoorTrF
import Derived.Test.YtejpdfenejbjdaaGreatDoorTrD
namespace Go.Proofs.YtejpdfenejbjdaaGreatDoor
open Go.RowKit Txt
set_option linter.unusedVariables false
set_option linter.unusedSimpArgs false

theorem printF_fit : ∀ (t : List Cl) (b : List UInt8) (st : List Opn), (b ++ (pr t st).1).length ≤ 65536 → printF t b st = some (b ++ (pr t st).1) := by
  intro t
  induction t with
  | nil =>
    intro b st h
    simp only [pr, List.append_nil] at h ⊢
    rw [printF, if_neg (by omega)]
  | cons c t ih =>
    intro b st h
    simp only [pr] at h ⊢
    rw [← List.append_assoc] at h ⊢
    rw [printF, if_neg (by simp only [List.length_append] at h; omega)]
    exact ih _ _ h
theorem print_txt {c : Cl} {k : Fo} (hc : cellE c = 0) (hk : k.len = Txt.kids c) (hko : k.ok) (hr : (right (c :: k.flat)).1 = 0) :
    print (c :: k.flat) = if (Fo.txt c k).length > 65536 then ([], 4) else (Fo.txt c k, 0) := by
  have hpt := print_tree hc hk hko
  unfold print
  rw [if_neg (by simpa using hr)]
  split
  · rename_i h
    split
    · rfl
    · rename_i hl
      rw [printF_fit _ _ _ (by rw [List.nil_append, hpt]; omega)] at h
      cases h
  · rename_i b h
    obtain ⟨h1, h2⟩ := printF_pr _ _ _ _ h
    rw [List.nil_append, hpt] at h1
    subst h1
    rw [if_neg (by omega)]
set_option maxHeartbeats 2000000 in
set_option maxRecDepth 100000 in
theorem rprint7_calls (x : Value) (t : List Cl) (w : World) (hx : SeesT w x t) (hto : TextsOk t) (hf : ∀ c ∈ t, fits c) (ht : Tabs w) :
    Calls Tryz.prog 52 #[x] w fun e w' => e = .returned (.tuple #[.string (Txt.bytes (print t).1), .int .i64 (print t).2]) ∧ Below w.heap.size w w' := by
  have hrc := rright_calls x t (right t).1 (right t).2 w hx hto ht rfl
  have HRC := Lib.hid hrc; clear hrc hto
  by_cases hr : (right t).1 = 0
  · obtain ⟨c, k, h1, h2, h3, rfl, h5⟩ := right_tree hr
    have hpt := print_txt h1 h2 h3 hr
    have HTS := Lib.hid (TS.mk hx h1 h2 h3 h5 hf)
    rw [hr] at HRC
    rw [hpt]
    obtain ⟨T, hT⟩ : ∃ T, Fo.txt c k = T := ⟨_, rfl⟩
    have htl := HTS.out.txt_len
    rw [hT] at htl ⊢
    have HTT := Lib.hid hT
    obtain ⟨RV, hRV⟩ : ∃ RV, (if T.length > 65536 then (([] : List UInt8), (4 : Int)) else (T, 0)) = RV := ⟨_, rfl⟩
    rw [hRV]
    have HRV := Lib.hid hRV; clear hRV
    have HT := Lib.hid ht
    obtain ⟨ad, n, cap, rfl, -⟩ := HTS.out.at
    clear hpt h1 h2 h3 h5 hr hf hx hT ht
    go_enter Tryz.func52, Tryz.ntmps52
    go_wp2_with fail
    refine HRC.out.mono ?_
    rintro e w1 ⟨rfl, hb⟩
    have hsh := rshow_calls _ _ c k w1 (Nat.le_refl _) (HTS.out.below hb) (HT.out.below hb)
    unfold ShowOut at hsh; rw [HTT.out] at hsh
    have HSH := Lib.hid hsh; clear hsh
    have HB := Lib.hid hb; clear hb
    go_wp2_with fail
    refine HSH.out.mono ?_
    rintro e w2 ⟨v, rfl, ho, hb⟩
    have HB2 := Lib.hid (HB.out.trans (hb.mono HB.out.size)); clear hb
    have hcv := conv_own ho
    obtain ⟨g, vc, rfl, -⟩ := ho.slice (by rw [← HTT.out]; exact txt_ne HTS.out.cell)
    clear ho
    by_cases hl : T.length > 65536
    · have l1 : decide ((65536 : Int) < (T.length : Int)) = true := decide_eq_true (by omega)
      have l2 : decide (65536 < T.length) = true := decide_eq_true (by omega)
      obtain rfl : (([] : List UInt8), (4 : Int)) = RV := by rw [← HRV.out, if_pos hl]
      have HL := Lib.hid hl; clear hl hcv HRV
      go_wp2
      go_ret2
      exact ⟨rfl, HB2.out⟩
    · have l1 : decide ((65536 : Int) < (T.length : Int)) = false := decide_eq_false (by omega)
      have l2 : decide (65536 < T.length) = false := decide_eq_false (by omega)
      obtain rfl : (T, (0 : Int)) = RV := by rw [← HRV.out, if_neg hl]
      have HL := Lib.hid hl; clear hl HRV
      go_wp2
      go_ret2
      exact ⟨rfl, HB2.out⟩
  · have hp : print t = ([], (right t).1) := by unfold print; rw [if_pos hr]
    rw [hp]
    generalize (right t).1 = v at *
    have hv : (v != 0) = true := by simpa using hr
    clear hp hr hf
    obtain ⟨XA, xc, rfl, -, -⟩ := hx
    go_enter Tryz.func52, Tryz.ntmps52
    go_wp2_with fail
    refine HRC.out.mono ?_
    rintro e w1 ⟨rfl, hb⟩
    have HB := Lib.hid hb; clear hb
    go_wp2
    go_ret2
    exact ⟨rfl, HB.out⟩
end Go.Proofs.YtejpdfenejbjdaaGreatDoor

namespace Go.Proofs.YtejpdfenejbjdaaGreatDoor
open Go.RowKit Txt
set_option linter.unusedVariables false
set_option linter.unusedSimpArgs false

/-- What holds in the midst of a line: the event and its row lie where they lay. -/
structure RH (w : World) (gr : Nat) (e : Ev) (x : Value) (wd : ByteArray) (rb rp tb : Bool) (W : World) : Prop where
  ev : EvAt W w.heap.size e x
  lr : gr < W.heap.size
  r0 : W.cell? ⟨gr, 0, none⟩ = some (.string wd)
  r1 : W.cell? ⟨gr, 1, none⟩ = some (.bool rb)
  r2 : W.cell? ⟨gr, 2, none⟩ = some (.bool rp)
  r3 : W.cell? ⟨gr, 3, none⟩ = some (.bool tb)
  be : Below w.heap.size w W
theorem RH.below {w : World} {gr : Nat} {e : Ev} {x : Value} {wd : ByteArray} {rb rp tb : Bool} {W W' : World} (h : RH w gr e x wd rb rp tb W) (hb : Below W.heap.size W W') : RH w gr e x wd rb rp tb W' :=
  ⟨h.ev.below hb, Nat.lt_of_lt_of_le h.lr hb.size, (hb.cell (p := ⟨gr, 0, none⟩) h.lr).trans h.r0, (hb.cell (p := ⟨gr, 1, none⟩) h.lr).trans h.r1, (hb.cell (p := ⟨gr, 2, none⟩) h.lr).trans h.r2, (hb.cell (p := ⟨gr, 3, none⟩) h.lr).trans h.r3, h.be.trans (hb.mono h.be.size)⟩
theorem RH.grew {w : World} {gr : Nat} {e : Ev} {x : Value} {wd : ByteArray} {rb rp tb : Bool} {W W' : World} (h : RH w gr e x wd rb rp tb W) {kk : Nat} {os : Array Obj} (hw : W' = Sort.grow (W.drewN kk) os) : RH w gr e x wd rb rp tb W' := h.below (hw ▸ Lib.below_grow _ _ (Nat.le_refl _) kk os)
theorem RH.alloc {w : World} {gr : Nat} {e : Ev} {x : Value} {wd : ByteArray} {rb rp tb : Bool} {W : World} (h : RH w gr e x wd rb rp tb W) (o : Obj) : RH w gr e x wd rb rp tb (W.alloc o) := h.below ((Below.refl _ _).alloc (Nat.le_refl _) _)
theorem RH.both {w : World} {gr : Nat} {k tick pid bb : Int} {t : List Cl} {x : Value} {wd : ByteArray} {rb rp tb : Bool} {W : World} (h : RH w gr ⟨k, tick, pid, bb, t⟩ x wd rb rp tb W) :
    W.cell? ⟨w.heap.size, 1, none⟩ = some (.int .i64 tick) ∧ W.cell? ⟨gr, 0, none⟩ = some (.string wd) ∧ RH w gr ⟨k, tick, pid, bb, t⟩ x wd rb rp tb W := ⟨h.ev.c1, h.r0, h⟩
theorem rh_new {w w2 : World} {e : Ev} {x : Value} {wd : ByteArray} {rb rp tb : Bool} (he : EvAt w2 w.heap.size e x) (hb : Below w.heap.size w w2) :
    RH w w2.heap.size e x wd rb rp tb (w2.alloc (.cells #[.string wd, .bool rb, .bool rp, .bool tb] 68)) := by
  have hal := (Below.refl w2.heap.size w2).alloc (Nat.le_refl _) (.cells #[.string wd, .bool rb, .bool rp, .bool tb] 68)
  refine ⟨he.below hal, by simp, ?_, ?_, ?_, ?_, hb.trans (hal.mono hb.size)⟩
  all_goals
    simp only [World.cell?, heap_alloc_new]
    rfl
/-- The row tells whether there is a term. -/
theorem term_there {e : Ev} {r : TRow} (hr : trow e.kind = some r) (he : evRight e = 0) : (r.term != 0) = decide (e.term.length > 0) := by
  have htk := trow_term hr
  unfold evRight at he
  rw [hr] at he
  dsimp only at he
  by_cases hc : e.tick < 0 ∨ e.tick > 1152921504606846976 ∨ within e.pid r.pid (if r.nobody then 0 else 1) = false ∨ within e.by_ r.by_ 0 = false
  · rw [if_pos hc] at he; cases he
  · rw [if_neg hc] at he
    unfold termE at he
    by_cases h0 : r.term = 0
    · rw [if_pos h0] at he
      rw [h0]
      split at he
      · cases he
      · rename_i h; symm; simp only [bne_self_eq_false]; exact decide_eq_false h
    · rw [if_neg h0] at he
      have hn : (r.term != 0) = true := by simpa using h0
      have hz : (right e.term).1 = 0 := by
        split at he
        · exact he
        · split at he
          · exact he
          · rename_i h; simpa using h
      rw [hn, eq_comm]; exact decide_eq_true (right_ne hz)
theorem bytes_of {s : ByteArray} {l : List UInt8} (h : s.data.toList = l) : s = Txt.bytes l := by
  subst h; apply ByteArray.ext; simp [Txt.bytes]
theorem sp_size (a b : ByteArray) : (a ++ b).size = a.size + b.size := ByteArray.size_append
set_option maxHeartbeats 8000000 in
set_option maxRecDepth 100000 in
theorem rvprint_some (e : Ev) (x : Value) (r : TRow) (w : World) (hr : trow e.kind = some r) (he : evRight e = 0) (hx : SeesT w x e.term) (hto : TextsOk e.term) (hf : ∀ c ∈ e.term, fits c) (h1 : fit64 e.tick) (h2 : fit64 e.pid) (h3 : fit64 e.by_) (ht : Tabs w) :
    Calls Tryz.prog 15 #[evV e x] w fun e' w' => e' = .returned (.tuple #[.string (Txt.bytes (evPrint e).1), .int .i64 (evPrint e).2]) ∧ Below w.heap.size w w' := by
  have HR := Lib.hid hr
  have htb := term_there hr he
  have hb0 : Below w.heap.size w (w.alloc (.cells #[.int .i64 e.kind, .int .i64 e.tick, .int .i64 e.pid, .int .i64 e.by_, x] 24)) := (Below.refl _ _).alloc (Nat.le_refl _) _
  have HB0 := Lib.hid hb0; clear hb0
  have HE0 := Lib.hid (evAt_new w e x)
  have HX := Lib.hid hx
  have HT := Lib.hid ht; clear ht
  have hrc := fun W a b => revr_calls e x W a hto b
  rw [he] at hrc
  have HRC := Lib.hid hrc; clear hrc
  have hpc := fun W a b => rprint7_calls x e.term W a hto hf b
  have HPC := Lib.hid hpc; clear hpc hto hf
  obtain ⟨XA, xc, rfl, -, -⟩ := hx
  have hwd := (trow_word hr).1
  unfold evPrint
  rw [if_neg (by simpa using he), hr]
  dsimp only
  clear he hr
  obtain ⟨k, tick, pid, bb, t⟩ := e
  obtain ⟨wd, rp, rb, nb, tk⟩ := r
  dsimp only at *
  unfold evV at *
  dsimp only at *
  obtain ⟨RV, hv⟩ : ∃ RV, (if t.length > 0 then (if (print t).2 ≠ 0 then (([] : List UInt8), (print t).2) else (evHead ⟨k, tick, pid, bb, t⟩ ⟨wd, rp, rb, nb, tk⟩ ++ 32 :: (print t).1, 0)) else (evHead ⟨k, tick, pid, bb, t⟩ ⟨wd, rp, rb, nb, tk⟩, 0)) = RV := ⟨_, rfl⟩
  rw [hv]
  have HV := Lib.hid hv; clear hv
  have hci := fun W h => Tryz.strconv_FormatInt_10 tick h1.1 h1.2 W h
  obtain ⟨D, hD⟩ : ∃ D : ByteArray, (⟨(Lib.itoa tick).toArray⟩ : ByteArray) = D := ⟨_, rfl⟩
  have hDz : D.size ≤ 21 := by rw [← hD]; exact itoa_size tick h1
  have hDl : D.data.toList = Lib.itoa tick := by rw [← hD]
  simp only [hD] at hci
  have HCI := Lib.hid hci; clear hci hD
  have hb1 := fun W h => rpid_calls bb W h3 h
  obtain ⟨B, hB⟩ : ∃ B : ByteArray, Txt.bytes (32 :: whoB bb) = B := ⟨_, rfl⟩
  have hBz : B.size ≤ 24 := by rw [← hB, bytes_size]; have := whoB_len bb h3; simp only [List.length_cons]; omega
  have hBl : B.data.toList = 32 :: whoB bb := by rw [← hB]; rfl
  simp only [hB] at hb1
  have HBC := Lib.hid hb1; clear hb1 hB
  have hb2 := fun W h => rpid_calls pid W h2 h
  obtain ⟨C, hC⟩ : ∃ C : ByteArray, Txt.bytes (32 :: whoB pid) = C := ⟨_, rfl⟩
  have hCz : C.size ≤ 24 := by rw [← hC, bytes_size]; have := whoB_len pid h2; simp only [List.length_cons]; omega
  have hCl : C.data.toList = 32 :: whoB pid := by rw [← hC]; rfl
  simp only [hC] at hb2
  have HCC := Lib.hid hb2; clear hb2 hC
  have HLL := Lib.hid (And.intro hDl (And.intro hBl hCl)); clear hDl hBl hCl
  have z1 : (D ++ ({ data := #[32] } : ByteArray)).size ≤ 22 := by rw [sp_size]; have : (({ data := #[32] } : ByteArray)).size = 1 := rfl; omega
  have z2 : (D ++ ({ data := #[32] } : ByteArray) ++ wd).size ≤ 27 := by rw [sp_size]; omega
  have zz1 : ¬ (9223372036854775807 < D.size + 1) := by omega
  have zz2 : ¬ (9223372036854775807 < D.size + 1 + wd.size) := by omega
  go_enter Tryz.func15, Tryz.ntmps15
  go_wp2_with fail
  refine (HRC.out _ (HX.out.below HB0.out) (HT.out.below HB0.out)).mono ?_
  rintro e1 w1 ⟨rfl, hb⟩
  have HE1 := Lib.hid (HE0.out.below hb)
  have HB1 := Lib.hid (HB0.out.trans (hb.mono HB0.out.size)); clear hb
  have c0 := HE1.out.c0
  dsimp only at c0
  go_wp2_with fail
  refine (rof_calls _ _).mono ?_
  rintro e2 w2 ⟨hs, -, hb⟩
  obtain rfl := hs _ HR.out
  have HE2 := Lib.hid (HE1.out.below hb)
  have HB2 := Lib.hid (HB1.out.trans (hb.mono HB1.out.size)); clear hb hs c0
  unfold rrowV
  dsimp only
  rw [htb]
  obtain ⟨tb, hTB⟩ : ∃ tb, decide (t.length > 0) = tb := ⟨_, rfl⟩
  rw [hTB]
  have HTB := Lib.hid hTB; clear hTB htb
  have HPH := Lib.hid (rh_new (wd := wd) (rb := rb) (rp := rp) (tb := tb) HE2.out HB2.out)
  clear HE0 HE1 HE2 HB0 HB1
  go_wp2_with fail
  generalize hW : w2.alloc (.cells #[.string wd, .bool rb, .bool rp, .bool tb] 68) = w3 at *
  clear hW
  have q1 : w3.cell? ⟨w.heap.size, 1, none⟩ = some (.int .i64 tick) := HPH.out.ev.c1
  have q2 : w3.cell? ⟨w2.heap.size, 0, none⟩ = some (.string wd) := HPH.out.r0
  have hh := HPH.out.below (Below.refl _ _).drew
  go_region_held3 (fun w' => w'.cell? ⟨w.heap.size, 1, none⟩ = some (.int .i64 tick) ∧ w'.cell? ⟨w2.heap.size, 0, none⟩ = some (.string wd) ∧ RH w w2.heap.size ⟨k, tick, pid, bb, t⟩ (.slice XA t.length xc) wd rb rp tb w')
    (first | exact RH.both (by assumption) | exact RH.both (RH.alloc (by assumption) _))
    (first | (go_at_call 47; have hz := (by assumption : _ ∧ _ ∧ RH w w2.heap.size ⟨k, tick, pid, bb, t⟩ (.slice XA t.length xc) wd rb rp tb _).2.2; refine (HCI.out _ (HT.out.below hz.be).pow).mono ?_; rintro e w' ⟨rfl, kk, os, hw⟩; have hz' := hz.grew hw; clear hz hw))
  have hz := (by assumption : RH w w2.heap.size ⟨k, tick, pid, bb, t⟩ (.slice XA t.length xc) wd rb rp tb w')
  have HZ := Lib.hid hz; clear hz q1 q2 hh HPH
  cases rb with
  | false =>
    have q0 := HZ.out.r1
    cases rp with
    | false =>
      have q1 := HZ.out.r2
      have q2 := HZ.out.r3
      cases tb with
      | false =>
        have hn : ¬ t.length > 0 := by have := HTB.out; simpa using this
        have hfi : (D ++ ({ data := #[32] } : ByteArray) ++ wd) = Txt.bytes (evHead ⟨k, tick, pid, bb, t⟩ ⟨wd, false, false, nb, tk⟩) := bytes_of (by simp [evHead, HLL.out.1, HLL.out.2.1, HLL.out.2.2])
        obtain rfl : (evHead ⟨k, tick, pid, bb, t⟩ ⟨wd, false, false, nb, tk⟩, 0) = RV := by rw [← HV.out, if_neg hn]
        have HFI := Lib.hid hfi; clear hfi hn
        go_wp2
        go_ret2
        exact ⟨congrArg (fun z => Ending.returned (.tuple #[.string z, .int .i64 0])) HFI.out, HZ.out.be⟩
      | true =>
        have hn : t.length > 0 := by have := HTB.out; simpa using this
        have c4 := HZ.out.ev.c4
        try dsimp only at c4
        have hpl : (print t).2 = 0 → (print t).1.length ≤ 65536 := print_len2
        have hpc := HPC.out _ (HX.out.below HZ.out.be) (HT.out.below HZ.out.be)
        have hv := HV.out
        rw [if_pos hn] at hv
        generalize print t = PR at hpl hpc hv
        obtain ⟨pr, pe⟩ := PR
        dsimp only at hpl hpc hv
        obtain ⟨P, hP⟩ : ∃ P : ByteArray, Txt.bytes pr = P := ⟨_, rfl⟩
        rw [hP] at hpc
        have hPz : pe = 0 → P.size ≤ 65536 := fun h => by rw [← hP, bytes_size]; exact hpl h
        have hPl : P.data.toList = pr := by rw [← hP]; rfl
        have HPl := Lib.hid hPl
        have HPz := Lib.hid hPz
        have HV2 := Lib.hid hv
        have HPCx := Lib.hid hpc; clear hpc hv hPl hP hPz hpl hn HV
        go_wp2_with fail
        refine HPCx.out.mono ?_
        rintro e5 y5 ⟨rfl, hb⟩
        have HZ9 := Lib.hid (HZ.out.below hb); clear hb c4 q2 HPCx
        by_cases hpe : pe = 0
        · subst hpe
          have hPz := HPz.out rfl
          have z7 : (D ++ ({ data := #[32] } : ByteArray) ++ wd ++ ({ data := #[32] } : ByteArray)).size ≤ 300 := by rw [sp_size]; have : (({ data := #[32] } : ByteArray)).size = 1 := rfl; omega
          have hfi : (D ++ ({ data := #[32] } : ByteArray) ++ wd ++ ({ data := #[32] } : ByteArray) ++ P) = Txt.bytes (evHead ⟨k, tick, pid, bb, t⟩ ⟨wd, false, false, nb, tk⟩ ++ 32 :: pr) := bytes_of (by simp [evHead, HLL.out.1, HLL.out.2.1, HLL.out.2.2, HPl.out])
          obtain rfl : (evHead ⟨k, tick, pid, bb, t⟩ ⟨wd, false, false, nb, tk⟩ ++ 32 :: pr, 0) = RV := by rw [← HV2.out, if_neg (by simp)]
          have HFI := Lib.hid hfi; clear hfi HV2
          go_wp2
          go_ret2
          exact ⟨congrArg (fun z => Ending.returned (.tuple #[.string z, .int .i64 0])) HFI.out, HZ9.out.be⟩
        · obtain rfl : ([], pe) = RV := by rw [← HV2.out, if_pos hpe]
          have hpn : (pe != 0) = true := by simpa using hpe
          clear HV2
          go_wp2
          go_ret2
          exact ⟨rfl, HZ9.out.be⟩
    | true =>
      have q1 := HZ.out.r2
      have c3 := HZ.out.ev.c2
      dsimp only at c3
      have z4 : (D ++ ({ data := #[32] } : ByteArray) ++ wd ++ C).size ≤ 200 := by rw [sp_size]; omega
      go_wp2_with fail
      refine (HCC.out _ (HT.out.below HZ.out.be)).mono ?_
      rintro e4 y4 ⟨rfl, hb⟩
      have HZ2 := Lib.hid (HZ.out.below hb); clear hb c3 q1
      have q2 := HZ2.out.r3
      cases tb with
      | false =>
        have hn : ¬ t.length > 0 := by have := HTB.out; simpa using this
        have hfi : (D ++ ({ data := #[32] } : ByteArray) ++ wd ++ C) = Txt.bytes (evHead ⟨k, tick, pid, bb, t⟩ ⟨wd, true, false, nb, tk⟩) := bytes_of (by simp [evHead, HLL.out.1, HLL.out.2.1, HLL.out.2.2])
        obtain rfl : (evHead ⟨k, tick, pid, bb, t⟩ ⟨wd, true, false, nb, tk⟩, 0) = RV := by rw [← HV.out, if_neg hn]
        have HFI := Lib.hid hfi; clear hfi hn
        go_wp2
        go_ret2
        exact ⟨congrArg (fun z => Ending.returned (.tuple #[.string z, .int .i64 0])) HFI.out, HZ2.out.be⟩
      | true =>
        have hn : t.length > 0 := by have := HTB.out; simpa using this
        have c4 := HZ2.out.ev.c4
        try dsimp only at c4
        have hpl : (print t).2 = 0 → (print t).1.length ≤ 65536 := print_len2
        have hpc := HPC.out _ (HX.out.below HZ2.out.be) (HT.out.below HZ2.out.be)
        have hv := HV.out
        rw [if_pos hn] at hv
        generalize print t = PR at hpl hpc hv
        obtain ⟨pr, pe⟩ := PR
        dsimp only at hpl hpc hv
        obtain ⟨P, hP⟩ : ∃ P : ByteArray, Txt.bytes pr = P := ⟨_, rfl⟩
        rw [hP] at hpc
        have hPz : pe = 0 → P.size ≤ 65536 := fun h => by rw [← hP, bytes_size]; exact hpl h
        have hPl : P.data.toList = pr := by rw [← hP]; rfl
        have HPl := Lib.hid hPl
        have HPz := Lib.hid hPz
        have HV2 := Lib.hid hv
        have HPCx := Lib.hid hpc; clear hpc hv hPl hP hPz hpl hn HV
        go_wp2_with fail
        refine HPCx.out.mono ?_
        rintro e5 y5 ⟨rfl, hb⟩
        have HZ9 := Lib.hid (HZ2.out.below hb); clear hb c4 q2 HPCx
        by_cases hpe : pe = 0
        · subst hpe
          have hPz := HPz.out rfl
          have z7 : (D ++ ({ data := #[32] } : ByteArray) ++ wd ++ C ++ ({ data := #[32] } : ByteArray)).size ≤ 300 := by rw [sp_size]; have : (({ data := #[32] } : ByteArray)).size = 1 := rfl; omega
          have hfi : (D ++ ({ data := #[32] } : ByteArray) ++ wd ++ C ++ ({ data := #[32] } : ByteArray) ++ P) = Txt.bytes (evHead ⟨k, tick, pid, bb, t⟩ ⟨wd, true, false, nb, tk⟩ ++ 32 :: pr) := bytes_of (by simp [evHead, HLL.out.1, HLL.out.2.1, HLL.out.2.2, HPl.out])
          obtain rfl : (evHead ⟨k, tick, pid, bb, t⟩ ⟨wd, true, false, nb, tk⟩ ++ 32 :: pr, 0) = RV := by rw [← HV2.out, if_neg (by simp)]
          have HFI := Lib.hid hfi; clear hfi HV2
          go_wp2
          go_ret2
          exact ⟨congrArg (fun z => Ending.returned (.tuple #[.string z, .int .i64 0])) HFI.out, HZ9.out.be⟩
        · obtain rfl : ([], pe) = RV := by rw [← HV2.out, if_pos hpe]
          have hpn : (pe != 0) = true := by simpa using hpe
          clear HV2
          go_wp2
          go_ret2
          exact ⟨rfl, HZ9.out.be⟩
  | true =>
    have q0 := HZ.out.r1
    have c2 := HZ.out.ev.c3
    dsimp only at c2
    have z3 : (D ++ ({ data := #[32] } : ByteArray) ++ wd ++ B).size ≤ 100 := by rw [sp_size]; omega
    go_wp2_with fail
    refine (HBC.out _ (HT.out.below HZ.out.be)).mono ?_
    rintro e3 y3 ⟨rfl, hb⟩
    have HZ1 := Lib.hid (HZ.out.below hb); clear hb c2 q0
    cases rp with
    | false =>
      have q1 := HZ1.out.r2
      have q2 := HZ1.out.r3
      cases tb with
      | false =>
        have hn : ¬ t.length > 0 := by have := HTB.out; simpa using this
        have hfi : (D ++ ({ data := #[32] } : ByteArray) ++ wd ++ B) = Txt.bytes (evHead ⟨k, tick, pid, bb, t⟩ ⟨wd, false, true, nb, tk⟩) := bytes_of (by simp [evHead, HLL.out.1, HLL.out.2.1, HLL.out.2.2])
        obtain rfl : (evHead ⟨k, tick, pid, bb, t⟩ ⟨wd, false, true, nb, tk⟩, 0) = RV := by rw [← HV.out, if_neg hn]
        have HFI := Lib.hid hfi; clear hfi hn
        go_wp2
        go_ret2
        exact ⟨congrArg (fun z => Ending.returned (.tuple #[.string z, .int .i64 0])) HFI.out, HZ1.out.be⟩
      | true =>
        have hn : t.length > 0 := by have := HTB.out; simpa using this
        have c4 := HZ1.out.ev.c4
        try dsimp only at c4
        have hpl : (print t).2 = 0 → (print t).1.length ≤ 65536 := print_len2
        have hpc := HPC.out _ (HX.out.below HZ1.out.be) (HT.out.below HZ1.out.be)
        have hv := HV.out
        rw [if_pos hn] at hv
        generalize print t = PR at hpl hpc hv
        obtain ⟨pr, pe⟩ := PR
        dsimp only at hpl hpc hv
        obtain ⟨P, hP⟩ : ∃ P : ByteArray, Txt.bytes pr = P := ⟨_, rfl⟩
        rw [hP] at hpc
        have hPz : pe = 0 → P.size ≤ 65536 := fun h => by rw [← hP, bytes_size]; exact hpl h
        have hPl : P.data.toList = pr := by rw [← hP]; rfl
        have HPl := Lib.hid hPl
        have HPz := Lib.hid hPz
        have HV2 := Lib.hid hv
        have HPCx := Lib.hid hpc; clear hpc hv hPl hP hPz hpl hn HV
        go_wp2_with fail
        refine HPCx.out.mono ?_
        rintro e5 y5 ⟨rfl, hb⟩
        have HZ9 := Lib.hid (HZ1.out.below hb); clear hb c4 q2 HPCx
        by_cases hpe : pe = 0
        · subst hpe
          have hPz := HPz.out rfl
          have z7 : (D ++ ({ data := #[32] } : ByteArray) ++ wd ++ B ++ ({ data := #[32] } : ByteArray)).size ≤ 300 := by rw [sp_size]; have : (({ data := #[32] } : ByteArray)).size = 1 := rfl; omega
          have hfi : (D ++ ({ data := #[32] } : ByteArray) ++ wd ++ B ++ ({ data := #[32] } : ByteArray) ++ P) = Txt.bytes (evHead ⟨k, tick, pid, bb, t⟩ ⟨wd, false, true, nb, tk⟩ ++ 32 :: pr) := bytes_of (by simp [evHead, HLL.out.1, HLL.out.2.1, HLL.out.2.2, HPl.out])
          obtain rfl : (evHead ⟨k, tick, pid, bb, t⟩ ⟨wd, false, true, nb, tk⟩ ++ 32 :: pr, 0) = RV := by rw [← HV2.out, if_neg (by simp)]
          have HFI := Lib.hid hfi; clear hfi HV2
          go_wp2
          go_ret2
          exact ⟨congrArg (fun z => Ending.returned (.tuple #[.string z, .int .i64 0])) HFI.out, HZ9.out.be⟩
        · obtain rfl : ([], pe) = RV := by rw [← HV2.out, if_pos hpe]
          have hpn : (pe != 0) = true := by simpa using hpe
          clear HV2
          go_wp2
          go_ret2
          exact ⟨rfl, HZ9.out.be⟩
    | true =>
      have q1 := HZ1.out.r2
      have c3 := HZ1.out.ev.c2
      dsimp only at c3
      have z4 : (D ++ ({ data := #[32] } : ByteArray) ++ wd ++ B ++ C).size ≤ 200 := by rw [sp_size]; omega
      go_wp2_with fail
      refine (HCC.out _ (HT.out.below HZ1.out.be)).mono ?_
      rintro e4 y4 ⟨rfl, hb⟩
      have HZ2 := Lib.hid (HZ1.out.below hb); clear hb c3 q1
      have q2 := HZ2.out.r3
      cases tb with
      | false =>
        have hn : ¬ t.length > 0 := by have := HTB.out; simpa using this
        have hfi : (D ++ ({ data := #[32] } : ByteArray) ++ wd ++ B ++ C) = Txt.bytes (evHead ⟨k, tick, pid, bb, t⟩ ⟨wd, true, true, nb, tk⟩) := bytes_of (by simp [evHead, HLL.out.1, HLL.out.2.1, HLL.out.2.2])
        obtain rfl : (evHead ⟨k, tick, pid, bb, t⟩ ⟨wd, true, true, nb, tk⟩, 0) = RV := by rw [← HV.out, if_neg hn]
        have HFI := Lib.hid hfi; clear hfi hn
        go_wp2
        go_ret2
        exact ⟨congrArg (fun z => Ending.returned (.tuple #[.string z, .int .i64 0])) HFI.out, HZ2.out.be⟩
      | true =>
        have hn : t.length > 0 := by have := HTB.out; simpa using this
        have c4 := HZ2.out.ev.c4
        try dsimp only at c4
        have hpl : (print t).2 = 0 → (print t).1.length ≤ 65536 := print_len2
        have hpc := HPC.out _ (HX.out.below HZ2.out.be) (HT.out.below HZ2.out.be)
        have hv := HV.out
        rw [if_pos hn] at hv
        generalize print t = PR at hpl hpc hv
        obtain ⟨pr, pe⟩ := PR
        dsimp only at hpl hpc hv
        obtain ⟨P, hP⟩ : ∃ P : ByteArray, Txt.bytes pr = P := ⟨_, rfl⟩
        rw [hP] at hpc
        have hPz : pe = 0 → P.size ≤ 65536 := fun h => by rw [← hP, bytes_size]; exact hpl h
        have hPl : P.data.toList = pr := by rw [← hP]; rfl
        have HPl := Lib.hid hPl
        have HPz := Lib.hid hPz
        have HV2 := Lib.hid hv
        have HPCx := Lib.hid hpc; clear hpc hv hPl hP hPz hpl hn HV
        go_wp2_with fail
        refine HPCx.out.mono ?_
        rintro e5 y5 ⟨rfl, hb⟩
        have HZ9 := Lib.hid (HZ2.out.below hb); clear hb c4 q2 HPCx
        by_cases hpe : pe = 0
        · subst hpe
          have hPz := HPz.out rfl
          have z7 : (D ++ ({ data := #[32] } : ByteArray) ++ wd ++ B ++ C ++ ({ data := #[32] } : ByteArray)).size ≤ 300 := by rw [sp_size]; have : (({ data := #[32] } : ByteArray)).size = 1 := rfl; omega
          have hfi : (D ++ ({ data := #[32] } : ByteArray) ++ wd ++ B ++ C ++ ({ data := #[32] } : ByteArray) ++ P) = Txt.bytes (evHead ⟨k, tick, pid, bb, t⟩ ⟨wd, true, true, nb, tk⟩ ++ 32 :: pr) := bytes_of (by simp [evHead, HLL.out.1, HLL.out.2.1, HLL.out.2.2, HPl.out])
          obtain rfl : (evHead ⟨k, tick, pid, bb, t⟩ ⟨wd, true, true, nb, tk⟩ ++ 32 :: pr, 0) = RV := by rw [← HV2.out, if_neg (by simp)]
          have HFI := Lib.hid hfi; clear hfi HV2
          go_wp2
          go_ret2
          exact ⟨congrArg (fun z => Ending.returned (.tuple #[.string z, .int .i64 0])) HFI.out, HZ9.out.be⟩
        · obtain rfl : ([], pe) = RV := by rw [← HV2.out, if_pos hpe]
          have hpn : (pe != 0) = true := by simpa using hpe
          clear HV2
          go_wp2
          go_ret2
          exact ⟨rfl, HZ9.out.be⟩
set_option maxHeartbeats 1000000 in
theorem rvprint_calls (e : Ev) (x : Value) (w : World) (hx : SeesT w x e.term) (hto : TextsOk e.term) (hf : ∀ c ∈ e.term, fits c) (h1 : fit64 e.tick) (h2 : fit64 e.pid) (h3 : fit64 e.by_) (ht : Tabs w) :
    Calls Tryz.prog 15 #[evV e x] w fun e' w' => e' = .returned (.tuple #[.string (Txt.bytes (evPrint e).1), .int .i64 (evPrint e).2]) ∧ Below w.heap.size w w' := by
  by_cases he : evRight e = 0
  · cases hr : trow e.kind with
    | none => unfold evRight at he; rw [hr] at he; cases he
    | some r => exact rvprint_some e x r w hr he hx hto hf h1 h2 h3 ht
  · have hp : evPrint e = ([], evRight e) := by unfold evPrint; rw [if_pos he]
    rw [hp]
    have hrc := fun W a b => revr_calls e x W a hto b
    generalize evRight e = v at *
    have HRC := Lib.hid hrc; clear hrc hp
    have HB0 : Hid (Below w.heap.size w (w.alloc (.cells #[.int .i64 e.kind, .int .i64 e.tick, .int .i64 e.pid, .int .i64 e.by_, x] 24))) := Lib.hid ((Below.refl _ _).alloc (Nat.le_refl _) _)
    have hv : (v != 0) = true := by simpa using he
    have HX := Lib.hid hx
    have HT := Lib.hid ht
    obtain ⟨XA, xc, rfl, -, -⟩ := hx
    unfold evV at *
    clear ht hto hf h1 h2 h3 he
    go_enter Tryz.func15, Tryz.ntmps15
    go_wp2_with fail
    refine (HRC.out _ (HX.out.below HB0.out) (HT.out.below HB0.out)).mono ?_
    rintro e1 w1 ⟨rfl, hb⟩
    have HB1 := Lib.hid (HB0.out.trans (hb.mono HB0.out.size)); clear hb
    go_wp2
    go_ret2
    exact ⟨rfl, HB1.out⟩
end Go.Proofs.YtejpdfenejbjdaaGreatDoor
