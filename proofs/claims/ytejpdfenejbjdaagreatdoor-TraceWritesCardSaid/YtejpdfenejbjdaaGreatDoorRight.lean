/- Walks: what is right of a term. -/
import Derived.Test.YtejpdfenejbjdaaGreatDoorWordB
import Derived.Test.YtejpdfenejbjdaaGreatDoorCells
namespace Go.Proofs.YtejpdfenejbjdaaGreatDoor
open Go.RowKit Txt
set_option linter.unusedVariables false
set_option linter.unusedSimpArgs false

theorem behind_7 (n : Int) (x : ByteArray) (w : World) :
    Calls Tryz.prog 109 #[.agg #[.int .i64 7, .int .i64 n, .string x]] w fun e w' => e = .returned (.int .i64 2) ∧ Below w.heap.size w w' := by
  go_enter Tryz.func109, Tryz.ntmps109
  go_wp2
  go_ret
  exact ⟨rfl, (Below.refl _ _).alloc (Nat.le_refl _) _⟩
theorem behind_5 (n : Int) (x : ByteArray) (w : World) (h0 : 0 ≤ n) (h1 : n ≤ 255) :
    Calls Tryz.prog 109 #[.agg #[.int .i64 5, .int .i64 n, .string x]] w fun e w' => e = .returned (.int .i64 n) ∧ Below w.heap.size w w' := by
  go_enter Tryz.func109, Tryz.ntmps109
  go_wp2
  go_ret
  exact ⟨rfl, (Below.refl _ _).alloc (Nat.le_refl _) _⟩
theorem behind_other (k n : Int) (x : ByteArray) (w : World) (h7 : (k == 7) = false) (h5 : (k == 5) = false) :
    Calls Tryz.prog 109 #[.agg #[.int .i64 k, .int .i64 n, .string x]] w fun e w' => e = .returned (.int .i64 0) ∧ Below w.heap.size w w' := by
  go_enter Tryz.func109, Tryz.ntmps109
  go_wp2
  go_ret
  exact ⟨rfl, (Below.refl _ _).alloc (Nat.le_refl _) _⟩
/-- of a cell that is right -/
theorem behind_calls (c : Cl) (w : World) (hc : cellE c = 0) :
    Calls Tryz.prog 109 #[.agg #[.int .i64 c.kind, .int .i64 c.n, .string c.text]] w fun e w' => e = .returned (.int .i64 (kids c : Int)) ∧ Below w.heap.size w w' := by
  obtain ⟨k, n, x⟩ := c
  simp only [kids]
  by_cases h7 : k = 7
  · subst h7; simp only [if_true]; exact behind_7 n x w
  · by_cases h5 : k = 5
    · subst h5
      have hb : 0 ≤ n ∧ n ≤ 255 := by
        simp only [cellE] at hc
        generalize x.size = z at hc
        simp [cellV] at hc
        omega
      rw [if_neg h7, if_pos ⟨rfl, hb.1, hb.2⟩, Int.toNat_of_nonneg hb.1]
      exact behind_5 n x w hb.1 hb.2
    · rw [if_neg h7, if_neg (fun h => h5 h.1)]
      exact behind_other k n x w (beq_eq_false_iff_ne.2 h7) (beq_eq_false_iff_ne.2 h5)
theorem kids_le (c : Cl) : kids c ≤ 255 := by
  unfold kids; split
  · omega
  · split
    · omega
    · omega

def TextsOk (t : List Cl) : Prop := ∀ c ∈ t, c.text.size ≤ 140737488355328

set_option maxHeartbeats 1000000 in
theorem right_calls (x : Value) (t : List Cl) (v : Int) (kk : Nat) (w : World) (hx : SeesT w x t) (hto : TextsOk t) (ht : Tabs w) (hr : right t = (v, kk)) :
    Calls Tryz.prog 78 #[x] w fun e w' => e = .returned (.tuple #[.int .i64 v, .int .i64 (kk : Int)]) ∧ Below w.heap.size w w' := by
  have HX := Lib.hid hx
  obtain ⟨A, cap, rfl, hcap, hA⟩ := hx
  clear hA
  by_cases hz : t.length = 0
  · have hr' : v = 5 ∧ kk = 0 := by rw [right, if_pos hz] at hr; simpa [eq_comm] using hr
    obtain ⟨rfl, rfl⟩ := hr'
    have h0 : ((t.length : Int) == 0) = true := by rw [hz]; rfl
    clear hz hr
    go_enter Tryz.func78, Tryz.ntmps78
    go_wp2
    go_ret2
    exact ⟨rfl, Below.refl _ _⟩
  have h0 : ((t.length : Int) == 0) = false := by rw [beq_eq_false_iff_ne]; omega
  by_cases hbig : 1024 < t.length
  · have hr' : v = 7 ∧ kk = 0 := by rw [right, if_neg hz, if_pos hbig] at hr; simpa [eq_comm] using hr
    obtain ⟨rfl, rfl⟩ := hr'
    clear hz hr
    go_enter Tryz.func78, Tryz.ntmps78
    go_wp2
    go_ret2
    exact ⟨rfl, Below.refl _ _⟩
  have hr' : rightF t 0 1 = (v, kk) := by rwa [right, if_neg hz, if_neg hbig] at hr
  have HR := Lib.hid hr'; clear hr' hr hz
  have HT := Lib.hid ht; clear ht
  have HTO := Lib.hid hto; clear hto
  have hle : t.length ≤ 1024 := by omega
  clear hbig
  go_enter Tryz.func78, Tryz.ntmps78
  go_wp2
  go_loopw [4, 18] (fun m i wr => ∃ k want : Nat, k ≤ t.length ∧ want ≤ 1 + 255 * k ∧ i = .int .i64 k ∧ m = .int .i64 want ∧ rightF (t.drop k) k want = (v, kk) ∧ Below w.heap.size w wr) (fun _ i _ => t.length - (intOf i).toNat)
  case atStart => exact ⟨0, 1, Nat.zero_le _, by omega, rfl, rfl, HR.out, Below.refl _ _⟩
  case round =>
    obtain ⟨k, want, hk, hwb, rfl, rfl, hf, hb⟩ := hrel
    have HF := Lib.hid hf; clear hf
    have HB := Lib.hid hb; clear hb
    by_cases hlt : k < t.length
    · obtain ⟨ad, cap', hxe, _, hadl, c0, c1, c2⟩ := HX.out.at k hlt
      have hAe : A = some ad := by injection hxe
      subst hAe
      clear hxe
      have hbl := fun j => HB.out.cell (p := ⟨(ad.add (k * 3)).block, j, none⟩) (by rw [add_block]; exact hadl)
      have c0' : wr.cell? (ad.add (k * 3)) = some (.int .i64 t[k].kind) := (HB.out.cell (by rw [add_block]; exact hadl)).trans c0
      have c1' := (hbl _).trans c1
      have c2' := (hbl _).trans c2
      clear c0 c1 c2 hbl
      have htx : t[k].text.size ≤ 140737488355328 := HTO.out _ (List.getElem_mem _)
      have hF := HF.out
      rw [List.drop_eq_getElem_cons hlt, rightF] at hF
      have HTw := Lib.hid (HT.out.below HB.out)
      generalize t[k] = c at *
      by_cases hce : cellE c = 0
      · rw [if_neg (by simpa using hce)] at hF
        by_cases hw0 : want = 0
        · rw [if_pos hw0] at hF
          have hF2 : v = 63 ∧ kk = k := by simpa [eq_comm] using hF
          obtain ⟨rfl, rfl⟩ := hF2
          have hw1 : ((want : Int) == 0) = true := by rw [hw0]; rfl
          clear hF hw0
          have HCE := Lib.hid hce; clear hce
          go_wp2_with fail
          refine (cell_calls c 0 _ htx (HTw.out.alloc _) HCE.out).mono ?_
          rintro e w1 ⟨rfl, hb1⟩
          have HB1 := Lib.hid ((HB.out.alloc HB.out.size _).trans (hb1.mono (by simp; have := HB.out.size; omega))); clear hb1
          go_wp2
          go_ret2
          exact ⟨rfl, HB1.out⟩
        · rw [if_neg hw0] at hF
          have HF2 := Lib.hid hF; clear hF
          have hw1 : ((want : Int) == 0) = false := by rw [beq_eq_false_iff_ne]; omega
          have HCE := Lib.hid hce; clear hce
          have hkid := kids_le c
          go_wp2_with fail
          refine (cell_calls c 0 _ htx (HTw.out.alloc _) HCE.out).mono ?_
          rintro e w1 ⟨rfl, hb1⟩
          have hsz : wr.heap.size < w1.heap.size := by have := hb1.size; simp at this; omega
          have d0 : w1.cell? ⟨wr.heap.size, 0, none⟩ = some (.int .i64 c.kind) := (hb1.cell (by simp)).trans (by go_simp)
          have d1 : w1.cell? ⟨wr.heap.size, 1, none⟩ = some (.int .i64 c.n) := (hb1.cell (by simp)).trans (by go_simp)
          have d2 : w1.cell? ⟨wr.heap.size, 2, none⟩ = some (.string c.text) := (hb1.cell (by simp)).trans (by go_simp)
          have HB1 := Lib.hid ((HB.out.alloc HB.out.size _).trans (hb1.mono (by simp; have := HB.out.size; omega))); clear hb1
          go_wp2_with fail
          refine (behind_calls c _ HCE.out).mono ?_
          rintro e w2 ⟨rfl, hb2⟩
          have HB2 := Lib.hid (HB1.out.trans (hb2.mono HB1.out.size)); clear hb2
          generalize hkd : kids c = kd at *
          go_wp2
          go_roundw
          case rel => exact ⟨k + 1, want - 1 + kd, by omega, by omega, by go_num, by (refine congrArg _ ?_; omega), HF2.out, HB2.out⟩
          case measure => simp [intOf]; omega
      · rw [if_pos (by simpa using hce)] at hF
        have hF2 : v = cellE c ∧ kk = k := by simpa [eq_comm] using hF
        obtain ⟨rfl, rfl⟩ := hF2
        have hne : (cellE c == 0) = false := beq_eq_false_iff_ne.2 hce
        have hne2 : (cellE c != 0) = true := by simpa using hce
        clear hF hce
        go_wp2_with fail
        refine (cell_calls c _ _ htx (HTw.out.alloc _) rfl).mono ?_
        rintro e w1 ⟨rfl, hb1⟩
        have HB1 := Lib.hid ((HB.out.alloc HB.out.size _).trans (hb1.mono (by simp; have := HB.out.size; omega))); clear hb1
        go_wp2
        go_ret2
        exact ⟨rfl, HB1.out⟩
    · obtain rfl : k = t.length := by omega
      have hF := HF.out
      rw [List.drop_length, rightF] at hF
      by_cases hw0 : want = 0
      · subst hw0
        rw [if_neg (by omega)] at hF
        have hF2 : v = 0 ∧ kk = 0 := by simpa [eq_comm] using hF
        obtain ⟨rfl, rfl⟩ := hF2
        clear hF
        go_wp2
        go_ret2
        exact ⟨rfl, HB.out⟩
      · rw [if_pos (by omega)] at hF
        have hF2 : v = 62 ∧ kk = t.length := by simpa [eq_comm] using hF
        obtain ⟨rfl, rfl⟩ := hF2
        clear hF
        have hw1 : 0 < want := by omega
        go_wp2
        go_ret2
        exact ⟨rfl, HB.out⟩
end Go.Proofs.YtejpdfenejbjdaaGreatDoor
