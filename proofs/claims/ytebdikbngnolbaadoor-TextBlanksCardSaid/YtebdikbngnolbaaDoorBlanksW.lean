/- Walks: TextBlanks. -/
import Derived.Test.YtebdikbngnolbaaDoorKnown
import Derived.Test.YtebdikbngnolbaaDoorShiftC
namespace Go.Proofs.YtebdikbngnolbaaDoor
open Go.RowKit Txt
set_option linter.unusedVariables false
set_option linter.unusedSimpArgs false

def patA : Nat → List UInt8
  | 0 => []
  | k + 1 => patA k ++ [if k % 4 = 0 then 32 else if k % 4 = 1 then 9 else if k % 4 = 2 then 10 else 13]
def patB : Nat → List UInt8
  | 0 => []
  | k + 1 => patB k ++ [if k % 4 = 0 then 10 else if k % 4 = 1 then 32 else if k % 4 = 2 then 13 else 9]
theorem patA_len (k : Nat) : (patA k).length = k := by
  induction k with
  | zero => rfl
  | succ k ih => simp [patA, ih]
theorem patB_len (k : Nat) : (patB k).length = k := by
  induction k with
  | zero => rfl
  | succ k ih => simp [patB, ih]
theorem patA_blank (k : Nat) : ∀ c ∈ patA k, blankB c = true := by
  induction k with
  | zero => intro c hc; cases hc
  | succ k ih =>
    intro c hc
    simp only [patA, List.mem_append, List.mem_singleton] at hc
    rcases hc with hc | rfl
    · exact ih c hc
    · split
      · rfl
      · split
        · rfl
        · split <;> rfl
theorem patB_blank (k : Nat) : ∀ c ∈ patB k, blankB c = true := by
  induction k with
  | zero => intro c hc; cases hc
  | succ k ih =>
    intro c hc
    simp only [patB, List.mem_append, List.mem_singleton] at hc
    rcases hc with hc | rfl
    · exact ih c hc
    · split
      · rfl
      · split
        · rfl
        · split <;> rfl
theorem at_app (a b c : List UInt8) (s : ByteArray) (p : Nat) : at? (Txt.bytes a ++ s ++ Txt.bytes c) p = (a ++ s.data.toList ++ c)[p]? := by
  rw [at?_list]; simp [Txt.bytes]
theorem sh_bytes (a c : List UInt8) (s : ByteArray) (hc : ∀ x ∈ c, blankB x = true) : Sh a.length s (Txt.bytes a ++ s ++ Txt.bytes c) := by
  have hs : s.data.toList.length = s.size := by simp
  refine ⟨by rw [ByteArray.size_append, ByteArray.size_append, bytes_size]; omega, fun p hp => ?_, fun p x hp hx => ?_⟩
  · rw [at_app a a c, at?_list, List.append_assoc, List.getElem?_append_right (by omega), List.getElem?_append_left (by omega)]
    congr 1; omega
  · rw [at_app a a c, List.append_assoc, List.getElem?_append_right (by omega), List.getElem?_append_right (by omega)] at hx
    exact hc x (List.mem_of_getElem? hx)

/-- What the law asks of the two answers. -/
theorem blanks_law (a b : List UInt8) (s : ByteArray) (ha : ∀ x ∈ a, blankB x = true) (hb : ∀ x ∈ b, blankB x = true) (hl : (Txt.bytes a ++ s ++ Txt.bytes b).size ≤ 65536) :
    ((parse s).2.1 = 0 → parse (Txt.bytes a ++ s ++ Txt.bytes b) = ((parse s).1, 0, 0))
    ∧ ((parse s).2.1 ≠ 0 → (parse (Txt.bytes a ++ s ++ Txt.bytes b)).2.1 ≠ 0)
    ∧ ((parse s).2.1 ≠ 0 → ¬ ((parse s).2.1 = 7 ∧ (parse s).2.2 = 0) → (parse s).2.2 < s.size → (parse (Txt.bytes a ++ s ++ Txt.bytes b)).2.1 = (parse s).2.1 ∧ (parse (Txt.bytes a ++ s ++ Txt.bytes b)).2.2 = a.length + (parse s).2.2) := by
  refine parse_shift (sh_bytes a b s hb) (fun i hi => ?_) hl
  rw [at_app a a b, List.append_assoc, List.getElem?_append_left hi, List.getElem?_eq_getElem hi]
  exact ⟨_, rfl, ha _ (List.getElem_mem _)⟩
theorem same_self (t : List Cl) : sameL t t = true := by
  induction t with
  | nil => rfl
  | cons c t ih => simp [sameL, sameC, ih]
theorem parse_len (s : ByteArray) : (parse s).1.length ≤ 1024 := by
  unfold parse
  split
  · simp
  · split
    · simp
    · split
      · simp
      · split
        · simp
        · simp only; omega

theorem patA_size (k : Nat) {n : Nat} (h : k ≤ n) (hn : n < 9) : (Txt.bytes (patA k)).size ≤ 9 := by rw [bytes_size, patA_len]; omega
theorem patB_size (k : Nat) {n : Nat} (h : k ≤ n) (hn : n < 9) : (Txt.bytes (patB k)).size ≤ 9 := by rw [bytes_size, patB_len]; omega
/-- What is left behind the two loops. -/
def BlanksOut (w : World) (e : Ending) (w' : World) : Prop := e = .returned (.bool true) ∧ Below w.heap.size w w'

set_option maxHeartbeats 4000000 in
set_option maxRecDepth 100000 in
theorem tblanks_calls (s : ByteArray) (x y : Int) (w : World) (hx1 : -9223372036854775808 ≤ x) (hx2 : x ≤ 9223372036854775807) (hy1 : -9223372036854775808 ≤ y) (hy2 : y ≤ 9223372036854775807) (hs : s.size ≤ 140737488351232) (ht : Tabs w) :
    Calls Tryd.prog 3 #[.string s, .int .i64 x, .int .i64 y] w (BlanksOut w) := by
  have HT := Lib.hid ht; clear ht
  have hx9 := cnt9_lt x
  have hy9 := cnt9_lt y
  have hcx := fun W => count_calls x W hx1 hx2
  have hcy := fun W => count_calls y W hy1 hy2
  have HCX := Lib.hid hcx; clear hcx
  have HCY := Lib.hid hcy; clear hcy
  clear hx1 hx2 hy1 hy2
  generalize cnt9 x = nx at *
  generalize cnt9 y = ny at *
  go_enter Tryd.func3, Tryd.ntmps3
  go_wp2_with fail
  go_loopw [7, 8] (fun a i wr => ∃ k : Nat, k ≤ nx ∧ i = .int .i64 k ∧ a = .string (Txt.bytes (patA k)) ∧ wr = w) (fun _ i _ => nx - (intOf i).toNat)
  case atStart => exact ⟨0, Nat.zero_le _, rfl, rfl, rfl⟩
  case round =>
    obtain ⟨k, hk, rfl, rfl, rfl⟩ := hrel
    by_cases hlt : k < nx
    · have hd : decide (k < nx) = true := by simpa using hlt
      have hz := patA_size k hk hx9
      obtain rfl | rfl | rfl | rfl | rfl | rfl | rfl | rfl : k = 0 ∨ k = 1 ∨ k = 2 ∨ k = 3 ∨ k = 4 ∨ k = 5 ∨ k = 6 ∨ k = 7 := by omega
      all_goals
        go_wp2_with (go_at_call 5; refine (HCX.out _).mono ?_; rintro e w' ⟨rfl, rfl⟩)
        go_roundw
        case rel => first | exact ⟨1, by omega, rfl, congrArg Value.string (by first | rfl | kernel_rfl), by trivial⟩ | exact ⟨2, by omega, rfl, congrArg Value.string (by first | rfl | kernel_rfl), by trivial⟩ | exact ⟨3, by omega, rfl, congrArg Value.string (by first | rfl | kernel_rfl), by trivial⟩ | exact ⟨4, by omega, rfl, congrArg Value.string (by first | rfl | kernel_rfl), by trivial⟩ | exact ⟨5, by omega, rfl, congrArg Value.string (by first | rfl | kernel_rfl), by trivial⟩ | exact ⟨6, by omega, rfl, congrArg Value.string (by first | rfl | kernel_rfl), by trivial⟩ | exact ⟨7, by omega, rfl, congrArg Value.string (by first | rfl | kernel_rfl), by trivial⟩ | exact ⟨8, by omega, rfl, congrArg Value.string (by first | rfl | kernel_rfl), by trivial⟩
        case measure => simp [intOf]; omega
    · obtain rfl : k = nx := by omega
      have hd : decide (k < k) = false := by simp
      clear hlt hk
      go_wp2_with (go_at_call 5; refine (HCX.out _).mono ?_; rintro e w' ⟨rfl, rfl⟩)
      go_loopw [9, 10] (fun a i wr => ∃ k : Nat, k ≤ ny ∧ i = .int .i64 k ∧ a = .string (Txt.bytes (patB k)) ∧ wr = w') (fun _ i _ => ny - (intOf i).toNat)
      case atStart => exact ⟨0, Nat.zero_le _, rfl, rfl, rfl⟩
      case round =>
        obtain ⟨j, hk, rfl, rfl, rfl⟩ := hrel
        by_cases hlt : j < ny
        · have hd : decide (j < ny) = true := by simpa using hlt
          have hz := patB_size j hk hy9
          obtain rfl | rfl | rfl | rfl | rfl | rfl | rfl | rfl : j = 0 ∨ j = 1 ∨ j = 2 ∨ j = 3 ∨ j = 4 ∨ j = 5 ∨ j = 6 ∨ j = 7 := by omega
          all_goals
            go_wp2_with (go_at_call 5; refine (HCY.out _).mono ?_; rintro e w' ⟨rfl, rfl⟩)
            go_roundw
            case rel => first | exact ⟨1, by omega, rfl, congrArg Value.string (by first | rfl | kernel_rfl), by trivial⟩ | exact ⟨2, by omega, rfl, congrArg Value.string (by first | rfl | kernel_rfl), by trivial⟩ | exact ⟨3, by omega, rfl, congrArg Value.string (by first | rfl | kernel_rfl), by trivial⟩ | exact ⟨4, by omega, rfl, congrArg Value.string (by first | rfl | kernel_rfl), by trivial⟩ | exact ⟨5, by omega, rfl, congrArg Value.string (by first | rfl | kernel_rfl), by trivial⟩ | exact ⟨6, by omega, rfl, congrArg Value.string (by first | rfl | kernel_rfl), by trivial⟩ | exact ⟨7, by omega, rfl, congrArg Value.string (by first | rfl | kernel_rfl), by trivial⟩ | exact ⟨8, by omega, rfl, congrArg Value.string (by first | rfl | kernel_rfl), by trivial⟩
            case measure => simp [intOf]; omega
        · obtain rfl : j = ny := by omega
          have hd : decide (j < j) = false := by simp
          clear hlt hk
          go_wp2_with (go_at_call 5; refine (HCY.out _).mono ?_; rintro e w' ⟨rfl, rfl⟩)
          have hzA := patA_size k (Nat.le_refl k) hx9
          have hzB := patB_size j (Nat.le_refl j) hy9
          have hzc : (Txt.bytes (patA k) ++ s).size ≤ 140737488351241 := by rw [ByteArray.size_append]; omega
          have hzd : (Txt.bytes (patA k) ++ s ++ Txt.bytes (patB j)).size ≤ 140737488351250 := by rw [ByteArray.size_append]; omega
          have hzA' : (Txt.bytes (patA k)).size = k := by rw [bytes_size, patA_len]
          have hlaw : s.size ≤ 65516 → _ := fun h => blanks_law (patA k) (patB j) s (patA_blank k) (patB_blank j) (by rw [ByteArray.size_append, ByteArray.size_append]; omega)
          have hlen1 := parse_len s
          have hpa := fun W ht => parse_calls s W ht (by omega)
          have hpb := fun W ht => parse_calls (Txt.bytes (patA k) ++ s ++ Txt.bytes (patB j)) W ht (by omega)
          rw [patA_len] at hlaw
          generalize hR1 : parse s = R1 at *
          generalize hR2 : parse (Txt.bytes (patA k) ++ s ++ Txt.bytes (patB j)) = R2 at *
          clear hR1 hR2
          obtain ⟨t1, r1, p1⟩ := R1
          obtain ⟨t2, r2, p2⟩ := R2
          simp only at hlaw hlen1
          have HLAW := Lib.hid hlaw; clear hlaw
          have HPA := Lib.hid hpa; clear hpa
          have HPB := Lib.hid hpb; clear hpb
          have HZA := Lib.hid hzA'; clear hzA'
          refine (HPA.out _ HT.out).mono ?_
          rintro e w1 ⟨xv, rfl, hx1, hb1⟩
          simp only at hx1
          have HX1 := Lib.hid hx1
          obtain ⟨A1, c1, rfl, -, -⟩ := hx1
          have HB1 := Lib.hid hb1; clear hb1
          have HT1 := Lib.hid (HT.out.below HB1.out)
          go_wp2_with fail
          refine (HPB.out _ HT1.out).mono ?_
          rintro e w2 ⟨xv, rfl, hx2, hb2⟩
          simp only at hx2
          have HX2 := Lib.hid hx2
          obtain ⟨A2, c2, rfl, -, -⟩ := hx2
          have HX12 := Lib.hid (HX1.out.below hb2)
          have HB2 := Lib.hid (HB1.out.trans (hb2.mono HB1.out.size))
          have HT2 := Lib.hid (HT1.out.below hb2); clear hb2
          clear HPA HPB HX1 HB1 HT1
          by_cases hbig : 65516 < s.size
          · have hd : decide ((65516 : Int) < (s.size : Int)) = true := by simp; omega
            clear HLAW
            go_wp2_with (go_at_call 7; refine (known_calls _ HT2.out).mono ?_; rintro e w3 ⟨rfl, hb3⟩)
            go_ret
            exact ⟨rfl, HB2.out.trans (hb3.mono HB2.out.size)⟩
          · have hd : decide ((65516 : Int) < (s.size : Int)) = false := by simp; omega
            obtain ⟨l1, l2, l3⟩ := HLAW.out (by omega)
            clear HLAW hbig
            by_cases hr1 : r1 = 0
            · have h2 := l1 hr1
              simp only [Prod.mk.injEq] at h2
              obtain ⟨rfl, rfl, rfl⟩ := h2
              subst hr1
              clear l1 l2 l3
              have hsame := fun W h1 h2 => same_calls (.slice A1 t2.length c1) (.slice A2 t2.length c2) t2 t2 W h1 h2 (by omega)
              rw [same_self] at hsame
              have HSA := Lib.hid hsame; clear hsame
              go_wp2_with (first | (go_at_call 8; refine (HSA.out _ HX12.out HX2.out).mono ?_; rintro e w3 ⟨rfl, n3, rfl⟩) | (go_at_call 7; refine (known_calls _ (HT2.out.drewN _)).mono ?_; rintro e w4 ⟨rfl, hb4⟩))
              go_ret
              exact ⟨rfl, (below_drewN HB2.out _).trans (hb4.mono HB2.out.size)⟩
            · have hr2 := l2 hr1
              have hq1 : (r1 == 0) = false := by simpa using hr1
              have hq2 : (r2 != 0) = true := by simpa using hr2
              have hq2' : (r2 == 0) = false := by simpa using hr2
              by_cases h7 : r1 = 7 ∧ p1 = 0
              · obtain ⟨rfl, rfl⟩ := h7
                clear l1 l2 l3
                go_wp2_with (go_at_call 7; refine (known_calls _ HT2.out).mono ?_; rintro e w3 ⟨rfl, hb3⟩)
                go_ret
                exact ⟨rfl, HB2.out.trans (hb3.mono HB2.out.size)⟩
              · have hcases : (r1 == 7) = false ∨ ((r1 == 7) = true ∧ ((p1 : Int) == 0) = false) := by
                  by_cases h : r1 = 7
                  · right; refine ⟨by simpa using h, ?_⟩
                    rw [beq_eq_false_iff_ne]; intro e; exact h7 ⟨h, by omega⟩
                  · left; simpa using h
                by_cases hge : s.size ≤ p1
                · have hd2 : decide (s.size ≤ p1) = true := by simpa using hge
                  clear l1 l2 l3 h7
                  rcases hcases with g7 | ⟨g7, g0⟩
                  all_goals
                    go_wp2_with (go_at_call 7; refine (known_calls _ HT2.out).mono ?_; rintro e w3 ⟨rfl, hb3⟩)
                    go_ret
                    exact ⟨rfl, HB2.out.trans (hb3.mono HB2.out.size)⟩
                · have hd2 : decide (s.size ≤ p1) = false := by simpa using hge
                  obtain ⟨rfl, rfl⟩ := l3 hr1 h7 (by omega)
                  have hpl : ((k + p1 : Nat) : Int) = (p1 : Int) + ((Txt.bytes (patA k)).size : Int) := by rw [HZA.out]; omega
                  have heq : (((k : Int) + (p1 : Int)) == (p1 : Int) + ((Txt.bytes (patA k)).size : Int)) = true := by
                    rw [beq_iff_eq]; omega
                  have hplt : p1 < s.size := by omega
                  clear l1 l2 l3 h7 hpl
                  rcases hcases with g7 | ⟨g7, g0⟩
                  all_goals
                    go_wp2_with (go_at_call 7; refine (known_calls _ HT2.out).mono ?_; rintro e w3 ⟨rfl, hb3⟩)
                    go_ret
                    exact ⟨rfl, HB2.out.trans (hb3.mono HB2.out.size)⟩
end Go.Proofs.YtebdikbngnolbaaDoor
