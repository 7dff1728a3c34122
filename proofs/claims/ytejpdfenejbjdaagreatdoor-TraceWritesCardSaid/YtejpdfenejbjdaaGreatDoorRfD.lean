/- Walks: the reference's letters and hexadecimal digits. -/
import Derived.Test.YtejpdfenejbjdaaGreatDoorRfA
import Derived.Test.YtejpdfenejbjdaaGreatDoorBackA
namespace Go.Proofs.YtejpdfenejbjdaaGreatDoor
open Go.RowKit Txt
set_option linter.unusedVariables false
set_option linter.unusedSimpArgs false

/-- The letter behind a backslash; 0: none. -/
def letterN (r : Nat) : Nat := if r = 39 ∨ r = 92 then r else escape r
theorem letter_39 (w : World) : Calls Tryz.prog 168 #[.int .i32 39] w fun e w' => e = .returned (.int .i32 39) ∧ w' = w := by
  go_enter Tryz.func168, Tryz.ntmps168
  go_wp2
  go_ret
  exact ⟨rfl, rfl⟩
theorem letter_92 (w : World) : Calls Tryz.prog 168 #[.int .i32 92] w fun e w' => e = .returned (.int .i32 92) ∧ w' = w := by
  go_enter Tryz.func168, Tryz.ntmps168
  go_wp2
  go_ret
  exact ⟨rfl, rfl⟩
theorem letter_8 (w : World) : Calls Tryz.prog 168 #[.int .i32 8] w fun e w' => e = .returned (.int .i32 98) ∧ w' = w := by
  go_enter Tryz.func168, Tryz.ntmps168
  go_wp2
  go_ret
  exact ⟨rfl, rfl⟩
theorem letter_9 (w : World) : Calls Tryz.prog 168 #[.int .i32 9] w fun e w' => e = .returned (.int .i32 116) ∧ w' = w := by
  go_enter Tryz.func168, Tryz.ntmps168
  go_wp2
  go_ret
  exact ⟨rfl, rfl⟩
theorem letter_10 (w : World) : Calls Tryz.prog 168 #[.int .i32 10] w fun e w' => e = .returned (.int .i32 110) ∧ w' = w := by
  go_enter Tryz.func168, Tryz.ntmps168
  go_wp2
  go_ret
  exact ⟨rfl, rfl⟩
theorem letter_11 (w : World) : Calls Tryz.prog 168 #[.int .i32 11] w fun e w' => e = .returned (.int .i32 118) ∧ w' = w := by
  go_enter Tryz.func168, Tryz.ntmps168
  go_wp2
  go_ret
  exact ⟨rfl, rfl⟩
theorem letter_12 (w : World) : Calls Tryz.prog 168 #[.int .i32 12] w fun e w' => e = .returned (.int .i32 102) ∧ w' = w := by
  go_enter Tryz.func168, Tryz.ntmps168
  go_wp2
  go_ret
  exact ⟨rfl, rfl⟩
theorem letter_13 (w : World) : Calls Tryz.prog 168 #[.int .i32 13] w fun e w' => e = .returned (.int .i32 114) ∧ w' = w := by
  go_enter Tryz.func168, Tryz.ntmps168
  go_wp2
  go_ret
  exact ⟨rfl, rfl⟩
theorem letter_27 (w : World) : Calls Tryz.prog 168 #[.int .i32 27] w fun e w' => e = .returned (.int .i32 101) ∧ w' = w := by
  go_enter Tryz.func168, Tryz.ntmps168
  go_wp2
  go_ret
  exact ⟨rfl, rfl⟩
theorem letter_127 (w : World) : Calls Tryz.prog 168 #[.int .i32 127] w fun e w' => e = .returned (.int .i32 100) ∧ w' = w := by
  go_enter Tryz.func168, Tryz.ntmps168
  go_wp2
  go_ret
  exact ⟨rfl, rfl⟩
theorem letter_calls (r : Nat) (w : World) : Calls Tryz.prog 168 #[.int .i32 (r : Int)] w fun e w' => e = .returned (.int .i32 (letterN r : Int)) ∧ w' = w := by
  by_cases h : r = 39 ∨ r = 92 ∨ r = 8 ∨ r = 9 ∨ r = 10 ∨ r = 11 ∨ r = 12 ∨ r = 13 ∨ r = 27 ∨ r = 127
  · rcases h with rfl | rfl | rfl | rfl | rfl | rfl | rfl | rfl | rfl | rfl
    · exact letter_39 w
    · exact letter_92 w
    · exact letter_8 w
    · exact letter_9 w
    · exact letter_10 w
    · exact letter_11 w
    · exact letter_12 w
    · exact letter_13 w
    · exact letter_27 w
    · exact letter_127 w
  · have hz : letterN r = 0 := by simp only [not_or] at h; simp [letterN, escape, h]
    have HZ := Lib.hid hz; clear hz
    simp only [not_or] at h
    obtain ⟨h39, h92, h8, h9, h10, h11, h12, h13, h27, h127⟩ := h
    have e39 : ((r : Int) == 39) = false := by rw [beq_eq_false_iff_ne]; omega
    have e92 : ((r : Int) == 92) = false := by rw [beq_eq_false_iff_ne]; omega
    have e8 : ((r : Int) == 8) = false := by rw [beq_eq_false_iff_ne]; omega
    have e9 : ((r : Int) == 9) = false := by rw [beq_eq_false_iff_ne]; omega
    have e10 : ((r : Int) == 10) = false := by rw [beq_eq_false_iff_ne]; omega
    have e11 : ((r : Int) == 11) = false := by rw [beq_eq_false_iff_ne]; omega
    have e12 : ((r : Int) == 12) = false := by rw [beq_eq_false_iff_ne]; omega
    have e13 : ((r : Int) == 13) = false := by rw [beq_eq_false_iff_ne]; omega
    have e27 : ((r : Int) == 27) = false := by rw [beq_eq_false_iff_ne]; omega
    have e127 : ((r : Int) == 127) = false := by rw [beq_eq_false_iff_ne]; omega
    clear h39 h92 h8 h9 h10 h11 h12 h13 h27 h127
    go_enter Tryz.func168, Tryz.ntmps168
    go_wp2
    go_ret
    exact ⟨by rw [HZ.out]; rfl, rfl⟩
theorem enc_small (n : Nat) (h : n < 128) : Utf8.encode (n : Int) = ⟨#[UInt8.ofNat n]⟩ := by
  have e : Lib.encodeRune (n : Int) = (Utf8.encode (n : Int)).data.toList := encode_rune n
  apply ByteArray.ext
  apply Array.toList_inj.1
  rw [← e]
  unfold Lib.encodeRune
  rw [Lib.encodeRuneZ_one (by omega) (by omega)]
  simp
def strZ : Value → Nat
  | .string b => if b.size = 0 then 1 else 0
  | _ => 0
def HexAt (r : Nat) (n v : Value) : Prop :=
  (n = .int .i32 (r : Int) ∧ v = .string ⟨#[]⟩) ∨ (16 ≤ r ∧ n = .int .i32 ((r / 16 : Nat) : Int) ∧ v = .string ⟨#[hexd (r % 16)]⟩) ∨ (n = .int .i32 0 ∧ v = .string (Txt.bytes (hexT r)))
theorem hexT_ne (r : Nat) : (Txt.bytes (hexT r)).toList.isEmpty = false := by
  rw [isEmpty_size]
  unfold hexT
  split <;> rfl
theorem conv_rune (n : Fin 128) (w : World) : (convert 21 9 (.int .i32 (n.1 : Int))).run Tryz.prog w = .ok (.string ⟨#[UInt8.ofNat n.1]⟩) w := by
  have e : Utf8.encode (n.1 : Int) = ⟨#[UInt8.ofNat n.1]⟩ := enc_small n.1 n.2
  simp [convert, run_underlying, Tryz.underlying21, Tryz.underlying9, go_sem]
  show (pure (Value.string (Utf8.encode (n.1 : Int))) : Sem Value).run Tryz.prog w = _
  rw [e]; rfl
theorem strZ_nil : strZ (.string ⟨#[]⟩) = 1 := rfl
theorem strZ_s (c : UInt8) : strZ (.string ⟨#[c]⟩) = 0 := rfl
theorem strZ_one (c : UInt8) : strZ (.string (⟨#[c]⟩ ++ ⟨#[]⟩)) = 0 := by
  have e : (⟨#[c]⟩ : ByteArray) ++ ⟨#[]⟩ = ⟨#[c]⟩ := by apply ByteArray.ext; simp
  rw [e]; rfl
theorem strZ_two (c d : UInt8) : strZ (.string (⟨#[c]⟩ ++ ⟨#[d]⟩)) = 0 := by
  have e : (⟨#[c]⟩ : ByteArray) ++ ⟨#[d]⟩ = ⟨#[c, d]⟩ := by apply ByteArray.ext; simp
  rw [e]; rfl
theorem hexAt_A {r d : Nat} (hd : r % 16 = d) (hq : (r : Int) / 16 = ((r / 16 : Nat) : Int)) (hr : r < 160) : HexAt r (.int .i32 ((r : Int) / 16)) (.string (⟨#[hexd d]⟩ ++ ⟨#[]⟩)) := by
  have e : (⟨#[hexd d]⟩ : ByteArray) ++ ⟨#[]⟩ = ⟨#[hexd d]⟩ := by apply ByteArray.ext; simp
  rw [e, hq, ← hd]
  by_cases h16 : 16 ≤ r
  · exact .inr (.inl ⟨h16, rfl, rfl⟩)
  · refine .inr (.inr ⟨by rw [Nat.div_eq_of_lt (by omega)]; rfl, ?_⟩)
    rw [Nat.mod_eq_of_lt (by omega)]
    unfold hexT
    rw [if_pos (by omega)]; rfl
theorem hexAt_B {r : Nat} (h16 : 16 ≤ r) (hr : r < 160) : HexAt r (.int .i32 0) (.string (⟨#[hexd (r / 16)]⟩ ++ ⟨#[hexd (r % 16)]⟩)) := by
  refine .inr (.inr ⟨rfl, ?_⟩)
  unfold hexT
  rw [if_neg (by omega)]
  refine congrArg Value.string ?_
  apply ByteArray.ext; simp [Txt.bytes]
set_option maxHeartbeats 2000000 in
set_option maxRecDepth 100000 in
theorem rhex_calls (r : Nat) (w : World) (hr : r < 160) : Calls Tryz.prog 169 #[.int .i32 (r : Int)] w fun e w' => e = .returned (.string (Txt.bytes (hexT r))) ∧ w' = w := by
  go_enter Tryz.func169, Tryz.ntmps169
  go_wp2
  go_loop [0, 3] (fun n v => HexAt r n v) (fun n v => 2 * (intOf n).toNat + strZ v)
  case atStart => exact .inl ⟨rfl, rfl⟩
  case round =>
    rcases hrel with ⟨rfl, rfl⟩ | ⟨h16, rfl, rfl⟩ | ⟨rfl, rfl⟩
    · have hrr : (r : Int) ≤ 159 := by omega
      have HR := Lib.hid hr; clear hr
      obtain ⟨b0, hd0⟩ : ∃ b, decide (0 < r) = b := ⟨_, rfl⟩
      cases b0
      all_goals
        go_upto_region 3 with (fail)
        go_cut [4] (fun d W => d = .int .i32 ((r % 16 : Nat) : Int) ∧ W = w)
        case first =>
          go_wp2_with fail
          go_meet
          exact ⟨by simp, rfl⟩
        case rest =>
          obtain ⟨rfl, rfl⟩ := hcut
          have hd16 : r % 16 < 16 := Nat.mod_lt _ (by decide)
          obtain ⟨d, hd⟩ : ∃ d, r % 16 = d := ⟨_, rfl⟩
          rw [hd] at hd16 ⊢
          have HD := Lib.hid hd; clear hd
          have hq : (r : Int) / 16 = ((r / 16 : Nat) : Int) := by omega
          have HQ := Lib.hid hq; clear hq
          by_cases h10 : d < 10
          · have t10 : decide (d < 10) = true := decide_eq_true h10
            have hcv : ∀ w : World, (convert 21 9 (.int .i32 (48 + (d : Int)))).run Tryz.prog w = .ok (.string ⟨#[hexd d]⟩) w := by
              intro w
              have := conv_rune ⟨48 + d, by omega⟩ w
              unfold hexd; rw [if_pos h10]
              rw [← this]; rfl
            go_wp2
            go_round
            case rel => exact hexAt_A HD.out HQ.out HR.out
            case measure => rw [strZ_one, strZ_nil]; have := HR.out; simp [intOf]; omega
          · have t10 : decide (d < 10) = false := decide_eq_false h10
            have hcv : ∀ w : World, (convert 21 9 (.int .i32 (97 + (d : Int) - 10))).run Tryz.prog w = .ok (.string ⟨#[hexd d]⟩) w := by
              intro w
              have := conv_rune ⟨87 + d, by omega⟩ w
              unfold hexd; rw [if_neg h10]
              rw [← this, show (97 + (d : Int) - 10) = ((87 + d : Nat) : Int) by omega]
            go_wp2
            go_round
            case rel => exact hexAt_A HD.out HQ.out HR.out
            case measure => rw [strZ_one, strZ_nil]; have := HR.out; simp [intOf]; omega
    · obtain ⟨q, hq⟩ : ∃ q, r / 16 = q := ⟨_, rfl⟩
      have hq10 : q < 10 := by omega
      have hq0 : 0 < q := by omega
      rw [hq]
      have HH := Lib.hid (hexAt_B (r := r) h16 hr); rw [hq] at HH
      clear h16 hr hq
      have t0 : decide (0 < q) = true := decide_eq_true hq0
      have t10 : decide (q < 10) = true := decide_eq_true hq10
      have e1 : (q : Int) % 16 = (q : Int) := by omega
      have e2 : (q : Int) / 16 = 0 := by omega
      have hcv : ∀ w : World, (convert 21 9 (.int .i32 (48 + (q : Int)))).run Tryz.prog w = .ok (.string ⟨#[hexd q]⟩) w := by
        intro w
        have := conv_rune ⟨48 + q, by omega⟩ w
        unfold hexd; rw [if_pos hq10]
        rw [← this]; rfl
      go_wp2
      go_round
      case rel => exact HH.out
      case measure => rw [strZ_two, strZ_s]; simp [intOf]; omega
    · have hne := hexT_ne r
      have HR := Lib.hid hr; clear hr
      go_wp2
      go_ret
      exact ⟨rfl, rfl⟩
end Go.Proofs.YtejpdfenejbjdaaGreatDoor

namespace Go.Proofs.YtejpdfenejbjdaaGreatDoor
open Go.RowKit Txt
set_option linter.unusedVariables false
set_option linter.unusedSimpArgs false

def pcs (L : List Rn) : List UInt8 := L.flatMap fun x => piece x.r
theorem pcs_runes (s : ByteArray) : ∀ (k p : Nat), piecesF s k p = pcs ((runesF s k p).map wb) := by
  intro k
  induction k with
  | zero => intro p; rfl
  | succ k ih =>
    intro p
    rw [piecesF, runesF]
    by_cases hp : p < s.size
    · rw [if_pos hp, if_pos hp, ih]; rfl
    · rw [if_neg hp, if_neg hp]; rfl
theorem runes_in (s : ByteArray) : ∀ (k p : Nat), ∀ x ∈ (runesF s k p).map wb, x.at_ < s.size ∧ Utf8.decode s x.at_ = (x.r, x.len) := by
  intro k
  induction k with
  | zero => intro p x hx; simp [runesF] at hx
  | succ k ih =>
    intro p x hx
    rw [runesF] at hx
    split at hx
    · rename_i hp
      rw [List.map_cons, List.mem_cons] at hx
      rcases hx with rfl | hx
      · exact ⟨hp, rfl⟩
      · exact ih _ x hx
    · simp at hx
/-- What a rune that is right reads as. -/
theorem rune_cut {s : ByteArray} {a n r : Nat} (ha : a < s.size) (hd : Utf8.decode s a = (r, n)) (hv : ¬ (r = 65533 ∧ n = 1)) : s.extract a (a + n) = Txt.bytes (Utf8.encode (r : Int)).data.toList ∧ a + n ≤ s.size ∧ 1 ≤ n := by
  have h := enc_dec encode_rune (b := s) (i := a) ha (by rw [hd]; exact hv)
  rw [hd] at h
  simp only at h
  have hin := decode_in s a ha
  have hw := width_pos s a ha
  rw [hd] at hin hw
  refine ⟨?_, hin, hw⟩
  rw [h]
  apply ByteArray.ext
  apply Array.toList_inj.1
  simp [Txt.bytes, List.take_drop, Nat.add_comm]
theorem letter_lt (r : Nat) : letterN r < 128 := by
  unfold letterN
  split
  · omega
  · unfold escape
    repeat' split
    all_goals decide
theorem piece_letter {r : Nat} (h : letterN r ≠ 0) : piece r = [92, UInt8.ofNat (letterN r)] := by
  unfold letterN at h ⊢
  unfold piece
  by_cases h1 : r = 39 ∨ r = 92
  · rw [if_pos h1, if_pos h1, enc_ascii r (by omega)]
  · rw [if_neg h1] at h
    rw [if_neg h1, if_neg h1, if_pos h]
theorem piece_hex {r : Nat} (h : letterN r = 0) (hr : r < 32 ∨ (128 ≤ r ∧ r ≤ 159)) : piece r = [92, 120, 123] ++ hexT r ++ [125] := by
  unfold letterN at h
  unfold piece
  by_cases h1 : r = 39 ∨ r = 92
  · rw [if_pos h1] at h; omega
  · rw [if_neg h1] at h
    rw [if_neg h1, if_neg (by omega), if_pos (by omega)]
theorem piece_plain {r : Nat} (h : letterN r = 0) (hr : ¬ (r < 32 ∨ (128 ≤ r ∧ r ≤ 159))) : piece r = (Utf8.encode (r : Int)).data.toList := by
  unfold letterN at h
  unfold piece
  by_cases h1 : r = 39 ∨ r = 92
  · rw [if_pos h1] at h; omega
  · rw [if_neg h1] at h
    rw [if_neg h1, if_neg (by omega), if_neg (by omega)]
theorem two_more (l : List UInt8) (a b : UInt8) : Txt.bytes (39 :: l) ++ ⟨#[a]⟩ ++ ⟨#[b]⟩ = Txt.bytes (39 :: (l ++ [a, b])) := by
  apply ByteArray.ext; simp [Txt.bytes]
theorem two_size {n k : Nat} (h : n ≤ 1 + 6 * k) : n + 1 + 1 ≤ 1 + 6 * (k + 1) := by omega
theorem hex_more (l m : List UInt8) : Txt.bytes (39 :: l) ++ ⟨#[92, 120, 123]⟩ ++ Txt.bytes m ++ ⟨#[125]⟩ = Txt.bytes (39 :: (l ++ ([92, 120, 123] ++ m ++ [125]))) := by
  apply ByteArray.ext; simp [Txt.bytes]
theorem hex_size {n k m : Nat} (h : n ≤ 1 + 6 * k) (hm : m ≤ 2) : n + 3 + m + 1 ≤ 1 + 6 * (k + 1) := by omega
theorem cut_more (l m : List UInt8) : Txt.bytes (39 :: l) ++ Txt.bytes m = Txt.bytes (39 :: (l ++ m)) := by
  apply ByteArray.ext; simp [Txt.bytes]
theorem cut_size4 {n k m : Nat} (h : n ≤ 1 + 6 * k) (hm : m ≤ 4) : n + m ≤ 1 + 6 * (k + 1) := by omega
set_option maxHeartbeats 4000000 in
set_option maxRecDepth 100000 in
theorem r2quote_calls (s : ByteArray) (w : World) (hs : s.size ≤ 140737488355328) :
    Calls Tryz.prog 115 #[.string s] w fun e w' => e = .returned (.tuple #[.string (Txt.bytes (quote s).1), .int .i64 (quote s).2]) ∧ Below w.heap.size w w' := by
  have hright := r2right_calls s w hs
  cases hok : atomOk s with
  | false =>
    have hq : quote s = ([], 20) := by unfold quote; rw [hok]; rfl
    rw [hq]
    rw [hok] at hright
    have HRT := Lib.hid hright; clear hright hok hq
    go_enter Tryz.func115, Tryz.ntmps115
    go_wp2_with fail
    refine (HRT.out).mono ?_
    rintro e w' ⟨rfl, hb⟩
    go_wp2
    go_ret2
    exact ⟨rfl, hb⟩
  | true =>
    rw [hok] at hright
    have h255 : s.size ≤ 255 := by
      simp only [atomOk, Bool.and_eq_true, decide_eq_true_eq] at hok
      exact hok.1
    have hbb : Txt.bytes s.data.toList = s := by apply ByteArray.ext; simp [Txt.bytes]
    have HRT := Lib.hid hright; clear hright
    cases hba : bare s with
    | true =>
      have hq : quote s = (s.data.toList, 0) := by unfold quote; rw [hok, hba]; rfl
      rw [hq]
      simp only
      rw [hbb]
      have HBA := Lib.hid hba
      clear hok hq hbb hba
      go_enter Tryz.func115, Tryz.ntmps115
      go_wp2_with fail
      refine (HRT.out).mono ?_
      rintro e w1 ⟨rfl, hb⟩
      have HB := Lib.hid hb; clear hb
      go_wp2_with fail
      refine (r2bare_calls s true _ h255 HBA.out).mono ?_
      rintro e w' ⟨rfl, n, rfl⟩
      go_wp2
      go_ret2
      exact ⟨rfl, below_drewN HB.out _⟩
    | false =>
      have hq : quote s = (39 :: (pcs ((runesF s s.size 0).map wb) ++ [39]), 0) := by unfold quote; rw [hok, hba, if_pos rfl, if_neg (by simp), pcs_runes]
      rw [hq]
      simp only
      have hgood : ∀ x ∈ (runesF s s.size 0).map wb, x.at_ < s.size ∧ Utf8.decode s x.at_ = (x.r, x.len) ∧ ¬ (x.r = 65533 ∧ x.len = 1) := by
        intro x hx
        obtain ⟨h1, h2⟩ := runes_in s _ _ x hx
        refine ⟨h1, h2, fun h => ?_⟩
        have hsp : spelledF s s.size 0 = true := by
          simp only [atomOk, Bool.and_eq_true] at hok
          exact hok.2
        rw [spelled_runes, List.all_eq_true] at hsp
        have := hsp x hx
        rw [List.mem_map] at hx
        obtain ⟨y, -, rfl⟩ := hx
        simp only [wb] at h this
        simp [h.1, h.2] at this
      have hcall := runes_calls s
      have hll : ((runesF s s.size 0).map wb).length ≤ 255 := by
        have := runesF_len s s.size 0; simp; omega
      generalize (runesF s s.size 0).map wb = L at *
      have HG := Lib.hid hgood; clear hgood
      have HBA := Lib.hid hba; clear hba hok hq hbb
      have HC := Lib.hid hcall; clear hcall
      go_enter Tryz.func115, Tryz.ntmps115
      go_wp2_with fail
      refine (HRT.out).mono ?_
      rintro e w1 ⟨rfl, hb⟩
      have HB := Lib.hid hb; clear hb
      go_wp2_with fail
      refine (r2bare_calls s false _ h255 HBA.out).mono ?_
      rintro e w' ⟨rfl, n, rfl⟩
      have HB2 := Lib.hid (below_drewN HB.out n); clear HB
      generalize w1.drewN n = w2 at *
      go_wp2_with fail
      refine (HC.out _ h255).mono ?_
      rintro e w3 ⟨A, cap, rfl, hown, hb⟩
      have HO := Lib.hid hown; clear hown
      have HB3 := Lib.hid (HB2.out.trans (hb.mono HB2.out.size)); clear hb HB2
      go_wp2_with fail
      go_loopw [4, 17] (fun o i wr => ∃ (k : Nat) (O : ByteArray), k ≤ L.length ∧ i = .int .i64 k ∧ o = .string O ∧ O = Txt.bytes (39 :: pcs (L.take k)) ∧ O.size ≤ 1 + 6 * k ∧ OwnR w2.heap.size wr (.slice A L.length cap) L ∧ Below w.heap.size w wr) (fun _ i _ => L.length - (intOf i).toNat)
      case atStart => exact ⟨0, ⟨#[39]⟩, Nat.zero_le _, rfl, rfl, rfl, Nat.le_refl _, HO.out, HB3.out⟩
      case round =>
        obtain ⟨k, O, hk, rfl, rfl, hO, hOs, hown, hbe⟩ := hrel
        have HOE := Lib.hid hO; clear hO
        have HOW := Lib.hid hown
        have HBE := Lib.hid hbe; clear hbe
        by_cases hlt : k < L.length
        · obtain ⟨g, rfl, hg2, c0, c1, c2, c3⟩ := own_get hown k hlt
          obtain ⟨gd1, gd2, gd3⟩ := HG.out _ (List.getElem_mem hlt)
          have htk : L.take (k + 1) = L.take k ++ [L[k]] := List.take_succ_eq_append_getElem hlt
          have hstep : pcs (L.take (k + 1)) = pcs (L.take k) ++ piece L[k].r := by unfold pcs; rw [htk, List.flatMap_append, List.flatMap_cons, List.flatMap_nil, List.append_nil]
          have HST := Lib.hid hstep; clear hstep htk hown
          have hkl : (k : Int) < (L.length : Int) := by omega
          have hOs2 : O.size ≤ 1531 := by omega
          generalize L[k] = o at *
          obtain ⟨oa, ol, orr, ob⟩ := o
          dsimp only at c0 c1 c2 c3 gd1 gd2 gd3
          obtain ⟨hcut, hin, hlen1⟩ := rune_cut gd1 gd2 gd3
          have hrl : orr ≤ 1114111 := by
            have := Lib.rune_le s oa
            rw [gd2] at this; exact this
          have hel : (Txt.bytes (Utf8.encode (orr : Int)).data.toList).size ≤ 4 := by
            rw [bytes_size]; exact encode_le orr
          have HCUT := Lib.hid hcut
          have HGD := Lib.hid (And.intro gd2 (And.intro hrl hel)); clear gd2 gd3 hcut hrl hel
          have HBX := Lib.hid (HBE.out.alloc HBE.out.size (.cells #[.int .i64 (oa : Int), .int .i64 (ol : Int), .int .i32 (orr : Int), .bool ob] 186))
          have HOX := Lib.hid (HOW.out.below ((Below.refl _ _).alloc (Nat.le_refl _) (.cells #[.int .i64 (oa : Int), .int .i64 (ol : Int), .int .i32 (orr : Int), .bool ob] 186)))
          go_wp2_with fail
          refine (letter_calls orr _).mono ?_
          rintro e w4 ⟨rfl, rfl⟩
          have hll4 := letter_lt orr
          by_cases hl0 : letterN orr = 0
          · rw [hl0]
            by_cases hhx : orr < 32 ∨ (128 ≤ orr ∧ orr ≤ 159)
            · have hpc := piece_hex hl0 hhx
              have hh16 := hexT_len orr
              have hr160 : orr < 160 := by omega
              have HPC := Lib.hid hpc
              have HH := Lib.hid hh16; clear hpc hh16 hl0
              rcases hhx with h32 | ⟨h128, h159⟩
              · have t2 : decide (orr < 32) = true := decide_eq_true (by omega)
                have t2i : decide ((orr : Int) < (32 : Int)) = true := decide_eq_true (by omega)
                clear h32
                have HR := Lib.hid hr160; clear hr160
                have hb2 : (Txt.bytes (hexT orr)).size ≤ 2 := by rw [bytes_size]; exact HH.out
                go_wp2_with fail
                refine (rhex_calls orr _ HR.out).mono ?_
                rintro e w5 ⟨rfl, rfl⟩
                go_wp2
                go_roundw
                case rel => exact ⟨k + 1, _, by omega, by go_num, rfl, by rw [HOE.out, HST.out, HPC.out]; exact hex_more _ _, by rw [ByteArray.size_append, ByteArray.size_append, ByteArray.size_append]; exact hex_size hOs hb2, HOX.out, HBX.out⟩
                case measure => simp [intOf]; omega
              · have t2 : decide (orr < 32) = false := decide_eq_false (by omega)
                have t2i : decide ((orr : Int) < (32 : Int)) = false := decide_eq_false (by omega)
                have t3 : decide (128 ≤ orr) = true := decide_eq_true (by omega)
                have t3i : decide ((128 : Int) ≤ (orr : Int)) = true := decide_eq_true (by omega)
                have t4 : decide (orr ≤ 159) = true := decide_eq_true (by omega)
                have t4i : decide ((orr : Int) ≤ (159 : Int)) = true := decide_eq_true (by omega)
                clear h128 h159
                have HR := Lib.hid hr160; clear hr160
                have hb2 : (Txt.bytes (hexT orr)).size ≤ 2 := by rw [bytes_size]; exact HH.out
                go_wp2_with fail
                refine (rhex_calls orr _ HR.out).mono ?_
                rintro e w5 ⟨rfl, rfl⟩
                go_wp2
                go_roundw
                case rel => exact ⟨k + 1, _, by omega, by go_num, rfl, by rw [HOE.out, HST.out, HPC.out]; exact hex_more _ _, by rw [ByteArray.size_append, ByteArray.size_append, ByteArray.size_append]; exact hex_size hOs hb2, HOX.out, HBX.out⟩
                case measure => simp [intOf]; omega
            · have hpc := piece_plain hl0 hhx
              have HPC := Lib.hid hpc; clear hpc hl0
              have t2 : decide (orr < 32) = false := decide_eq_false (by omega)
              have t2i : decide ((orr : Int) < (32 : Int)) = false := decide_eq_false (by omega)
              by_cases h128 : 128 ≤ orr
              · have t3 : decide (128 ≤ orr) = true := decide_eq_true (by omega)
                have t3i : decide ((128 : Int) ≤ (orr : Int)) = true := decide_eq_true (by omega)
                have t4 : decide (orr ≤ 159) = false := decide_eq_false (by omega)
                have t4i : decide ((orr : Int) ≤ (159 : Int)) = false := decide_eq_false (by omega)
                clear h128 hhx
                have hcz : (s.extract oa (oa + ol)).size ≤ 4 := by rw [HCUT.out]; exact HGD.out.2.2
                have hi1 : (oa : Int) ≤ (oa : Int) + (ol : Int) := by omega
                have hi2 : (oa : Int) + (ol : Int) ≤ (s.size : Int) := by omega
                go_wp2
                go_roundw
                case rel => exact ⟨k + 1, _, by omega, by go_num, rfl, by rw [HOE.out, HST.out, HPC.out, HCUT.out]; exact cut_more _ _, by rw [ByteArray.size_append]; exact cut_size4 hOs hcz, HOX.out, HBX.out⟩
                case measure => simp [intOf]; omega
              · have t3 : decide (128 ≤ orr) = false := decide_eq_false (by omega)
                have t3i : decide ((128 : Int) ≤ (orr : Int)) = false := decide_eq_false (by omega)
                clear h128 hhx
                have hcz : (s.extract oa (oa + ol)).size ≤ 4 := by rw [HCUT.out]; exact HGD.out.2.2
                have hi1 : (oa : Int) ≤ (oa : Int) + (ol : Int) := by omega
                have hi2 : (oa : Int) + (ol : Int) ≤ (s.size : Int) := by omega
                go_wp2
                go_roundw
                case rel => exact ⟨k + 1, _, by omega, by go_num, rfl, by rw [HOE.out, HST.out, HPC.out, HCUT.out]; exact cut_more _ _, by rw [ByteArray.size_append]; exact cut_size4 hOs hcz, HOX.out, HBX.out⟩
                case measure => simp [intOf]; omega
          · have hpc := piece_letter hl0
            obtain ⟨l, hl⟩ : ∃ l, letterN orr = l := ⟨_, rfl⟩
            rw [hl] at hl0 hpc hll4 ⊢
            have hne : ((l : Int) != 0) = true := by simpa using hl0
            have hcv : ∀ w : World, (convert 21 9 (.int .i32 (l : Int))).run Tryz.prog w = .ok (.string ⟨#[UInt8.ofNat l]⟩) w := fun w => conv_rune ⟨l, hll4⟩ w
            have HPC := Lib.hid hpc; clear hpc hl hl0 hll4
            go_wp2
            go_roundw
            case rel => exact ⟨k + 1, _, by omega, by go_num, rfl, by rw [HOE.out, HST.out, HPC.out]; exact two_more _ _ _, by rw [ByteArray.size_append, ByteArray.size_append]; exact two_size hOs, HOX.out, HBX.out⟩
            case measure => simp [intOf]; omega
        · obtain rfl : k = L.length := by omega
          have hfin : O ++ ⟨#[39]⟩ = Txt.bytes (39 :: (pcs L ++ [39])) := by
            rw [HOE.out, List.take_of_length_le (Nat.le_refl _)]
            apply ByteArray.ext; simp [Txt.bytes]
          have HF := Lib.hid hfin; clear hfin hown
          have hOs2 : O.size ≤ 1531 := by omega
          go_wp2
          go_ret2
          exact ⟨by rw [← HF.out]; rfl, HBE.out⟩
end Go.Proofs.YtejpdfenejbjdaaGreatDoor
