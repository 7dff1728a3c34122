/- Walks: the laws' own small functions. -/
import Derived.Test.YtebdikbngnolbaaDoorParse2
import Derived.Shelf.SlicesE.Kit
namespace Go.Proofs.YtebdikbngnolbaaDoor
open Go.RowKit Txt
set_option linter.unusedVariables false
set_option linter.unusedSimpArgs false

def cnt9 (n : Int) : Nat := (if n.tmod 9 < 0 then n.tmod 9 + 9 else n.tmod 9).toNat
theorem cnt9_lt (n : Int) : cnt9 n < 9 := by
  have h1 : n.tmod 9 < 9 := Int.tmod_lt_of_pos _ (by omega)
  unfold cnt9; split <;> omega

theorem count_calls (n : Int) (w : World) (h1 : -9223372036854775808 ≤ n) (h2 : n ≤ 9223372036854775807) :
    Calls Tryd.prog 5 #[.int .i64 n, .int .i64 9] w fun e w' => e = .returned (.int .i64 (cnt9 n : Int)) ∧ w' = w := by
  have hlt : n.tmod 9 < 9 := Int.tmod_lt_of_pos _ (by omega)
  have hgt : -9 < n.tmod 9 := by
    rcases Int.le_total 0 n with h | h
    · have := Int.tmod_nonneg 9 h; omega
    · have h3 : n.tmod 9 = -((-n).tmod 9) := by rw [Int.neg_tmod]; omega
      have := Int.tmod_lt_of_pos (-n) (b := 9) (by omega)
      omega
  have hw : IntKind.i64.wrap (n.tmod 9) = n.tmod 9 := IntWalk.i64_in _ (by omega)
  by_cases hn : n.tmod 9 < 0
  · have e : (cnt9 n : Int) = n.tmod 9 + 9 := by unfold cnt9; rw [if_pos hn]; omega
    rw [e]
    have hw2 : IntKind.i64.wrap (n.tmod 9 + 9) = n.tmod 9 + 9 := IntWalk.i64_in _ (by omega)
    go_enter Tryd.func5, Tryd.ntmps5
    go_wp2
    go_ret
    exact ⟨rfl, rfl⟩
  · have e : (cnt9 n : Int) = n.tmod 9 := by unfold cnt9; rw [if_neg hn]; omega
    rw [e]
    go_enter Tryd.func5, Tryd.ntmps5
    go_wp2
    go_ret
    exact ⟨rfl, rfl⟩

/-- Are two lists of cells alike? -/
def sameC (c d : Cl) : Bool := decide (c.kind = d.kind) && decide (c.n = d.n) && decide (c.text.toList = d.text.toList)
def sameL : List Cl → List Cl → Bool
  | [], [] => true
  | c :: t, d :: u => sameC c d && sameL t u
  | _, _ => false

theorem neq_cell (c d : Cl) (W : World) : (binOp .neq 52 (.agg #[.int .i64 c.kind, .int .i64 c.n, .string c.text]) (.agg #[.int .i64 d.kind, .int .i64 d.n, .string d.text])).run Tryd.prog W = .ok (.bool (!sameC c d)) W := by
  have hS : Tryd.prog.underlying 52 = some (.struct (Tryd.prog.fieldsOf 52)) := by kernel_rfl
  have hp : Tryd.prog.stoodInHeld 52 = false := by kernel_rfl
  rw [run_neq_struct, show (10000 : Nat) = 9999 + 1 from rfl, run_equalIn_agg W 9999 52 _ _ hS hp]
  simp only [Program.fieldsOf, Tryd.underlying52]
  go_simp
  by_cases h1 : c.kind = d.kind <;> by_cases h2 : c.n = d.n <;> by_cases h3 : c.text.toList = d.text.toList <;> simp [h1, h2, h3, sameC]

set_option maxHeartbeats 1000000 in
theorem same_calls (x y : Value) (t u : List Cl) (w : World) (hx : SeesT w x t) (hy : SeesT w y u) (hlen : u.length ≤ 1099511627776) :
    Calls Tryd.prog 8 #[x, y] w fun e w' => e = .returned (.bool (sameL t u)) ∧ ∃ n, w' = w.drewN n := by
  have HX := Lib.hid hx
  have HY := Lib.hid hy
  obtain ⟨A, ca, rfl, hca, -⟩ := hx
  obtain ⟨B, cb, rfl, hcb, -⟩ := hy
  by_cases hl : t.length = u.length
  · generalize hS : sameL t u = S
    have HS := Lib.hid hS; clear hS
    go_enter Tryd.func8, Tryd.ntmps8
    go_wp2_with fail
    go_loopw [5] (fun i wr => ∃ k : Nat, k ≤ t.length ∧ i = .int .i64 k ∧ sameL (t.drop k) (u.drop k) = S ∧ ∃ n, wr = w.drewN n) (fun i _ => t.length - (intOf i).toNat)
    case atStart => exact ⟨0, Nat.zero_le _, rfl, HS.out, 0, rfl⟩
    case round =>
      obtain ⟨k, hk, rfl, hf, n, rfl⟩ := hrel
      have HF := Lib.hid hf; clear hf
      by_cases hlt : k < t.length
      · have hlu : k < u.length := by omega
        obtain ⟨ad, _, hxe, _, hadl, c0, c1, c2⟩ := HX.out.at k hlt
        obtain rfl : A = some ad := by injection hxe
        obtain ⟨bd, _, hye, _, hbdl, d0, d1, d2⟩ := HY.out.at k hlu
        obtain rfl : B = some bd := by injection hye
        clear hxe hye hadl hbdl
        have hF := HF.out
        rw [List.drop_eq_getElem_cons hlt, List.drop_eq_getElem_cons hlu, sameL] at hF
        generalize t[k] = c at *
        generalize u[k] = d at *
        have e0 : (w.drewN n).cell? (ad.add (k * 3)) = some (.int .i64 c.kind) := c0
        have e1 : (w.drewN n).cell? ⟨(ad.add (k * 3)).block, (ad.add (k * 3)).off + 1, none⟩ = some (.int .i64 c.n) := c1
        have e2 : (w.drewN n).cell? ⟨(ad.add (k * 3)).block, (ad.add (k * 3)).off + 2, none⟩ = some (.string c.text) := c2
        have g0 : (w.drewN n).cell? (bd.add (k * 3)) = some (.int .i64 d.kind) := d0
        have g1 : (w.drewN n).cell? ⟨(bd.add (k * 3)).block, (bd.add (k * 3)).off + 1, none⟩ = some (.int .i64 d.n) := d1
        have g2 : (w.drewN n).cell? ⟨(bd.add (k * 3)).block, (bd.add (k * 3)).off + 2, none⟩ = some (.string d.text) := d2
        clear c0 c1 c2 d0 d1 d2
        generalize hW : w.drewN n = wr at *
        have HW := Lib.hid hW; clear hW
        have HF := Lib.hid hF; clear hF
        have hq : ∀ W, (binOp .neq 52 (.agg #[.int .i64 c.kind, .int .i64 c.n, .string c.text]) (.agg #[.int .i64 d.kind, .int .i64 d.n, .string d.text])).run Tryd.prog W = .ok (.bool (!sameC c d)) W := neq_cell c d
        have hgd : Tryd.prog.eqGuardType Tryd.prog.depth 52 = false := by kernel_rfl
        have HLT := Lib.hid (And.intro hlt (And.intro hl hlu))
        cases hsc : sameC c d with
        | true =>
          have HSC := Lib.hid hsc; clear hsc
          rw [HSC.out] at hq
          go_wp2_with fail
          go_quiet (fail)
          go_wp2
          go_roundw
          case rel => exact ⟨k + 1, by have := HLT.out; omega, by go_num, by have := HF.out; rw [HSC.out, Bool.true_and] at this; exact this, n + nq, by rw [← HW.out, World.drewN_drewN]⟩
          case measure => have := HLT.out; simp [intOf]; omega
        | false =>
          have HSC := Lib.hid hsc; clear hsc
          rw [HSC.out] at hq
          have hF := HF.out
          rw [HSC.out, Bool.false_and] at hF
          subst hF
          go_wp2_with fail
          go_quiet (fail)
          go_wp2
          go_ret
          exact ⟨rfl, n + nq, by rw [← HW.out, World.drewN_drewN]⟩
      · have hF := HF.out
        rw [List.drop_of_length_le (by omega), List.drop_of_length_le (by omega)] at hF
        subst hF
        go_wp2_with fail
        go_ret
        exact ⟨rfl, n, rfl⟩
  · have e : sameL t u = false := by
      clear HX HY hca hcb hlen
      induction t generalizing u with
      | nil => cases u with
        | nil => simp at hl
        | cons d u => rfl
      | cons c t ih => cases u with
        | nil => rfl
        | cons d u => rw [sameL, ih u (by simpa using hl), Bool.and_false]
    rw [e]
    have hne : ((t.length : Int) != (u.length : Int)) = true := by simp; omega
    clear e
    go_enter Tryd.func8, Tryd.ntmps8
    go_wp2
    go_ret
    exact ⟨rfl, 0, rfl⟩
end Go.Proofs.YtebdikbngnolbaaDoor
