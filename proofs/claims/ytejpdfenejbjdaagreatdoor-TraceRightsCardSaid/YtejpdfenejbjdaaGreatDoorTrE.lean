/- Walks: word.Same; are two events the same. -/
import Derived.Test.YtejpdfenejbjdaaGreatDoorTrB
import Derived.Test.YtejpdfenejbjdaaGreatDoorTermE
namespace Go.Proofs.YtejpdfenejbjdaaGreatDoor
open Go.RowKit Txt
set_option linter.unusedVariables false
set_option linter.unusedSimpArgs false

theorem sameL_len : ∀ {t u : List Cl}, t.length ≠ u.length → sameL t u = false
  | [], [], h => absurd rfl h
  | [], _ :: _, _ => rfl
  | _ :: _, [], _ => rfl
  | c :: t, d :: u, h => by
    have : t.length ≠ u.length := by simpa using h
    rw [sameL, sameL_len this, Bool.and_false]

set_option maxHeartbeats 1000000 in
theorem same42_calls (x y : Value) (t u : List Cl) (w : World) (hx : SeesT w x t) (hy : SeesT w y u) (hlen : u.length ≤ 4398046511104) :
    Calls Tryz.prog 46 #[x, y] w fun e w' => e = .returned (.bool (sameL t u)) ∧ ∃ n, w' = w.drewN n := by
  have HX := Lib.hid hx
  have HY := Lib.hid hy
  obtain ⟨A, ca, rfl, hca, -⟩ := hx
  obtain ⟨B, cb, rfl, hcb, -⟩ := hy
  by_cases hl : t.length = u.length
  · generalize hS : sameL t u = S
    have HS := Lib.hid hS; clear hS
    go_enter Tryz.func46, Tryz.ntmps46
    go_wp2_with fail
    go_loopw [5] (fun i wr => ∃ k : Nat, k ≤ t.length ∧ i = .int .i64 k ∧ sameL (t.drop k) (u.drop k) = S ∧ ∃ n, wr = w.drewN n) (fun i _ => t.length - (intOf i).toNat)
    case atStart => exact ⟨0, Nat.zero_le _, rfl, HS.out, 0, rfl⟩
    case round =>
      obtain ⟨k, hk, rfl, hf, n, rfl⟩ := hrel
      have HF := Lib.hid hf; clear hf
      by_cases hlt : k < t.length
      · have hlu : k < u.length := by omega
        obtain ⟨ad, _, hxe, _, hadl, c0, c1, c2⟩ := HX.out.at k hlt
        obtain rfl : A = some ad := by injection hxe
        obtain ⟨bd, _, hye, _, hbdl, d0, d1, d2⟩ := HY.out.at k hlu
        obtain rfl : B = some bd := by injection hye
        clear hxe hye hadl hbdl
        have hF := HF.out
        rw [List.drop_eq_getElem_cons hlt, List.drop_eq_getElem_cons hlu, sameL] at hF
        generalize t[k] = c at *
        generalize u[k] = d at *
        have e0 : (w.drewN n).cell? (ad.add (k * 3)) = some (.int .i64 c.kind) := c0
        have e1 : (w.drewN n).cell? ⟨(ad.add (k * 3)).block, (ad.add (k * 3)).off + 1, none⟩ = some (.int .i64 c.n) := c1
        have e2 : (w.drewN n).cell? ⟨(ad.add (k * 3)).block, (ad.add (k * 3)).off + 2, none⟩ = some (.string c.text) := c2
        have g0 : (w.drewN n).cell? (bd.add (k * 3)) = some (.int .i64 d.kind) := d0
        have g1 : (w.drewN n).cell? ⟨(bd.add (k * 3)).block, (bd.add (k * 3)).off + 1, none⟩ = some (.int .i64 d.n) := d1
        have g2 : (w.drewN n).cell? ⟨(bd.add (k * 3)).block, (bd.add (k * 3)).off + 2, none⟩ = some (.string d.text) := d2
        clear c0 c1 c2 d0 d1 d2
        generalize hW : w.drewN n = wr at *
        have HW := Lib.hid hW; clear hW
        have HF := Lib.hid hF; clear hF
        have hq : ∀ W, (binOp .neq 74 (.agg #[.int .i64 c.kind, .int .i64 c.n, .string c.text]) (.agg #[.int .i64 d.kind, .int .i64 d.n, .string d.text])).run Tryz.prog W = .ok (.bool (!sameC c d)) W := neq_cell c d
        have hgd : Tryz.prog.eqGuardType Tryz.prog.depth 74 = false := by kernel_rfl
        have HLT := Lib.hid (And.intro hlt (And.intro hl hlu))
        cases hsc : sameC c d with
        | true =>
          have HSC := Lib.hid hsc; clear hsc
          rw [HSC.out] at hq
          go_wp2_with fail
          go_quiet (fail)
          go_wp2
          go_roundw
          case rel => exact ⟨k + 1, by have := HLT.out; omega, by go_num, by have := HF.out; rw [HSC.out, Bool.true_and] at this; exact this, n + nq, by rw [← HW.out, World.drewN_drewN]⟩
          case measure => have := HLT.out; simp [intOf]; omega
        | false =>
          have HSC := Lib.hid hsc; clear hsc
          rw [HSC.out] at hq
          have hF := HF.out
          rw [HSC.out, Bool.false_and] at hF
          subst hF
          go_wp2_with fail
          go_quiet (fail)
          go_wp2
          go_ret
          exact ⟨rfl, n + nq, by rw [← HW.out, World.drewN_drewN]⟩
      · have hF := HF.out
        rw [List.drop_of_length_le (by omega), List.drop_of_length_le (by omega)] at hF
        subst hF
        go_wp2_with fail
        go_ret
        exact ⟨rfl, n, rfl⟩
  · have e : sameL t u = false := by
      clear HX HY hca hcb hlen
      induction t generalizing u with
      | nil => cases u with
        | nil => simp at hl
        | cons d u => rfl
      | cons c t ih => cases u with
        | nil => rfl
        | cons d u => rw [sameL, ih u (by simpa using hl), Bool.and_false]
    rw [e]
    have hne : ((t.length : Int) != (u.length : Int)) = true := by simp; omega
    clear e
    go_enter Tryz.func46, Tryz.ntmps46
    go_wp2
    go_ret
    exact ⟨rfl, 0, rfl⟩
set_option maxHeartbeats 1000000 in
theorem wsame_calls (x y : Value) (t u : List Cl) (w : World) (hx : SeesT w x t) (hy : SeesT w y u) (hlen : u.length ≤ 4398046511104) :
    Calls Tryz.prog 45 #[x, y] w fun e w' => e = .returned (.bool (sameL t u)) ∧ Below w.heap.size w w' := by
  have HX := Lib.hid hx
  have HY := Lib.hid hy
  obtain ⟨A, ca, rfl, hca, -⟩ := hx
  obtain ⟨B, cb, rfl, hcb, -⟩ := hy
  by_cases hl : t.length = u.length
  · generalize hS : sameL t u = S
    have HS := Lib.hid hS; clear hS
    have hne : ((t.length : Int) != (u.length : Int)) = false := by simp [hl]
    go_enter Tryz.func45, Tryz.ntmps45
    go_wp2_with fail
    go_loopw [14] (fun i wr => ∃ k : Nat, k ≤ t.length ∧ i = .int .i64 k ∧ sameL (t.drop k) (u.drop k) = S ∧ Below w.heap.size w wr) (fun i _ => t.length - (intOf i).toNat)
    case atStart => exact ⟨0, Nat.zero_le _, rfl, HS.out, Below.refl _ _⟩
    case round =>
      obtain ⟨k, hk, rfl, hf, hb⟩ := hrel
      have HF := Lib.hid hf; clear hf
      have HB := Lib.hid hb; clear hb
      by_cases hlt : k < t.length
      · have hlu : k < u.length := by omega
        obtain ⟨ad, _, hxe, _, hadl, c0, c1, c2⟩ := (HX.out.below HB.out).at k hlt
        obtain rfl : A = some ad := by injection hxe
        have hF := HF.out
        rw [List.drop_eq_getElem_cons hlt, List.drop_eq_getElem_cons hlu, sameL] at hF
        have HF := Lib.hid hF; clear hF
        have hd := fun W (hb : Below w.heap.size w W) => (HY.out.below hb).at k hlu
        have HD := Lib.hid hd; clear hd
        have HLT := Lib.hid (And.intro hlt (And.intro hl hlu))
        generalize t[k] = c at *
        generalize u[k] = d at *
        have HB2 := Lib.hid (HB.out.alloc HB.out.size (.cells #[.int .i64 c.kind, .int .i64 c.n, .string c.text] 74))
        obtain ⟨bd, _, hye, _, hbdl, d0, d1, d2⟩ := HD.out _ HB2.out
        obtain rfl : B = some bd := by injection hye
        clear hxe hye
        have hq : ∀ W, (binOp .neq 74 (.agg #[.int .i64 c.kind, .int .i64 c.n, .string c.text]) (.agg #[.int .i64 d.kind, .int .i64 d.n, .string d.text])).run Tryz.prog W = .ok (.bool (!sameC c d)) W := neq_cell c d
        have hgd : Tryz.prog.eqGuardType Tryz.prog.depth 74 = false := by kernel_rfl
        go_wp2_with fail
        generalize hW : wr.alloc (.cells #[.int .i64 c.kind, .int .i64 c.n, .string c.text] 74) = w2 at *
        have hbs : wr.heap.size < w2.heap.size := by rw [← hW]; simp
        have k0 : w2.cell? ⟨wr.heap.size, 0, none⟩ = some (.int .i64 c.kind) := by rw [← hW]; simp only [World.cell?, heap_alloc_new]; rfl
        have k1 : w2.cell? ⟨wr.heap.size, 1, none⟩ = some (.int .i64 c.n) := by rw [← hW]; simp only [World.cell?, heap_alloc_new]; rfl
        have k2 : w2.cell? ⟨wr.heap.size, 2, none⟩ = some (.string c.text) := by rw [← hW]; simp only [World.cell?, heap_alloc_new]; rfl
        clear hW c0 c1 c2 hadl
        cases hsc : sameC c d with
        | true =>
          have HSC := Lib.hid hsc; clear hsc
          rw [HSC.out] at hq
          go_quiet (fail)
          go_wp2
          go_roundw
          case rel => exact ⟨k + 1, by have := HLT.out; omega, by go_num, by have := HF.out; rw [HSC.out, Bool.true_and] at this; exact this, below_drewN HB2.out _⟩
          case measure => have := HLT.out; simp [intOf]; omega
        | false =>
          have HSC := Lib.hid hsc; clear hsc
          rw [HSC.out] at hq
          have hF := HF.out
          rw [HSC.out, Bool.false_and] at hF
          subst hF
          go_quiet (fail)
          go_wp2
          go_ret
          exact ⟨rfl, below_drewN HB2.out _⟩
      · have hF := HF.out
        rw [List.drop_of_length_le (by omega), List.drop_of_length_le (by omega)] at hF
        subst hF
        go_wp2_with fail
        go_ret
        exact ⟨rfl, HB.out⟩
  · rw [sameL_len hl]
    have hne : ((t.length : Int) != (u.length : Int)) = true := by simp; omega
    go_enter Tryz.func45, Tryz.ntmps45
    go_wp2_with fail
    go_ret
    exact ⟨rfl, Below.refl _ _⟩
/-- Are two events the same? -/
def evSame (a b : Ev) : Bool := (a.kind == b.kind) && (a.tick == b.tick) && (a.pid == b.pid) && (a.by_ == b.by_) && sameL a.term b.term
set_option maxHeartbeats 2000000 in
theorem tsame_calls (a b : Ev) (x y : Value) (w : World) (hx : SeesT w x a.term) (hy : SeesT w y b.term) (hlen : b.term.length ≤ 4398046511104) :
    Calls Tryz.prog 12 #[evV a x, evV b y] w fun e w' => e = .returned (.bool (evSame a b)) ∧ Below w.heap.size w w' := by
  obtain ⟨ka, ta, pa, ba, t⟩ := a
  obtain ⟨kb, tb, pb, bb, u⟩ := b
  dsimp only at hx hy hlen
  have hb2 : Below w.heap.size w ((w.alloc (.cells #[.int .i64 ka, .int .i64 ta, .int .i64 pa, .int .i64 ba, x] 24)).alloc (.cells #[.int .i64 kb, .int .i64 tb, .int .i64 pb, .int .i64 bb, y] 24)) := ((Below.refl _ _).alloc (Nat.le_refl _) _).alloc (by simp) _
  have HB2 := Lib.hid hb2; clear hb2
  have hc := wsame_calls x y t u _ (hx.below HB2.out) (hy.below HB2.out) hlen
  generalize hs : sameL t u = S at *
  have HC := Lib.hid hc; clear hc
  obtain ⟨XA, xc, rfl, -, -⟩ := hx
  obtain ⟨YA, yc, rfl, -, -⟩ := hy
  generalize hv : evSame ⟨ka, ta, pa, ba, t⟩ ⟨kb, tb, pb, bb, u⟩ = v
  have hv : ((ka == kb) && (ta == tb) && (pa == pb) && (ba == bb) && S) = v := by rw [← hs]; exact hv
  clear hs
  have HV := Lib.hid hv; clear hv
  have hfin : ∀ v' W, v = v' → Below w.heap.size w W → (Ending.returned (Value.bool v') = .returned (.bool v)) ∧ Below w.heap.size w W := fun v' W h hb => ⟨by rw [h], hb⟩
  have HFIN := Lib.hid hfin; clear hfin
  unfold evV
  dsimp only
  cases e0 : (ka == kb) with
  | false =>
    have hv : v = false := by rw [← HV.out]; simp [e0]
    subst hv
    go_enter Tryz.func12, Tryz.ntmps12
    go_wp2_with fail
    go_ret
    exact HFIN.out _ _ rfl HB2.out
  | true =>
  cases e1 : (ta == tb) with
  | false =>
    have hv : v = false := by rw [← HV.out]; simp [e1]
    subst hv
    go_enter Tryz.func12, Tryz.ntmps12
    go_wp2_with fail
    go_ret
    exact HFIN.out _ _ rfl HB2.out
  | true =>
  cases e2 : (pa == pb) with
  | false =>
    have hv : v = false := by rw [← HV.out]; simp [e2]
    subst hv
    go_enter Tryz.func12, Tryz.ntmps12
    go_wp2_with fail
    go_ret
    exact HFIN.out _ _ rfl HB2.out
  | true =>
  cases e3 : (ba == bb) with
  | false =>
    have hv : v = false := by rw [← HV.out]; simp [e3]
    subst hv
    go_enter Tryz.func12, Tryz.ntmps12
    go_wp2_with fail
    go_ret
    exact HFIN.out _ _ rfl HB2.out
  | true =>
  have hv : v = S := by rw [← HV.out]; simp [e0, e1, e2, e3]
  subst hv
  go_enter Tryz.func12, Tryz.ntmps12
  go_wp2_with fail
  refine (HC.out).mono ?_
  rintro e w' ⟨rfl, hb⟩
  go_wp2
  go_ret
  exact HFIN.out _ _ rfl (HB2.out.trans (hb.mono HB2.out.size))
set_option maxHeartbeats 2000000 in
theorem rsame_calls (a b : Ev) (x y : Value) (w : World) (hx : SeesT w x a.term) (hy : SeesT w y b.term) (hlen : b.term.length ≤ 4398046511104) :
    Calls Tryz.prog 13 #[evV a x, evV b y] w fun e w' => e = .returned (.bool (evSame a b)) ∧ Below w.heap.size w w' := by
  obtain ⟨ka, ta, pa, ba, t⟩ := a
  obtain ⟨kb, tb, pb, bb, u⟩ := b
  dsimp only at hx hy hlen
  have hb2 : Below w.heap.size w ((w.alloc (.cells #[.int .i64 ka, .int .i64 ta, .int .i64 pa, .int .i64 ba, x] 24)).alloc (.cells #[.int .i64 kb, .int .i64 tb, .int .i64 pb, .int .i64 bb, y] 24)) := ((Below.refl _ _).alloc (Nat.le_refl _) _).alloc (by simp) _
  have HB2 := Lib.hid hb2; clear hb2
  have hc := same42_calls x y t u _ (hx.below HB2.out) (hy.below HB2.out) hlen
  generalize hs : sameL t u = S at *
  have HC := Lib.hid hc; clear hc
  obtain ⟨XA, xc, rfl, -, -⟩ := hx
  obtain ⟨YA, yc, rfl, -, -⟩ := hy
  generalize hv : evSame ⟨ka, ta, pa, ba, t⟩ ⟨kb, tb, pb, bb, u⟩ = v
  have hv : ((ka == kb) && (ta == tb) && (pa == pb) && (ba == bb) && S) = v := by rw [← hs]; exact hv
  clear hs
  have HV := Lib.hid hv; clear hv
  have hfin : ∀ v' W, v = v' → Below w.heap.size w W → (Ending.returned (Value.bool v') = .returned (.bool v)) ∧ Below w.heap.size w W := fun v' W h hb => ⟨by rw [h], hb⟩
  have HFIN := Lib.hid hfin; clear hfin
  unfold evV
  dsimp only
  cases e0 : (ka == kb) with
  | false =>
    have hv : v = false := by rw [← HV.out]; simp [e0]
    subst hv
    go_enter Tryz.func13, Tryz.ntmps13
    go_wp2_with fail
    go_ret
    exact HFIN.out _ _ rfl HB2.out
  | true =>
  cases e1 : (ta == tb) with
  | false =>
    have hv : v = false := by rw [← HV.out]; simp [e1]
    subst hv
    go_enter Tryz.func13, Tryz.ntmps13
    go_wp2_with fail
    go_ret
    exact HFIN.out _ _ rfl HB2.out
  | true =>
  cases e2 : (pa == pb) with
  | false =>
    have hv : v = false := by rw [← HV.out]; simp [e2]
    subst hv
    go_enter Tryz.func13, Tryz.ntmps13
    go_wp2_with fail
    go_ret
    exact HFIN.out _ _ rfl HB2.out
  | true =>
  cases e3 : (ba == bb) with
  | false =>
    have hv : v = false := by rw [← HV.out]; simp [e3]
    subst hv
    go_enter Tryz.func13, Tryz.ntmps13
    go_wp2_with fail
    go_ret
    exact HFIN.out _ _ rfl HB2.out
  | true =>
  have hv : v = S := by rw [← HV.out]; simp [e0, e1, e2, e3]
  subst hv
  go_enter Tryz.func13, Tryz.ntmps13
  go_wp2_with fail
  refine (HC.out).mono ?_
  rintro e w' ⟨rfl, n, rfl⟩
  go_wp2
  go_ret
  exact HFIN.out _ _ rfl (below_drewN HB2.out _)
end Go.Proofs.YtejpdfenejbjdaaGreatDoor
