/- Walks: word.Same; are two events the same. -/
import Derived.Test.YtejpdfenejbjdaaGreatDoorTrB
import Derived.Test.YtejpdfenejbjdaaGreatDoorTermE
namespace Go.Proofs.YtejpdfenejbjdaaGreatDoor
open Go.RowKit Txt
set_option linter.unusedVariables false
set_option linter.unusedSimpArgs false

theorem sameL_len : ∀ {t u : List Cl}, t.length ≠ u.length → sameL t u = false
  | [], [], h => absurd rfl h
  | [], _ :: _, _ => rfl
  | _ :: _, [], _ => rfl
  | c :: t, d :: u, h => by
    have : t.length ≠ u.length := by simpa using h
    rw [sameL, sameL_len this, Bool.and_false]

set_option maxHeartbeats 1000000 in
theorem same42_calls (x y : Value) (t u : List Cl) (w : World) (hx : SeesT w x t) (hy : SeesT w y u) (hlen : u.length ≤ 4398046511104) :
    Calls Tryz.prog 46 #[x, y] w fun e w' => e = .returned (.bool (sameL t u)) ∧ ∃ n, w' = w.drewN n := by
  have HX := Lib.hid hx
  have HY := Lib.hid hy
  obtain ⟨A, ca, rfl, hca, -⟩ := hx
  obtain ⟨B, cb, rfl, hcb, -⟩ := hy
  by_cases hl : t.length = u.length
  · generalize hS : sameL t u = S
    have HS := Lib.hid hS; clear hS
    go_enter Tryz.func46, Tryz.ntmps46
    go_wp2_with fail
    go_loopw [5] (fun i wr => ∃ k : Nat, k ≤ t.length ∧ i = .int .i64 k ∧ sameL (t.drop k) (u.drop k) = S ∧ ∃ n, wr = w.drewN n) (fun i _ => t.length - (intOf i).toNat)
    case atStart => exact ⟨0, Nat.zero_le _, rfl, HS.out, 0, rfl⟩
    case round =>
      obtain ⟨k, hk, rfl, hf, n, rfl⟩ := hrel
      have HF := Lib.hid hf; clear hf
      by_cases hlt : k < t.length
      · have hlu : k < u.length := by omega
        obtain ⟨ad, _, hxe, _, hadl, c0, c1, c2⟩ := HX.out.at k hlt
        obtain rfl : A = some ad := by injection hxe
        obtain ⟨bd, _, hye, _, hbdl, d0, d1, d2⟩ := HY.out.at k hlu
        obtain rfl : B = some bd := by injection hye
        clear hxe hye hadl hbdl
        have hF := HF.out
        rw [List.drop_eq_getElem_cons hlt, List.drop_eq_getElem_cons hlu, sameL] at hF
        generalize t[k] = c at *
        generalize u[k] = d at *
        have e0 : (w.drewN n).cell? (ad.add (k * 3)) = some (.int .i64 c.kind) := c0
        have e1 : (w.drewN n).cell? ⟨(ad.add (k * 3)).block, (ad.add (k * 3)).off + 1, none⟩ = some (.int .i64 c.n) := c1
        have e2 : (w.drewN n).cell? ⟨(ad.add (k * 3)).block, (ad.add (k * 3)).off + 2, none⟩ = some (.string c.text) := c2
        have g0 : (w.drewN n).cell? (bd.add (k * 3)) = some (.int .i64 d.kind) := d0
        have g1 : (w.drewN n).cell? ⟨(bd.add (k * 3)).block, (bd.add (k * 3)).off + 1, none⟩ = some (.int .i64 d.n) := d1
        have g2 : (w.drewN n).cell? ⟨(bd.add (k * 3)).block, (bd.add (k * 3)).off + 2, none⟩ = some (.string d.text) := d2
        clear c0 c1 c2 d0 d1 d2
        generalize hW : w.drewN n = wr at *
        have HW := Lib.hid hW; clear hW
        have HF := Lib.hid hF; clear hF
        have hq : ∀ W, (binOp .neq 74 (.agg #[.int .i64 c.kind, .int .i64 c.n, .string c.text]) (.agg #[.int .i64 d.kind, .int .i64 d.n, .string d.text])).run Tryz.prog W = .ok (.bool (!sameC c d)) W := neq_cell c d
        have hgd : Tryz.prog.eqGuardType Tryz.prog.depth 74 = false := by kernel_rfl
        have HLT := Lib.hid (And.intro hlt (And.intro hl hlu))
        cases hsc : sameC c d with
        | true =>
          have HSC := Lib.hid hsc; clear hsc
          rw [HSC.out] at hq
          go_wp2_with fail
          go_quiet (fail)
          go_wp2
          go_roundw
          case rel => exact ⟨k + 1, by have := HLT.out; omega, by go_num, by have := HF.out; rw [HSC.out, Bool.true_and] at this; exact this, n + nq, by rw [← HW.out, World.drewN_drewN]⟩
          case measure => have := HLT.out; simp [intOf]; omega
        | false =>
          have HSC := Lib.hid hsc; clear hsc
          rw [HSC.out] at hq
          have hF := HF.out
          rw [HSC.out, Bool.false_and] at hF
          subst hF
          go_wp2_with fail
          go_quiet (fail)
          go_wp2
          go_ret
          exact ⟨rfl, n + nq, by rw [← HW.out, World.drewN_drewN]⟩
      · have hF := HF.out
        rw [List.drop_of_length_le (by omega), List.drop_of_length_le (by omega)] at hF
        subst hF
        go_wp2_with fail
        go_ret
        exact ⟨rfl, n, rfl⟩
  · have e : sameL t u = false := by
      clear HX HY hca hcb hlen
      induction t generalizing u with
      | nil => cases u with
        | nil => simp at hl
        | cons d u => rfl
      | cons c t ih => cases u with
        | nil => rfl
        | cons d u => rw [sameL, ih u (by simpa using hl), Bool.and_false]
    rw [e]
    have hne : ((t.length : Int) != (u.length : Int)) = true := by simp; omega
    clear e
    go_enter Tryz.func46, Tryz.ntmps46
    go_wp2
    go_ret
    exact ⟨rfl, 0, rfl⟩
set_option maxHeartbeats 1000000 in
theorem wsame_calls (x y : Value) (t u : List Cl) (w : World) (hx : SeesT w x t) (hy : SeesT w y u) (hlen : u.length ≤ 4398046511104) :
    Calls Tryz.prog 45 #[x, y] w fun e w' => e = .returned (.bool (sameL t u)) ∧ Below w.heap.size w w' := by
  have HX := Lib.hid hx
  have HY := Lib.hid hy
  obtain ⟨A, ca, rfl, hca, -⟩ := hx
  obtain ⟨B, cb, rfl, hcb, -⟩ := hy
  by_cases hl : t.length = u.length
  · generalize hS : sameL t u = S
    have HS := Lib.hid hS; clear hS
    have hne : ((t.length : Int) != (u.length : Int)) = false := by simp [hl]
    go_enter Tryz.func45, Tryz.ntmps45
    go_wp2_with fail
    go_loopw [14] (fun i wr => ∃ k : Nat, k ≤ t.length ∧ i = .int .i64 k ∧ sameL (t.drop k) (u.drop k) = S ∧ Below w.heap.size w wr) (fun i _ => t.length - (intOf i).toNat)
    case atStart => exact ⟨0, Nat.zero_le _, rfl, HS.out, Below.refl _ _⟩
    case round =>
      obtain ⟨k, hk, rfl, hf, hb⟩ := hrel
      have HF := Lib.hid hf; clear hf
      have HB := Lib.hid hb; clear hb
      by_cases hlt : k < t.length
      · have hlu : k < u.length := by omega
        obtain ⟨ad, _, hxe, _, hadl, c0, c1, c2⟩ := (HX.out.below HB.out).at k hlt
        obtain rfl : A = some ad := by injection hxe
        have hF := HF.out
        rw [List.drop_eq_getElem_cons hlt, List.drop_eq_getElem_cons hlu, sameL] at hF
        have HF := Lib.hid hF; clear hF
        have hd := fun W (hb : Below w.heap.size w W) => (HY.out.below hb).at k hlu
        have HD := Lib.hid hd; clear hd
        have HLT := Lib.hid (And.intro hlt (And.intro hl hlu))
        generalize t[k] = c at *
        generalize u[k] = d at *
        have HB2 := Lib.hid (HB.out.alloc HB.out.size (.cells #[.int .i64 c.kind, .int .i64 c.n, .string c.text] 74))
        obtain ⟨bd, _, hye, _, hbdl, d0, d1, d2⟩ := HD.out _ HB2.out
        obtain rfl : B = some bd := by injection hye
        clear hxe hye
        have hq : ∀ W, (binOp .neq 74 (.agg #[.int .i64 c.kind, .int .i64 c.n, .string c.text]) (.agg #[.int .i64 d.kind, .int .i64 d.n, .string d.text])).run Tryz.prog W = .ok (.bool (!sameC c d)) W := neq_cell c d
        have hgd : Tryz.prog.eqGuardType Tryz.prog.depth 74 = false := by kernel_rfl
        go_wp2_with fail
        generalize hW : wr.alloc (.cells #[.int .i64 c.kind, .int .i64 c.n, .string c.text] 74) = w2 at *
        have hbs : wr.heap.size < w2.heap.size := by rw [← hW]; simp
        have k0 : w2.cell? ⟨wr.heap.size, 0, none⟩ = some (.int .i64 c.kind) := by rw [← hW]; simp only [World.cell?, heap_alloc_new]; rfl
        have k1 : w2.cell? ⟨wr.heap.size, 1, none⟩ = some (.int .i64 c.n) := by rw [← hW]; simp only [World.cell?, heap_alloc_new]; rfl
        have k2 : w2.cell? ⟨wr.heap.size, 2, none⟩ = some (.string c.text) := by rw [← hW]; simp only [World.cell?, heap_alloc_new]; rfl
        clear hW c0 c1 c2 hadl
        cases hsc : sameC c d with
        | true =>
          have HSC := Lib.hid hsc; clear hsc
          rw [HSC.out] at hq
          go_quiet (fail)
          go_wp2
          go_roundw
          case rel => exact ⟨k + 1, by have := HLT.out; omega, by go_num, by have := HF.out; rw [HSC.out, Bool.true_and] at this; exact this, below_drewN HB2.out _⟩
          case measure => have := HLT.out; simp [intOf]; omega
        | false =>
          have HSC := Lib.hid hsc; clear hsc
          rw [HSC.out] at hq
          have hF := HF.out
          rw [HSC.out, Bool.false_and] at hF
          subst hF
          go_quiet (fail)
          go_wp2
          go_ret
          exact ⟨rfl, below_drewN HB2.out _⟩
      · have hF := HF.out
        rw [List.drop_of_length_le (by omega), List.drop_of_length_le (by omega)] at hF
        subst hF
        go_wp2_with fail
        go_ret
        exact ⟨rfl, HB.out⟩
  · rw [sameL_len hl]
    have hne : ((t.length : Int) != (u.length : Int)) = true := by simp; omega
    go_enter Tryz.func45, Tryz.ntmps45
    go_wp2_with fail
    go_ret
    exact ⟨rfl, Below.refl _ _⟩
/-- Are two events the same? -/
def evSame (a b : Ev) : Bool := (a.kind == b.kind) && (a.tick == b.tick) && (a.pid == b.pid) && (a.by_ == b.by_) && sameL a.term b.term
set_option maxHeartbeats 2000000 in
theorem tsame_calls (a b : Ev) (x y : Value) (w : World) (hx : SeesT w x a.term) (hy : SeesT w y b.term) (hlen : b.term.length ≤ 4398046511104) :
    Calls Tryz.prog 12 #[evV a x, evV b y] w fun e w' => e = .returned (.bool (evSame a b)) ∧ Below w.heap.size w w' := by
  obtain ⟨ka, ta, pa, ba, t⟩ := a
  obtain ⟨kb, tb, pb, bb, u⟩ := b
  dsimp only at hx hy hlen
  have hb2 : Below w.heap.size w ((w.alloc (.cells #[.int .i64 ka, .int .i64 ta, .int .i64 pa, .int .i64 ba, x] 24)).alloc (.cells #[.int .i64 kb, .int .i64 tb, .int .i64 pb, .int .i64 bb, y] 24)) := ((Below.refl _ _).alloc (Nat.le_refl _) _).alloc (by simp) _
  have HB2 := Lib.hid hb2; clear hb2
  have hc := wsame_calls x y t u _ (hx.below HB2.out) (hy.below HB2.out) hlen
  generalize hs : sameL t u = S at *
  have HC := Lib.hid hc; clear hc
  obtain ⟨XA, xc, rfl, -, -⟩ := hx
  obtain ⟨YA, yc, rfl, -, -⟩ := hy
  generalize hv : evSame ⟨ka, ta, pa, ba, t⟩ ⟨kb, tb, pb, bb, u⟩ = v
  have hv : ((ka == kb) && (ta == tb) && (pa == pb) && (ba == bb) && S) = v := by rw [← hs]; exact hv
  clear hs
  have HV := Lib.hid hv; clear hv
  have hfin : ∀ v' W, v = v' → Below w.heap.size w W → (Ending.returned (Value.bool v') = .returned (.bool v)) ∧ Below w.heap.size w W := fun v' W h hb => ⟨by rw [h], hb⟩
  have HFIN := Lib.hid hfin; clear hfin
  unfold evV
  dsimp only
  cases e0 : (ka == kb) with
  | false =>
    have hv : v = false := by rw [← HV.out]; simp [e0]
    subst hv
    go_enter Tryz.func12, Tryz.ntmps12
    go_wp2_with fail
    go_ret
    exact HFIN.out _ _ rfl HB2.out
  | true =>
  cases e1 : (ta == tb) with
  | false =>
    have hv : v = false := by rw [← HV.out]; simp [e1]
    subst hv
    go_enter Tryz.func12, Tryz.ntmps12
    go_wp2_with fail
    go_ret
    exact HFIN.out _ _ rfl HB2.out
  | true =>
  cases e2 : (pa == pb) with
  | false =>
    have hv : v = false := by rw [← HV.out]; simp [e2]
    subst hv
    go_enter Tryz.func12, Tryz.ntmps12
    go_wp2_with fail
    go_ret
    exact HFIN.out _ _ rfl HB2.out
  | true =>
  cases e3 : (ba == bb) with
  | false =>
    have hv : v = false := by rw [← HV.out]; simp [e3]
    subst hv
    go_enter Tryz.func12, Tryz.ntmps12
    go_wp2_with fail
    go_ret
    exact HFIN.out _ _ rfl HB2.out
  | true =>
  have hv : v = S := by rw [← HV.out]; simp [e0, e1, e2, e3]
  subst hv
  go_enter Tryz.func12, Tryz.ntmps12
  go_wp2_with fail
  refine (HC.out).mono ?_
  rintro e w' ⟨rfl, hb⟩
  go_wp2
  go_ret
  exact HFIN.out _ _ rfl (HB2.out.trans (hb.mono HB2.out.size))
set_option maxHeartbeats 2000000 in
theorem rsame_calls (a b : Ev) (x y : Value) (w : World) (hx : SeesT w x a.term) (hy : SeesT w y b.term) (hlen : b.term.length ≤ 4398046511104) :
    Calls Tryz.prog 13 #[evV a x, evV b y] w fun e w' => e = .returned (.bool (evSame a b)) ∧ Below w.heap.size w w' := by
  obtain ⟨ka, ta, pa, ba, t⟩ := a
  obtain ⟨kb, tb, pb, bb, u⟩ := b
  dsimp only at hx hy hlen
  have hb2 : Below w.heap.size w ((w.alloc (.cells #[.int .i64 ka, .int .i64 ta, .int .i64 pa, .int .i64 ba, x] 24)).alloc (.cells #[.int .i64 kb, .int .i64 tb, .int .i64 pb, .int .i64 bb, y] 24)) := ((Below.refl _ _).alloc (Nat.le_refl _) _).alloc (by simp) _
  have HB2 := Lib.hid hb2; clear hb2
  have hc := same42_calls x y t u _ (hx.below HB2.out) (hy.below HB2.out) hlen
  generalize hs : sameL t u = S at *
  have HC := Lib.hid hc; clear hc
  obtain ⟨XA, xc, rfl, -, -⟩ := hx
  obtain ⟨YA, yc, rfl, -, -⟩ := hy
  generalize hv : evSame ⟨ka, ta, pa, ba, t⟩ ⟨kb, tb, pb, bb, u⟩ = v
  have hv : ((ka == kb) && (ta == tb) && (pa == pb) && (ba == bb) && S) = v := by rw [← hs]; exact hv
  clear hs
  have HV := Lib.hid hv; clear hv
  have hfin : ∀ v' W, v = v' → Below w.heap.size w W → (Ending.returned (Value.bool v') = .returned (.bool v)) ∧ Below w.heap.size w W := fun v' W h hb => ⟨by rw [h], hb⟩
  have HFIN := Lib.hid hfin; clear hfin
  unfold evV
  dsimp only
  cases e0 : (ka == kb) with
  | false =>
    have hv : v = false := by rw [← HV.out]; simp [e0]
    subst hv
    go_enter Tryz.func13, Tryz.ntmps13
    go_wp2_with fail
    go_ret
    exact HFIN.out _ _ rfl HB2.out
  | true =>
  cases e1 : (ta == tb) with
  | false =>
    have hv : v = false := by rw [← HV.out]; simp [e1]
    subst hv
    go_enter Tryz.func13, Tryz.ntmps13
    go_wp2_with fail
    go_ret
    exact HFIN.out _ _ rfl HB2.out
  | true =>
  cases e2 : (pa == pb) with
  | false =>
    have hv : v = false := by rw [← HV.out]; simp [e2]
    subst hv
    go_enter Tryz.func13, Tryz.ntmps13
    go_wp2_with fail
    go_ret
    exact HFIN.out _ _ rfl HB2.out
  | true =>
  cases e3 : (ba == bb) with
  | false =>
    have hv : v = false := by rw [← HV.out]; simp [e3]
    subst hv
    go_enter Tryz.func13, Tryz.ntmps13
    go_wp2_with fail
    go_ret
    exact HFIN.out _ _ rfl HB2.out
  | true =>
  have hv : v = S := by rw [← HV.out]; simp [e0, e1, e2, e3]
  subst hv
  go_enter Tryz.func13, Tryz.ntmps13
  go_wp2_with fail
  refine (HC.out).mono ?_
  rintro e w' ⟨rfl, n, rfl⟩
  go_wp2
  go_ret
  exact HFIN.out _ _ rfl (below_drewN HB2.out _)
end Go.Proofs.YtejpdfenejbjdaaGreatDoor

namespace Go.Proofs.YtejpdfenejbjdaaGreatDoor
open Go.RowKit Txt
set_option linter.unusedVariables false
set_option linter.unusedSimpArgs false

def ec (e : Ev) (x : Value) : List Value := [.int .i64 e.kind, .int .i64 e.tick, .int .i64 e.pid, .int .i64 e.by_, x]
def ecs (ps : List (Ev × Value)) : List Value := ps.flatMap fun p => ec p.1 p.2
theorem ecs_append (t u : List (Ev × Value)) : ecs (t ++ u) = ecs t ++ ecs u := by simp [ecs]
theorem ecs_length (t : List (Ev × Value)) : (ecs t).length = t.length * 5 := by
  induction t with
  | nil => rfl
  | cons c t ih => simp only [ecs, List.flatMap_cons, List.length_append, List.length_cons] at *; rw [ih]; simp [ec]; omega
theorem ecs_at (t : List (Ev × Value)) : ∀ (i j : Nat) (h : i < t.length), j < 5 → (ecs t)[i * 5 + j]? = (ec t[i].1 t[i].2)[j]? := by
  induction t with
  | nil => intro i j h; simp at h
  | cons c t ih =>
    intro i j h hj
    have e : ecs (c :: t) = ec c.1 c.2 ++ ecs t := by simp [ecs]
    rw [e]
    cases i with
    | zero =>
      rw [List.getElem?_append_left (by simp [ec]; omega)]
      simp
    | succ i =>
      rw [List.getElem?_append_right (by simp [ec]; omega)]
      have : (i + 1) * 5 + j - (ec c.1 c.2).length = i * 5 + j := by simp [ec]; omega
      rw [this, ih i j (by simpa using h) hj]
      simp
/-- A slice of events is read. -/
def SeesE (w : World) (x : Value) (ps : List (Ev × Value)) : Prop :=
  ∃ A cap, x = .slice A ps.length cap ∧ ps.length ≤ cap ∧ (ps ≠ [] → ∃ ad, A = some ad ∧ ∀ j u, (ecs ps)[j]? = some u → w.cell? (ad.add j) = some u)
theorem SeesE.at {w : World} {x : Value} {t : List (Ev × Value)} (h : SeesE w x t) (i : Nat) (hi : i < t.length) :
    ∃ ad cap, x = .slice (some ad) t.length cap ∧ t.length ≤ cap ∧ ad.block < w.heap.size ∧ w.cell? (ad.add (i * 5)) = some (.int .i64 t[i].1.kind) ∧ w.cell? ⟨(ad.add (i * 5)).block, (ad.add (i * 5)).off + 1, none⟩ = some (.int .i64 t[i].1.tick) ∧
      w.cell? ⟨(ad.add (i * 5)).block, (ad.add (i * 5)).off + 2, none⟩ = some (.int .i64 t[i].1.pid) ∧ w.cell? ⟨(ad.add (i * 5)).block, (ad.add (i * 5)).off + 3, none⟩ = some (.int .i64 t[i].1.by_) ∧
      w.cell? ⟨(ad.add (i * 5)).block, (ad.add (i * 5)).off + 4, none⟩ = some t[i].2 := by
  obtain ⟨A, cap, rfl, hcap, hA⟩ := h
  obtain ⟨ad, rfl, hc⟩ := hA (by intro e; subst e; simp at hi)
  have h0 := hc (i * 5) _ ((ecs_at t i 0 hi (by omega)).trans rfl)
  refine ⟨ad, cap, rfl, hcap, ?_, h0, ?_, ?_, ?_, ?_⟩
  · have := cell_lt h0; rwa [add_block] at this
  · rw [← add_at _ _ 1 (by omega)]; exact hc _ _ ((ecs_at t i 1 hi (by omega)).trans rfl)
  · rw [← add_at _ _ 2 (by omega)]; exact hc _ _ ((ecs_at t i 2 hi (by omega)).trans rfl)
  · rw [← add_at _ _ 3 (by omega)]; exact hc _ _ ((ecs_at t i 3 hi (by omega)).trans rfl)
  · rw [← add_at _ _ 4 (by omega)]; exact hc _ _ ((ecs_at t i 4 hi (by omega)).trans rfl)
theorem SeesE.below {w w' : World} {x : Value} {t : List (Ev × Value)} (h : SeesE w x t) (hb : Below w.heap.size w w') : SeesE w' x t := by
  obtain ⟨A, cap, rfl, hcap, hA⟩ := h
  refine ⟨A, cap, rfl, hcap, fun hne => ?_⟩
  obtain ⟨ad, rfl, hc⟩ := hA hne
  exact ⟨ad, rfl, fun j u hu => (hb.cell (cell_lt (hc j u hu))).trans (hc j u hu)⟩
theorem ec_oneCell (e : Ev) (A : Option Addr) (n c : Nat) : ∀ u ∈ ec e (.slice A n c), u.oneCell' = true := by
  intro u hu
  simp only [ec, List.mem_cons, List.not_mem_nil, or_false] at hu
  rcases hu with rfl | rfl | rfl | rfl | rfl <;> rfl
theorem info_ev : (Tryz.prog.info? 24).map (fun i => (i.zero, i.size, i.bytes)) = some (some (.agg #[.int .i64 0, .int .i64 0, .int .i64 0, .int .i64 0, .slice none 0 0]), 5, 56) := by kernel_rfl
theorem own_keepE {base n : Nat} {w w' : World} {x : Value} {xs : List Value} (h : w.ownsRow base 24 5 x n xs) (hk : ∀ g, base ≤ g → x.ownBlock = some g → g < w.heap.size → w'.heap[g]? = w.heap[g]?) : w'.ownsRow base 24 5 x n xs := by
  obtain ⟨hl, h0 | ⟨g, cap, cur, rfl, hg, hh, q⟩⟩ := h
  · exact ⟨hl, .inl h0⟩
  · refine ⟨hl, .inr ⟨g, cap, cur, rfl, hg, ?_, q⟩⟩
    rw [hk g hg rfl (Array.getElem?_eq_some_iff.1 hh).1]
    exact hh
theorem blk_add {w : World} {a : Addr} {cs : Array Value} {T : TypeId} (hs : a.spot = none) (h : w.heap[a.block]? = some (.cells cs T (0, 0))) (j : Nat) (u : Value) (hu : cs[a.off + j]? = some u) : w.cell? (a.add j) = some u := by
  obtain ⟨b, o, s⟩ := a
  dsimp only at hs h hu
  subst hs
  unfold Addr.add
  split
  · subst_vars; simp only [World.cell?, h]; simpa using hu
  · simp only [World.cell?, h]; simpa using hu
theorem seesE_own {B n : Nat} {W : World} {v : Value} {ps : List (Ev × Value)} (h : W.ownsRow B 24 5 v n (ecs ps)) (hn : n = ps.length) : SeesE W v ps := by
  subst hn
  obtain ⟨-, ⟨rfl, h0⟩ | ⟨g, cap, cur, rfl, -, hb, hc, -, hs, ht⟩⟩ := h
  · have : ps = [] := List.length_eq_zero_iff.1 h0
    subst this
    exact ⟨none, 0, rfl, Nat.le_refl _, fun h => absurd rfl h⟩
  · refine ⟨_, cap, rfl, hc, fun _ => ⟨_, rfl, fun j u hj => blk_add rfl hb j u ?_⟩⟩
    have hjl := (List.getElem?_eq_some_iff.1 hj).1
    rw [ecs_length] at hjl
    rw [← ht, List.getElem?_take, if_pos hjl] at hj
    simpa using hj

end Go.Proofs.YtejpdfenejbjdaaGreatDoor
