/- Walks: trace: a kind's row; within; what a term must be; is an event right. -/
import Derived.Test.YtejpdfenejbjdaaGreatDoorRight
import Derived.Laws.EntriesVeiled
namespace Go.Proofs.YtejpdfenejbjdaaGreatDoor
open Go.RowKit Txt
set_option linter.unusedVariables false
set_option linter.unusedSimpArgs false

/-- An event. -/
structure Ev where
  kind : Int
  tick : Int
  pid : Int
  by_ : Int
  term : List Cl
/-- What a kind has: its word, Pid, By, may Pid be 0, what its term must be (0: none, 1: a term, 2: an atom). -/
structure TRow where
  word : ByteArray
  pid : Bool
  by_ : Bool
  nobody : Bool
  term : Nat
def trow (k : Int) : Option TRow :=
  if k = 1 then some ⟨⟨#[115, 112, 97, 119, 110]⟩, true, true, false, 0⟩
  else if k = 2 then some ⟨⟨#[115, 101, 110, 100]⟩, true, true, false, 1⟩
  else if k = 3 then some ⟨⟨#[116, 97, 107, 101]⟩, true, false, false, 1⟩
  else if k = 4 then some ⟨⟨#[108, 97, 116, 101]⟩, true, false, false, 0⟩
  else if k = 5 then some ⟨⟨#[101, 120, 105, 116]⟩, true, false, false, 1⟩
  else if k = 6 then some ⟨⟨#[100, 114, 111, 112]⟩, true, true, true, 1⟩
  else if k = 7 then some ⟨⟨#[110, 97, 109, 101]⟩, true, false, false, 2⟩
  else if k = 8 then some ⟨⟨#[116, 105, 99, 107]⟩, false, false, false, 0⟩
  else none
def termFn : Nat → Value
  | 0 => .func (.func 72) #[] #[]
  | 1 => .func (.func 73) #[] #[]
  | _ => .func (.func 74) #[] #[]
def rowV (r : TRow) : Value := .agg #[.string r.word, .bool r.pid, .bool r.by_, .bool r.nobody, termFn r.term]

set_option maxHeartbeats 1000000 in
theorem rowOf_1 (w : World) : Calls Tryz.prog 41 #[.int .i64 1] w fun e w' => e = .returned (.tuple #[rowV ⟨⟨#[115, 112, 97, 119, 110]⟩, true, true, false, 0⟩, .bool true]) ∧ Below w.heap.size w w' := by
  go_enter Tryz.func41, Tryz.ntmps41
  go_wp2
  exact bodyPost_ret (v := .tuple #[rowV ⟨⟨#[115, 112, 97, 119, 110]⟩, true, true, false, 0⟩, .bool true]) (by simp [results, Tryz.results41, go_sem]; rfl) rfl ⟨rfl, (Below.refl _ _).alloc (Nat.le_refl _) _⟩
set_option maxHeartbeats 1000000 in
theorem rowOf_2 (w : World) : Calls Tryz.prog 41 #[.int .i64 2] w fun e w' => e = .returned (.tuple #[rowV ⟨⟨#[115, 101, 110, 100]⟩, true, true, false, 1⟩, .bool true]) ∧ Below w.heap.size w w' := by
  go_enter Tryz.func41, Tryz.ntmps41
  go_wp2
  exact bodyPost_ret (v := .tuple #[rowV ⟨⟨#[115, 101, 110, 100]⟩, true, true, false, 1⟩, .bool true]) (by simp [results, Tryz.results41, go_sem]; rfl) rfl ⟨rfl, (Below.refl _ _).alloc (Nat.le_refl _) _⟩
set_option maxHeartbeats 1000000 in
theorem rowOf_3 (w : World) : Calls Tryz.prog 41 #[.int .i64 3] w fun e w' => e = .returned (.tuple #[rowV ⟨⟨#[116, 97, 107, 101]⟩, true, false, false, 1⟩, .bool true]) ∧ Below w.heap.size w w' := by
  go_enter Tryz.func41, Tryz.ntmps41
  go_wp2
  exact bodyPost_ret (v := .tuple #[rowV ⟨⟨#[116, 97, 107, 101]⟩, true, false, false, 1⟩, .bool true]) (by simp [results, Tryz.results41, go_sem]; rfl) rfl ⟨rfl, (Below.refl _ _).alloc (Nat.le_refl _) _⟩
set_option maxHeartbeats 1000000 in
theorem rowOf_4 (w : World) : Calls Tryz.prog 41 #[.int .i64 4] w fun e w' => e = .returned (.tuple #[rowV ⟨⟨#[108, 97, 116, 101]⟩, true, false, false, 0⟩, .bool true]) ∧ Below w.heap.size w w' := by
  go_enter Tryz.func41, Tryz.ntmps41
  go_wp2
  exact bodyPost_ret (v := .tuple #[rowV ⟨⟨#[108, 97, 116, 101]⟩, true, false, false, 0⟩, .bool true]) (by simp [results, Tryz.results41, go_sem]; rfl) rfl ⟨rfl, (Below.refl _ _).alloc (Nat.le_refl _) _⟩
set_option maxHeartbeats 1000000 in
theorem rowOf_5 (w : World) : Calls Tryz.prog 41 #[.int .i64 5] w fun e w' => e = .returned (.tuple #[rowV ⟨⟨#[101, 120, 105, 116]⟩, true, false, false, 1⟩, .bool true]) ∧ Below w.heap.size w w' := by
  go_enter Tryz.func41, Tryz.ntmps41
  go_wp2
  exact bodyPost_ret (v := .tuple #[rowV ⟨⟨#[101, 120, 105, 116]⟩, true, false, false, 1⟩, .bool true]) (by simp [results, Tryz.results41, go_sem]; rfl) rfl ⟨rfl, (Below.refl _ _).alloc (Nat.le_refl _) _⟩
set_option maxHeartbeats 1000000 in
theorem rowOf_6 (w : World) : Calls Tryz.prog 41 #[.int .i64 6] w fun e w' => e = .returned (.tuple #[rowV ⟨⟨#[100, 114, 111, 112]⟩, true, true, true, 1⟩, .bool true]) ∧ Below w.heap.size w w' := by
  go_enter Tryz.func41, Tryz.ntmps41
  go_wp2
  exact bodyPost_ret (v := .tuple #[rowV ⟨⟨#[100, 114, 111, 112]⟩, true, true, true, 1⟩, .bool true]) (by simp [results, Tryz.results41, go_sem]; rfl) rfl ⟨rfl, (Below.refl _ _).alloc (Nat.le_refl _) _⟩
set_option maxHeartbeats 1000000 in
theorem rowOf_7 (w : World) : Calls Tryz.prog 41 #[.int .i64 7] w fun e w' => e = .returned (.tuple #[rowV ⟨⟨#[110, 97, 109, 101]⟩, true, false, false, 2⟩, .bool true]) ∧ Below w.heap.size w w' := by
  go_enter Tryz.func41, Tryz.ntmps41
  go_wp2
  exact bodyPost_ret (v := .tuple #[rowV ⟨⟨#[110, 97, 109, 101]⟩, true, false, false, 2⟩, .bool true]) (by simp [results, Tryz.results41, go_sem]; rfl) rfl ⟨rfl, (Below.refl _ _).alloc (Nat.le_refl _) _⟩
set_option maxHeartbeats 1000000 in
theorem rowOf_8 (w : World) : Calls Tryz.prog 41 #[.int .i64 8] w fun e w' => e = .returned (.tuple #[rowV ⟨⟨#[116, 105, 99, 107]⟩, false, false, false, 0⟩, .bool true]) ∧ Below w.heap.size w w' := by
  go_enter Tryz.func41, Tryz.ntmps41
  go_wp2
  exact bodyPost_ret (v := .tuple #[rowV ⟨⟨#[116, 105, 99, 107]⟩, false, false, false, 0⟩, .bool true]) (by simp [results, Tryz.results41, go_sem]; rfl) rfl ⟨rfl, (Below.refl _ _).alloc (Nat.le_refl _) _⟩
def noRow : Value := .agg #[.string .empty, .bool false, .bool false, .bool false, .nilFunc]
set_option maxHeartbeats 1000000 in
theorem rowOf_no (k : Int) (w : World) (h1 : (k == 1) = false) (h2 : (k == 2) = false) (h3 : (k == 3) = false) (h4 : (k == 4) = false) (h5 : (k == 5) = false) (h6 : (k == 6) = false) (h7 : (k == 7) = false) (h8 : (k == 8) = false) :
    Calls Tryz.prog 41 #[.int .i64 k] w fun e w' => e = .returned (.tuple #[noRow, .bool false]) ∧ Below w.heap.size w w' := by
  go_enter Tryz.func41, Tryz.ntmps41
  go_wp2
  exact bodyPost_ret (v := .tuple #[noRow, .bool false]) (by simp [results, Tryz.results41, go_sem]; rfl) rfl ⟨rfl, (Below.refl _ _).alloc (Nat.le_refl _) _⟩
def RowOut (k : Int) (w : World) (e : Ending) (w' : World) : Prop :=
  (∀ r, trow k = some r → e = .returned (.tuple #[rowV r, .bool true])) ∧ (trow k = none → e = .returned (.tuple #[noRow, .bool false])) ∧ Below w.heap.size w w'
theorem rowOf_calls (k : Int) (w : World) : Calls Tryz.prog 41 #[.int .i64 k] w (RowOut k w) := by
  by_cases h1 : k = 1
  · subst h1
    exact (rowOf_1 w).mono fun e w' h => ⟨fun r hr => by
      obtain rfl := Option.some.inj (show some (⟨⟨#[115, 112, 97, 119, 110]⟩, true, true, false, 0⟩ : TRow) = some r from hr)
      exact h.1, fun hn => absurd (show some (⟨⟨#[115, 112, 97, 119, 110]⟩, true, true, false, 0⟩ : TRow) = none from hn) (by simp), h.2⟩
  by_cases h2 : k = 2
  · subst h2
    exact (rowOf_2 w).mono fun e w' h => ⟨fun r hr => by
      obtain rfl := Option.some.inj (show some (⟨⟨#[115, 101, 110, 100]⟩, true, true, false, 1⟩ : TRow) = some r from hr)
      exact h.1, fun hn => absurd (show some (⟨⟨#[115, 101, 110, 100]⟩, true, true, false, 1⟩ : TRow) = none from hn) (by simp), h.2⟩
  by_cases h3 : k = 3
  · subst h3
    exact (rowOf_3 w).mono fun e w' h => ⟨fun r hr => by
      obtain rfl := Option.some.inj (show some (⟨⟨#[116, 97, 107, 101]⟩, true, false, false, 1⟩ : TRow) = some r from hr)
      exact h.1, fun hn => absurd (show some (⟨⟨#[116, 97, 107, 101]⟩, true, false, false, 1⟩ : TRow) = none from hn) (by simp), h.2⟩
  by_cases h4 : k = 4
  · subst h4
    exact (rowOf_4 w).mono fun e w' h => ⟨fun r hr => by
      obtain rfl := Option.some.inj (show some (⟨⟨#[108, 97, 116, 101]⟩, true, false, false, 0⟩ : TRow) = some r from hr)
      exact h.1, fun hn => absurd (show some (⟨⟨#[108, 97, 116, 101]⟩, true, false, false, 0⟩ : TRow) = none from hn) (by simp), h.2⟩
  by_cases h5 : k = 5
  · subst h5
    exact (rowOf_5 w).mono fun e w' h => ⟨fun r hr => by
      obtain rfl := Option.some.inj (show some (⟨⟨#[101, 120, 105, 116]⟩, true, false, false, 1⟩ : TRow) = some r from hr)
      exact h.1, fun hn => absurd (show some (⟨⟨#[101, 120, 105, 116]⟩, true, false, false, 1⟩ : TRow) = none from hn) (by simp), h.2⟩
  by_cases h6 : k = 6
  · subst h6
    exact (rowOf_6 w).mono fun e w' h => ⟨fun r hr => by
      obtain rfl := Option.some.inj (show some (⟨⟨#[100, 114, 111, 112]⟩, true, true, true, 1⟩ : TRow) = some r from hr)
      exact h.1, fun hn => absurd (show some (⟨⟨#[100, 114, 111, 112]⟩, true, true, true, 1⟩ : TRow) = none from hn) (by simp), h.2⟩
  by_cases h7 : k = 7
  · subst h7
    exact (rowOf_7 w).mono fun e w' h => ⟨fun r hr => by
      obtain rfl := Option.some.inj (show some (⟨⟨#[110, 97, 109, 101]⟩, true, false, false, 2⟩ : TRow) = some r from hr)
      exact h.1, fun hn => absurd (show some (⟨⟨#[110, 97, 109, 101]⟩, true, false, false, 2⟩ : TRow) = none from hn) (by simp), h.2⟩
  by_cases h8 : k = 8
  · subst h8
    exact (rowOf_8 w).mono fun e w' h => ⟨fun r hr => by
      obtain rfl := Option.some.inj (show some (⟨⟨#[116, 105, 99, 107]⟩, false, false, false, 0⟩ : TRow) = some r from hr)
      exact h.1, fun hn => absurd (show some (⟨⟨#[116, 105, 99, 107]⟩, false, false, false, 0⟩ : TRow) = none from hn) (by simp), h.2⟩
  refine (rowOf_no k w (beq_eq_false_iff_ne.2 h1) (beq_eq_false_iff_ne.2 h2) (beq_eq_false_iff_ne.2 h3) (beq_eq_false_iff_ne.2 h4) (beq_eq_false_iff_ne.2 h5) (beq_eq_false_iff_ne.2 h6) (beq_eq_false_iff_ne.2 h7) (beq_eq_false_iff_ne.2 h8)).mono fun e w' h => ⟨fun r hr => ?_, fun _ => h.1, h.2⟩
  unfold trow at hr
  rw [if_neg h1, if_neg h2, if_neg h3, if_neg h4, if_neg h5, if_neg h6, if_neg h7, if_neg h8] at hr
  cases hr

def within (n : Int) (has : Bool) (least : Int) : Bool := if has then decide (least ≤ n) && decide (n ≤ 1099511627776) else n == 0
set_option maxHeartbeats 1000000 in
theorem within_calls (n least : Int) (has : Bool) (w : World) :
    Calls Tryz.prog 42 #[.int .i64 n, .bool has, .int .i64 least] w fun e w' => e = .returned (.bool (within n has least)) ∧ w' = w := by
  cases has with
  | false =>
    go_enter Tryz.func42, Tryz.ntmps42
    go_wp2
    go_ret
    exact ⟨rfl, rfl⟩
  | true =>
    unfold within
    by_cases h : least ≤ n
    · have hd : decide (least ≤ n) = true := by simpa using h
      simp only [hd, Bool.true_and, if_true]
      go_enter Tryz.func42, Tryz.ntmps42
      go_wp2
      go_ret
      exact ⟨rfl, rfl⟩
    · have hd : decide (least ≤ n) = false := by simpa using h
      simp only [hd, Bool.false_and, if_true]
      go_enter Tryz.func42, Tryz.ntmps42
      go_wp2
      go_ret
      exact ⟨rfl, rfl⟩

/-- What a term must be. -/
def termE (k : Nat) (t : List Cl) : Int :=
  if k = 0 then (if t.length > 0 then 3 else 0)
  else if k = 1 then (right t).1
  else if (right t).1 ≠ 0 then (right t).1 else if (t.head?.map (·.kind)) ≠ some 2 then 32 else 0
theorem none_calls (x : Value) (t : List Cl) (w : World) (hx : SeesT w x t) : Calls Tryz.prog 72 #[x] w fun e w' => e = .returned (.int .i64 (termE 0 t)) ∧ w' = w := by
  obtain ⟨A, c, rfl, -, -⟩ := hx
  unfold termE
  rw [if_pos rfl]
  by_cases h : t.length > 0
  · have hd : decide (0 < t.length) = true := by simpa using h
    have hd2 : decide ((0 : Int) < (t.length : Int)) = true := by simp; omega
    rw [if_pos h]
    go_enter Tryz.func72, Tryz.ntmps72
    go_wp2
    go_ret
    exact ⟨rfl, rfl⟩
  · have hd : decide (0 < t.length) = false := decide_eq_false (by omega)
    have hd2 : decide ((0 : Int) < (t.length : Int)) = false := decide_eq_false (by omega)
    rw [if_neg h]
    go_enter Tryz.func72, Tryz.ntmps72
    go_wp2
    go_ret
    exact ⟨rfl, rfl⟩
theorem some_calls (x : Value) (t : List Cl) (w : World) (hx : SeesT w x t) (hto : TextsOk t) (ht : Tabs w) : Calls Tryz.prog 73 #[x] w fun e w' => e = .returned (.int .i64 (termE 1 t)) ∧ Below w.heap.size w w' := by
  have hr := right_calls x t (right t).1 (right t).2 w hx hto ht rfl
  have HR := Lib.hid hr; clear hr
  have e : termE 1 t = (right t).1 := rfl
  rw [e]
  clear e hx
  generalize (right t).1 = v at *
  generalize (right t).2 = k at *
  go_enter Tryz.func73, Tryz.ntmps73
  go_wp2_with (go_at_call 78; refine (HR.out).mono ?_; rintro e w' ⟨rfl, hb⟩)
  go_ret
  exact ⟨rfl, hb⟩
theorem right_ne {t : List Cl} (h : (right t).1 = 0) : 0 < t.length := by
  unfold right at h
  rcases Nat.eq_zero_or_pos t.length with h0 | h0
  · rw [if_pos h0] at h; exact absurd h (by decide)
  · exact h0
set_option maxHeartbeats 1000000 in
theorem name_calls (x : Value) (t : List Cl) (w : World) (hx : SeesT w x t) (hto : TextsOk t) (ht : Tabs w) : Calls Tryz.prog 74 #[x] w fun e w' => e = .returned (.int .i64 (termE 2 t)) ∧ Below w.heap.size w w' := by
  have hr := some_calls x t w hx hto ht
  have e1 : termE 1 t = (right t).1 := rfl
  rw [e1] at hr
  have HR := Lib.hid hr; clear hr e1
  have HX := Lib.hid hx
  have e : termE 2 t = if (right t).1 ≠ 0 then (right t).1 else if (t.head?.map (·.kind)) ≠ some 2 then 32 else 0 := rfl
  rw [e]
  clear e hto ht
  by_cases hz : (right t).1 = 0
  · have hl := right_ne hz
    rw [hz] at HR
    rw [hz, if_neg (by simp)]
    have hh : t.head?.map (·.kind) = some t[0].kind := by rw [List.head?_eq_getElem?, List.getElem?_eq_getElem hl]; rfl
    rw [hh]
    have hcell : ∀ W, Below w.heap.size w W → ∃ ad cap, x = .slice (some ad) t.length cap ∧ W.cell? (ad.add (0 * 3)) = some (.int .i64 t[0].kind) := by
      intro W hb
      obtain ⟨ad, cap, h1, -, -, h2, -⟩ := (HX.out.below hb).at 0 hl
      exact ⟨ad, cap, h1, h2⟩
    have HC := Lib.hid hcell; clear hcell
    obtain ⟨A, c, rfl, hcap, -⟩ := hx
    generalize t[0].kind = kd at *
    generalize hv2 : (if some kd ≠ some (2 : Int) then (32 : Int) else 0) = v2
    have HV2 := Lib.hid hv2; clear hv2
    have hne : decide (t.length = 0) = false := decide_eq_false (by omega)
    go_enter Tryz.func74, Tryz.ntmps74
    go_wp2_with fail
    refine (HR.out).mono ?_
    rintro e w' ⟨rfl, hb⟩
    obtain ⟨ad, cap, hxe, hc⟩ := HC.out _ hb
    obtain rfl : A = some ad := by injection hxe
    have hc0 : w'.cell? ad = some (.int .i64 kd) := by rw [show ad = ad.add (0 * 3) from rfl]; exact hc
    clear hxe hc
    by_cases h2 : kd = 2
    · obtain rfl : 0 = v2 := by rw [← HV2.out, if_neg (by simpa using h2)]
      subst h2
      clear HV2
      go_wp2_with fail
      go_ret
      exact ⟨rfl, hb⟩
    · obtain rfl : 32 = v2 := by rw [← HV2.out, if_pos (by simpa using h2)]
      have hk : (kd != 2) = true := by simpa using h2
      clear HV2
      go_wp2_with fail
      go_ret
      exact ⟨rfl, hb⟩
  · rw [if_pos hz]
    generalize (right t).1 = v at *
    have hv : (v != 0) = true := by simpa using hz
    go_enter Tryz.func74, Tryz.ntmps74
    go_wp2_with (go_at_call 73; refine (HR.out).mono ?_; rintro e w' ⟨rfl, hb⟩)
    go_ret
    exact ⟨rfl, hb⟩

/-- Is an event right? -/
def evRight (e : Ev) : Int :=
  match trow e.kind with
  | none => 1
  | some r => if e.tick < 0 ∨ e.tick > 1152921504606846976 ∨ within e.pid r.pid (if r.nobody then 0 else 1) = false ∨ within e.by_ r.by_ 0 = false then 1 else termE r.term e.term
def evV (e : Ev) (x : Value) : Value := .agg #[.int .i64 e.kind, .int .i64 e.tick, .int .i64 e.pid, .int .i64 e.by_, x]
end Go.Proofs.YtejpdfenejbjdaaGreatDoor
