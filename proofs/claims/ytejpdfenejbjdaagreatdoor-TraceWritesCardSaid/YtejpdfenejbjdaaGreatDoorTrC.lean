/- Walks: trace: the reference's row and its Right. -/
import Derived.Test.YtejpdfenejbjdaaGreatDoorTrB
namespace Go.Proofs.YtejpdfenejbjdaaGreatDoor
open Go.RowKit Txt
set_option linter.unusedVariables false
set_option linter.unusedSimpArgs false

def rrowV (r : TRow) : Value := .agg #[.string r.word, .bool r.by_, .bool r.pid, .bool (r.term != 0)]
set_option maxHeartbeats 1000000 in
theorem rof_1 (w : World) : Calls Tryz.prog 43 #[.int .i64 1] w fun e w' => e = .returned (.tuple #[rrowV ⟨⟨#[115, 112, 97, 119, 110]⟩, true, true, false, 0⟩, .bool true]) ∧ Below w.heap.size w w' := by
  go_enter Tryz.func43, Tryz.ntmps43
  go_wp2
  exact bodyPost_ret (v := .tuple #[rrowV ⟨⟨#[115, 112, 97, 119, 110]⟩, true, true, false, 0⟩, .bool true]) (by simp [results, Tryz.results43, go_sem]; rfl) rfl ⟨rfl, (Below.refl _ _).alloc (Nat.le_refl _) _⟩
set_option maxHeartbeats 1000000 in
theorem rof_2 (w : World) : Calls Tryz.prog 43 #[.int .i64 2] w fun e w' => e = .returned (.tuple #[rrowV ⟨⟨#[115, 101, 110, 100]⟩, true, true, false, 1⟩, .bool true]) ∧ Below w.heap.size w w' := by
  go_enter Tryz.func43, Tryz.ntmps43
  go_wp2
  exact bodyPost_ret (v := .tuple #[rrowV ⟨⟨#[115, 101, 110, 100]⟩, true, true, false, 1⟩, .bool true]) (by simp [results, Tryz.results43, go_sem]; rfl) rfl ⟨rfl, (Below.refl _ _).alloc (Nat.le_refl _) _⟩
set_option maxHeartbeats 1000000 in
theorem rof_3 (w : World) : Calls Tryz.prog 43 #[.int .i64 3] w fun e w' => e = .returned (.tuple #[rrowV ⟨⟨#[116, 97, 107, 101]⟩, true, false, false, 1⟩, .bool true]) ∧ Below w.heap.size w w' := by
  go_enter Tryz.func43, Tryz.ntmps43
  go_wp2
  exact bodyPost_ret (v := .tuple #[rrowV ⟨⟨#[116, 97, 107, 101]⟩, true, false, false, 1⟩, .bool true]) (by simp [results, Tryz.results43, go_sem]; rfl) rfl ⟨rfl, (Below.refl _ _).alloc (Nat.le_refl _) _⟩
set_option maxHeartbeats 1000000 in
theorem rof_4 (w : World) : Calls Tryz.prog 43 #[.int .i64 4] w fun e w' => e = .returned (.tuple #[rrowV ⟨⟨#[108, 97, 116, 101]⟩, true, false, false, 0⟩, .bool true]) ∧ Below w.heap.size w w' := by
  go_enter Tryz.func43, Tryz.ntmps43
  go_wp2
  exact bodyPost_ret (v := .tuple #[rrowV ⟨⟨#[108, 97, 116, 101]⟩, true, false, false, 0⟩, .bool true]) (by simp [results, Tryz.results43, go_sem]; rfl) rfl ⟨rfl, (Below.refl _ _).alloc (Nat.le_refl _) _⟩
set_option maxHeartbeats 1000000 in
theorem rof_5 (w : World) : Calls Tryz.prog 43 #[.int .i64 5] w fun e w' => e = .returned (.tuple #[rrowV ⟨⟨#[101, 120, 105, 116]⟩, true, false, false, 1⟩, .bool true]) ∧ Below w.heap.size w w' := by
  go_enter Tryz.func43, Tryz.ntmps43
  go_wp2
  exact bodyPost_ret (v := .tuple #[rrowV ⟨⟨#[101, 120, 105, 116]⟩, true, false, false, 1⟩, .bool true]) (by simp [results, Tryz.results43, go_sem]; rfl) rfl ⟨rfl, (Below.refl _ _).alloc (Nat.le_refl _) _⟩
set_option maxHeartbeats 1000000 in
theorem rof_6 (w : World) : Calls Tryz.prog 43 #[.int .i64 6] w fun e w' => e = .returned (.tuple #[rrowV ⟨⟨#[100, 114, 111, 112]⟩, true, true, true, 1⟩, .bool true]) ∧ Below w.heap.size w w' := by
  go_enter Tryz.func43, Tryz.ntmps43
  go_wp2
  exact bodyPost_ret (v := .tuple #[rrowV ⟨⟨#[100, 114, 111, 112]⟩, true, true, true, 1⟩, .bool true]) (by simp [results, Tryz.results43, go_sem]; rfl) rfl ⟨rfl, (Below.refl _ _).alloc (Nat.le_refl _) _⟩
set_option maxHeartbeats 1000000 in
theorem rof_7 (w : World) : Calls Tryz.prog 43 #[.int .i64 7] w fun e w' => e = .returned (.tuple #[rrowV ⟨⟨#[110, 97, 109, 101]⟩, true, false, false, 2⟩, .bool true]) ∧ Below w.heap.size w w' := by
  go_enter Tryz.func43, Tryz.ntmps43
  go_wp2
  exact bodyPost_ret (v := .tuple #[rrowV ⟨⟨#[110, 97, 109, 101]⟩, true, false, false, 2⟩, .bool true]) (by simp [results, Tryz.results43, go_sem]; rfl) rfl ⟨rfl, (Below.refl _ _).alloc (Nat.le_refl _) _⟩
set_option maxHeartbeats 1000000 in
theorem rof_8 (w : World) : Calls Tryz.prog 43 #[.int .i64 8] w fun e w' => e = .returned (.tuple #[rrowV ⟨⟨#[116, 105, 99, 107]⟩, false, false, false, 0⟩, .bool true]) ∧ Below w.heap.size w w' := by
  go_enter Tryz.func43, Tryz.ntmps43
  go_wp2
  exact bodyPost_ret (v := .tuple #[rrowV ⟨⟨#[116, 105, 99, 107]⟩, false, false, false, 0⟩, .bool true]) (by simp [results, Tryz.results43, go_sem]; rfl) rfl ⟨rfl, (Below.refl _ _).alloc (Nat.le_refl _) _⟩
def rnoRow : Value := .agg #[.string .empty, .bool false, .bool false, .bool false]
set_option maxHeartbeats 1000000 in
theorem rof_no (k : Int) (w : World) (h1 : (k == 1) = false) (h2 : (k == 2) = false) (h3 : (k == 3) = false) (h4 : (k == 4) = false) (h5 : (k == 5) = false) (h6 : (k == 6) = false) (h7 : (k == 7) = false) (h8 : (k == 8) = false) :
    Calls Tryz.prog 43 #[.int .i64 k] w fun e w' => e = .returned (.tuple #[rnoRow, .bool false]) ∧ Below w.heap.size w w' := by
  go_enter Tryz.func43, Tryz.ntmps43
  go_wp2
  exact bodyPost_ret (v := .tuple #[rnoRow, .bool false]) (by simp [results, Tryz.results43, go_sem]; rfl) rfl ⟨rfl, (Below.refl _ _).alloc (Nat.le_refl _) _⟩
def ROut (k : Int) (w : World) (e : Ending) (w' : World) : Prop :=
  (∀ r, trow k = some r → e = .returned (.tuple #[rrowV r, .bool true])) ∧ (trow k = none → e = .returned (.tuple #[rnoRow, .bool false])) ∧ Below w.heap.size w w'
theorem rof_calls (k : Int) (w : World) : Calls Tryz.prog 43 #[.int .i64 k] w (ROut k w) := by
  by_cases h1 : k = 1
  · subst h1
    exact (rof_1 w).mono fun e w' h => ⟨fun r hr => by
      obtain rfl := Option.some.inj (show some (⟨⟨#[115, 112, 97, 119, 110]⟩, true, true, false, 0⟩ : TRow) = some r from hr)
      exact h.1, fun hn => absurd (show some (⟨⟨#[115, 112, 97, 119, 110]⟩, true, true, false, 0⟩ : TRow) = none from hn) (by simp), h.2⟩
  by_cases h2 : k = 2
  · subst h2
    exact (rof_2 w).mono fun e w' h => ⟨fun r hr => by
      obtain rfl := Option.some.inj (show some (⟨⟨#[115, 101, 110, 100]⟩, true, true, false, 1⟩ : TRow) = some r from hr)
      exact h.1, fun hn => absurd (show some (⟨⟨#[115, 101, 110, 100]⟩, true, true, false, 1⟩ : TRow) = none from hn) (by simp), h.2⟩
  by_cases h3 : k = 3
  · subst h3
    exact (rof_3 w).mono fun e w' h => ⟨fun r hr => by
      obtain rfl := Option.some.inj (show some (⟨⟨#[116, 97, 107, 101]⟩, true, false, false, 1⟩ : TRow) = some r from hr)
      exact h.1, fun hn => absurd (show some (⟨⟨#[116, 97, 107, 101]⟩, true, false, false, 1⟩ : TRow) = none from hn) (by simp), h.2⟩
  by_cases h4 : k = 4
  · subst h4
    exact (rof_4 w).mono fun e w' h => ⟨fun r hr => by
      obtain rfl := Option.some.inj (show some (⟨⟨#[108, 97, 116, 101]⟩, true, false, false, 0⟩ : TRow) = some r from hr)
      exact h.1, fun hn => absurd (show some (⟨⟨#[108, 97, 116, 101]⟩, true, false, false, 0⟩ : TRow) = none from hn) (by simp), h.2⟩
  by_cases h5 : k = 5
  · subst h5
    exact (rof_5 w).mono fun e w' h => ⟨fun r hr => by
      obtain rfl := Option.some.inj (show some (⟨⟨#[101, 120, 105, 116]⟩, true, false, false, 1⟩ : TRow) = some r from hr)
      exact h.1, fun hn => absurd (show some (⟨⟨#[101, 120, 105, 116]⟩, true, false, false, 1⟩ : TRow) = none from hn) (by simp), h.2⟩
  by_cases h6 : k = 6
  · subst h6
    exact (rof_6 w).mono fun e w' h => ⟨fun r hr => by
      obtain rfl := Option.some.inj (show some (⟨⟨#[100, 114, 111, 112]⟩, true, true, true, 1⟩ : TRow) = some r from hr)
      exact h.1, fun hn => absurd (show some (⟨⟨#[100, 114, 111, 112]⟩, true, true, true, 1⟩ : TRow) = none from hn) (by simp), h.2⟩
  by_cases h7 : k = 7
  · subst h7
    exact (rof_7 w).mono fun e w' h => ⟨fun r hr => by
      obtain rfl := Option.some.inj (show some (⟨⟨#[110, 97, 109, 101]⟩, true, false, false, 2⟩ : TRow) = some r from hr)
      exact h.1, fun hn => absurd (show some (⟨⟨#[110, 97, 109, 101]⟩, true, false, false, 2⟩ : TRow) = none from hn) (by simp), h.2⟩
  by_cases h8 : k = 8
  · subst h8
    exact (rof_8 w).mono fun e w' h => ⟨fun r hr => by
      obtain rfl := Option.some.inj (show some (⟨⟨#[116, 105, 99, 107]⟩, false, false, false, 0⟩ : TRow) = some r from hr)
      exact h.1, fun hn => absurd (show some (⟨⟨#[116, 105, 99, 107]⟩, false, false, false, 0⟩ : TRow) = none from hn) (by simp), h.2⟩
  refine (rof_no k w (beq_eq_false_iff_ne.2 h1) (beq_eq_false_iff_ne.2 h2) (beq_eq_false_iff_ne.2 h3) (beq_eq_false_iff_ne.2 h4) (beq_eq_false_iff_ne.2 h5) (beq_eq_false_iff_ne.2 h6) (beq_eq_false_iff_ne.2 h7) (beq_eq_false_iff_ne.2 h8)).mono fun e w' h => ⟨fun r hr => ?_, fun _ => h.1, h.2⟩
  unfold trow at hr
  rw [if_neg h1, if_neg h2, if_neg h3, if_neg h4, if_neg h5, if_neg h6, if_neg h7, if_neg h8] at hr
  cases hr

set_option maxHeartbeats 1000000 in
theorem revr_none (e : Ev) (x : Value) (w : World) (hr : trow e.kind = none) :
    Calls Tryz.prog 11 #[evV e x] w fun e' w' => e' = .returned (.int .i64 1) ∧ Below w.heap.size w w' := by
  have HR := Lib.hid hr; clear hr
  have hb0 : Below w.heap.size w (w.alloc (.cells #[.int .i64 e.kind, .int .i64 e.tick, .int .i64 e.pid, .int .i64 e.by_, x] 24)) := (Below.refl _ _).alloc (Nat.le_refl _) _
  have HB0 := Lib.hid hb0; clear hb0
  unfold evV
  go_enter Tryz.func11, Tryz.ntmps11
  go_wp2_with fail
  refine (rof_calls _ _).mono ?_
  rintro e1 w1 ⟨-, hn, hb⟩
  obtain rfl := hn HR.out
  have HB1 := Lib.hid (HB0.out.trans (hb.mono (by simp))); clear hb hn
  unfold rnoRow
  go_wp2
  go_ret
  exact ⟨rfl, HB1.out.alloc (by have := HB1.out.size; omega) _⟩

theorem trow_facts {k : Int} {r : TRow} (h : trow k = some r) : (k = 6 ↔ r.nobody = true) ∧ (r.pid = false → r.nobody = false) ∧ (k = 7 ↔ r.term = 2) := by
  unfold trow at h
  repeat' split at h
  all_goals first | (subst_vars; cases h; simp; done) | cases h
/-- What the reference asks of the numbers. -/
theorem within_ref (pid bb : Int) (rp rb nb : Bool) (h : rp = false → nb = false) :
    (within pid rp (if nb then 0 else 1) = false ∨ within bb rb 0 = false) ↔
      (pid < (if rp && !nb then 1 else 0) ∨ pid > 1099511627776 ∨ (rp = false ∧ pid ≠ 0) ∨ bb < 0 ∨ bb > 1099511627776 ∨ (rb = false ∧ bb ≠ 0)) := by
  unfold within
  cases rp <;> cases rb <;> cases nb <;> simp_all <;> omega
end Go.Proofs.YtejpdfenejbjdaaGreatDoor
