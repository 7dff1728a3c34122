/- Walks: is a cell right. -/
import Derived.Test.YtejpdfenejbjdaaGreatDoorWord
namespace Go.Proofs.YtejpdfenejbjdaaGreatDoor
open Go.RowKit Txt
set_option linter.unusedVariables false
set_option linter.unusedSimpArgs false

theorem isEmpty_size (x : ByteArray) : x.toList.isEmpty = decide (x.size = 0) := by
  rw [ByteArray.toList_eq, Bool.eq_iff_iff, List.isEmpty_iff, decide_eq_true_eq, ← List.length_eq_zero_iff]
  simp
theorem val_of {v u : Int} (h : v = u) : Ending.returned (.int .i64 v) = Ending.returned (.int .i64 u) := by rw [h]
set_option maxHeartbeats 1000000 in
theorem cell_lo (k n : Int) (x : ByteArray) (w : World) (hk : k < 1) :
    Calls Tryz.prog 108 #[.agg #[.int .i64 k, .int .i64 n, .string x]] w fun e w' => e = .returned (.int .i64 3) ∧ Below w.heap.size w w' := by
  go_enter Tryz.func108, Tryz.ntmps108
  go_wp2
  all_goals
    go_ret
    exact ⟨rfl, (Below.refl _ _).alloc (Nat.le_refl _) _⟩
set_option maxHeartbeats 1000000 in
theorem cell_hi (k n : Int) (x : ByteArray) (w : World) (hk : 8 < k) :
    Calls Tryz.prog 108 #[.agg #[.int .i64 k, .int .i64 n, .string x]] w fun e w' => e = .returned (.int .i64 3) ∧ Below w.heap.size w w' := by
  go_enter Tryz.func108, Tryz.ntmps108
  go_wp2
  all_goals
    go_ret
    exact ⟨rfl, (Below.refl _ _).alloc (Nat.le_refl _) _⟩
set_option maxHeartbeats 1000000 in
theorem cell_t1 (n : Int) (x : ByteArray) (w : World) (hx : x.size ≠ 0) :
    Calls Tryz.prog 108 #[.agg #[.int .i64 1, .int .i64 n, .string x]] w fun e w' => e = .returned (.int .i64 3) ∧ Below w.heap.size w w' := by
  have h0 : (!x.toList.isEmpty) = true := by rw [isEmpty_size]; simp [hx]
  have h0' : x.toList.isEmpty = false := by rw [isEmpty_size]; simp [hx]
  clear hx
  go_enter Tryz.func108, Tryz.ntmps108
  go_wp2
  all_goals
    go_ret
    exact ⟨rfl, (Below.refl _ _).alloc (Nat.le_refl _) _⟩
set_option maxHeartbeats 1000000 in
theorem cell_t3 (n : Int) (x : ByteArray) (w : World) (hx : x.size ≠ 0) :
    Calls Tryz.prog 108 #[.agg #[.int .i64 3, .int .i64 n, .string x]] w fun e w' => e = .returned (.int .i64 3) ∧ Below w.heap.size w w' := by
  have h0 : (!x.toList.isEmpty) = true := by rw [isEmpty_size]; simp [hx]
  have h0' : x.toList.isEmpty = false := by rw [isEmpty_size]; simp [hx]
  clear hx
  go_enter Tryz.func108, Tryz.ntmps108
  go_wp2
  all_goals
    go_ret
    exact ⟨rfl, (Below.refl _ _).alloc (Nat.le_refl _) _⟩
set_option maxHeartbeats 1000000 in
theorem cell_t4 (n : Int) (x : ByteArray) (w : World) (hx : x.size ≠ 0) :
    Calls Tryz.prog 108 #[.agg #[.int .i64 4, .int .i64 n, .string x]] w fun e w' => e = .returned (.int .i64 3) ∧ Below w.heap.size w w' := by
  have h0 : (!x.toList.isEmpty) = true := by rw [isEmpty_size]; simp [hx]
  have h0' : x.toList.isEmpty = false := by rw [isEmpty_size]; simp [hx]
  clear hx
  go_enter Tryz.func108, Tryz.ntmps108
  go_wp2
  all_goals
    go_ret
    exact ⟨rfl, (Below.refl _ _).alloc (Nat.le_refl _) _⟩
set_option maxHeartbeats 1000000 in
theorem cell_t5 (n : Int) (x : ByteArray) (w : World) (hx : x.size ≠ 0) :
    Calls Tryz.prog 108 #[.agg #[.int .i64 5, .int .i64 n, .string x]] w fun e w' => e = .returned (.int .i64 3) ∧ Below w.heap.size w w' := by
  have h0 : (!x.toList.isEmpty) = true := by rw [isEmpty_size]; simp [hx]
  have h0' : x.toList.isEmpty = false := by rw [isEmpty_size]; simp [hx]
  clear hx
  go_enter Tryz.func108, Tryz.ntmps108
  go_wp2
  all_goals
    go_ret
    exact ⟨rfl, (Below.refl _ _).alloc (Nat.le_refl _) _⟩
set_option maxHeartbeats 1000000 in
theorem cell_t6 (n : Int) (x : ByteArray) (w : World) (hx : x.size ≠ 0) :
    Calls Tryz.prog 108 #[.agg #[.int .i64 6, .int .i64 n, .string x]] w fun e w' => e = .returned (.int .i64 3) ∧ Below w.heap.size w w' := by
  have h0 : (!x.toList.isEmpty) = true := by rw [isEmpty_size]; simp [hx]
  have h0' : x.toList.isEmpty = false := by rw [isEmpty_size]; simp [hx]
  clear hx
  go_enter Tryz.func108, Tryz.ntmps108
  go_wp2
  all_goals
    go_ret
    exact ⟨rfl, (Below.refl _ _).alloc (Nat.le_refl _) _⟩
set_option maxHeartbeats 1000000 in
theorem cell_t7 (n : Int) (x : ByteArray) (w : World) (hx : x.size ≠ 0) :
    Calls Tryz.prog 108 #[.agg #[.int .i64 7, .int .i64 n, .string x]] w fun e w' => e = .returned (.int .i64 3) ∧ Below w.heap.size w w' := by
  have h0 : (!x.toList.isEmpty) = true := by rw [isEmpty_size]; simp [hx]
  have h0' : x.toList.isEmpty = false := by rw [isEmpty_size]; simp [hx]
  clear hx
  go_enter Tryz.func108, Tryz.ntmps108
  go_wp2
  all_goals
    go_ret
    exact ⟨rfl, (Below.refl _ _).alloc (Nat.le_refl _) _⟩
set_option maxHeartbeats 1000000 in
theorem cell_n6 (n : Int) (x : ByteArray) (w : World) (hx : x.size = 0) (hn : n ≠ 0) :
    Calls Tryz.prog 108 #[.agg #[.int .i64 6, .int .i64 n, .string x]] w fun e w' => e = .returned (.int .i64 3) ∧ Below w.heap.size w w' := by
  have h0 : (!x.toList.isEmpty) = false := by rw [isEmpty_size]; simp [hx]
  have h0' : x.toList.isEmpty = true := by rw [isEmpty_size]; simp [hx]
  clear hx
  have h1 : (n == 0) = false := beq_eq_false_iff_ne.2 hn
  have h2 : (n != 0) = true := by simpa using hn
  clear hn
  go_enter Tryz.func108, Tryz.ntmps108
  go_wp2
  all_goals
    go_ret
    exact ⟨rfl, (Below.refl _ _).alloc (Nat.le_refl _) _⟩
set_option maxHeartbeats 1000000 in
theorem cell_ok6 (n : Int) (x : ByteArray) (w : World) (hx : x.size = 0) (hn : n = 0) :
    Calls Tryz.prog 108 #[.agg #[.int .i64 6, .int .i64 n, .string x]] w fun e w' => e = .returned (.int .i64 0) ∧ Below w.heap.size w w' := by
  have h0 : (!x.toList.isEmpty) = false := by rw [isEmpty_size]; simp [hx]
  have h0' : x.toList.isEmpty = true := by rw [isEmpty_size]; simp [hx]
  clear hx
  subst hn
  go_enter Tryz.func108, Tryz.ntmps108
  go_wp2
  all_goals
    go_ret
    exact ⟨rfl, (Below.refl _ _).alloc (Nat.le_refl _) _⟩
set_option maxHeartbeats 1000000 in
theorem cell_n7 (n : Int) (x : ByteArray) (w : World) (hx : x.size = 0) (hn : n ≠ 0) :
    Calls Tryz.prog 108 #[.agg #[.int .i64 7, .int .i64 n, .string x]] w fun e w' => e = .returned (.int .i64 3) ∧ Below w.heap.size w w' := by
  have h0 : (!x.toList.isEmpty) = false := by rw [isEmpty_size]; simp [hx]
  have h0' : x.toList.isEmpty = true := by rw [isEmpty_size]; simp [hx]
  clear hx
  have h1 : (n == 0) = false := beq_eq_false_iff_ne.2 hn
  have h2 : (n != 0) = true := by simpa using hn
  clear hn
  go_enter Tryz.func108, Tryz.ntmps108
  go_wp2
  all_goals
    go_ret
    exact ⟨rfl, (Below.refl _ _).alloc (Nat.le_refl _) _⟩
set_option maxHeartbeats 1000000 in
theorem cell_ok7 (n : Int) (x : ByteArray) (w : World) (hx : x.size = 0) (hn : n = 0) :
    Calls Tryz.prog 108 #[.agg #[.int .i64 7, .int .i64 n, .string x]] w fun e w' => e = .returned (.int .i64 0) ∧ Below w.heap.size w w' := by
  have h0 : (!x.toList.isEmpty) = false := by rw [isEmpty_size]; simp [hx]
  have h0' : x.toList.isEmpty = true := by rw [isEmpty_size]; simp [hx]
  clear hx
  subst hn
  go_enter Tryz.func108, Tryz.ntmps108
  go_wp2
  all_goals
    go_ret
    exact ⟨rfl, (Below.refl _ _).alloc (Nat.le_refl _) _⟩
set_option maxHeartbeats 1000000 in
theorem cell_n2 (n : Int) (x : ByteArray) (w : World) (hn : n ≠ 0) :
    Calls Tryz.prog 108 #[.agg #[.int .i64 2, .int .i64 n, .string x]] w fun e w' => e = .returned (.int .i64 3) ∧ Below w.heap.size w w' := by
  have h1 : (n == 0) = false := beq_eq_false_iff_ne.2 hn
  have h2 : (n != 0) = true := by simpa using hn
  clear hn
  go_enter Tryz.func108, Tryz.ntmps108
  go_wp2
  all_goals
    go_ret
    exact ⟨rfl, (Below.refl _ _).alloc (Nat.le_refl _) _⟩
set_option maxHeartbeats 1000000 in
theorem cell_n8 (n : Int) (x : ByteArray) (w : World) (hn : n ≠ 0) :
    Calls Tryz.prog 108 #[.agg #[.int .i64 8, .int .i64 n, .string x]] w fun e w' => e = .returned (.int .i64 3) ∧ Below w.heap.size w w' := by
  have h1 : (n == 0) = false := beq_eq_false_iff_ne.2 hn
  have h2 : (n != 0) = true := by simpa using hn
  clear hn
  go_enter Tryz.func108, Tryz.ntmps108
  go_wp2
  all_goals
    go_ret
    exact ⟨rfl, (Below.refl _ _).alloc (Nat.le_refl _) _⟩
set_option maxHeartbeats 1000000 in
theorem cell_ok1 (n : Int) (x : ByteArray) (w : World) (hx : x.size = 0) :
    Calls Tryz.prog 108 #[.agg #[.int .i64 1, .int .i64 n, .string x]] w fun e w' => e = .returned (.int .i64 0) ∧ Below w.heap.size w w' := by
  have h0 : (!x.toList.isEmpty) = false := by rw [isEmpty_size]; simp [hx]
  have h0' : x.toList.isEmpty = true := by rw [isEmpty_size]; simp [hx]
  clear hx
  go_enter Tryz.func108, Tryz.ntmps108
  go_wp2
  all_goals
    go_ret
    exact ⟨rfl, (Below.refl _ _).alloc (Nat.le_refl _) _⟩
set_option maxHeartbeats 1000000 in
theorem cell_lo3 (n : Int) (x : ByteArray) (w : World) (hx : x.size = 0) (hn : n < 1) :
    Calls Tryz.prog 108 #[.agg #[.int .i64 3, .int .i64 n, .string x]] w fun e w' => e = .returned (.int .i64 1) ∧ Below w.heap.size w w' := by
  have h0 : (!x.toList.isEmpty) = false := by rw [isEmpty_size]; simp [hx]
  have h0' : x.toList.isEmpty = true := by rw [isEmpty_size]; simp [hx]
  clear hx
  go_enter Tryz.func108, Tryz.ntmps108
  go_wp2
  all_goals
    go_ret
    exact ⟨rfl, (Below.refl _ _).alloc (Nat.le_refl _) _⟩
set_option maxHeartbeats 1000000 in
theorem cell_hi3 (n : Int) (x : ByteArray) (w : World) (hx : x.size = 0) (hn : 281474976710656 < n) :
    Calls Tryz.prog 108 #[.agg #[.int .i64 3, .int .i64 n, .string x]] w fun e w' => e = .returned (.int .i64 1) ∧ Below w.heap.size w w' := by
  have h0 : (!x.toList.isEmpty) = false := by rw [isEmpty_size]; simp [hx]
  have h0' : x.toList.isEmpty = true := by rw [isEmpty_size]; simp [hx]
  clear hx
  have h1 : 1 ≤ n := by omega
  go_enter Tryz.func108, Tryz.ntmps108
  go_wp2
  all_goals
    go_ret
    exact ⟨rfl, (Below.refl _ _).alloc (Nat.le_refl _) _⟩
set_option maxHeartbeats 1000000 in
theorem cell_ok3 (n : Int) (x : ByteArray) (w : World) (hx : x.size = 0) (hn : 1 ≤ n) (hm : n ≤ 281474976710656) :
    Calls Tryz.prog 108 #[.agg #[.int .i64 3, .int .i64 n, .string x]] w fun e w' => e = .returned (.int .i64 0) ∧ Below w.heap.size w w' := by
  have h0 : (!x.toList.isEmpty) = false := by rw [isEmpty_size]; simp [hx]
  have h0' : x.toList.isEmpty = true := by rw [isEmpty_size]; simp [hx]
  clear hx
  go_enter Tryz.func108, Tryz.ntmps108
  go_wp2
  all_goals
    go_ret
    exact ⟨rfl, (Below.refl _ _).alloc (Nat.le_refl _) _⟩
set_option maxHeartbeats 1000000 in
theorem cell_lo4 (n : Int) (x : ByteArray) (w : World) (hx : x.size = 0) (hn : n < 1) :
    Calls Tryz.prog 108 #[.agg #[.int .i64 4, .int .i64 n, .string x]] w fun e w' => e = .returned (.int .i64 1) ∧ Below w.heap.size w w' := by
  have h0 : (!x.toList.isEmpty) = false := by rw [isEmpty_size]; simp [hx]
  have h0' : x.toList.isEmpty = true := by rw [isEmpty_size]; simp [hx]
  clear hx
  go_enter Tryz.func108, Tryz.ntmps108
  go_wp2
  all_goals
    go_ret
    exact ⟨rfl, (Below.refl _ _).alloc (Nat.le_refl _) _⟩
set_option maxHeartbeats 1000000 in
theorem cell_hi4 (n : Int) (x : ByteArray) (w : World) (hx : x.size = 0) (hn : 1099511627776 < n) :
    Calls Tryz.prog 108 #[.agg #[.int .i64 4, .int .i64 n, .string x]] w fun e w' => e = .returned (.int .i64 1) ∧ Below w.heap.size w w' := by
  have h0 : (!x.toList.isEmpty) = false := by rw [isEmpty_size]; simp [hx]
  have h0' : x.toList.isEmpty = true := by rw [isEmpty_size]; simp [hx]
  clear hx
  have h1 : 1 ≤ n := by omega
  go_enter Tryz.func108, Tryz.ntmps108
  go_wp2
  all_goals
    go_ret
    exact ⟨rfl, (Below.refl _ _).alloc (Nat.le_refl _) _⟩
set_option maxHeartbeats 1000000 in
theorem cell_ok4 (n : Int) (x : ByteArray) (w : World) (hx : x.size = 0) (hn : 1 ≤ n) (hm : n ≤ 1099511627776) :
    Calls Tryz.prog 108 #[.agg #[.int .i64 4, .int .i64 n, .string x]] w fun e w' => e = .returned (.int .i64 0) ∧ Below w.heap.size w w' := by
  have h0 : (!x.toList.isEmpty) = false := by rw [isEmpty_size]; simp [hx]
  have h0' : x.toList.isEmpty = true := by rw [isEmpty_size]; simp [hx]
  clear hx
  go_enter Tryz.func108, Tryz.ntmps108
  go_wp2
  all_goals
    go_ret
    exact ⟨rfl, (Below.refl _ _).alloc (Nat.le_refl _) _⟩
set_option maxHeartbeats 1000000 in
theorem cell_lo5 (n : Int) (x : ByteArray) (w : World) (hx : x.size = 0) (hn : n < 0) :
    Calls Tryz.prog 108 #[.agg #[.int .i64 5, .int .i64 n, .string x]] w fun e w' => e = .returned (.int .i64 1) ∧ Below w.heap.size w w' := by
  have h0 : (!x.toList.isEmpty) = false := by rw [isEmpty_size]; simp [hx]
  have h0' : x.toList.isEmpty = true := by rw [isEmpty_size]; simp [hx]
  clear hx
  go_enter Tryz.func108, Tryz.ntmps108
  go_wp2
  all_goals
    go_ret
    exact ⟨rfl, (Below.refl _ _).alloc (Nat.le_refl _) _⟩
set_option maxHeartbeats 1000000 in
theorem cell_hi5 (n : Int) (x : ByteArray) (w : World) (hx : x.size = 0) (hn : 255 < n) :
    Calls Tryz.prog 108 #[.agg #[.int .i64 5, .int .i64 n, .string x]] w fun e w' => e = .returned (.int .i64 1) ∧ Below w.heap.size w w' := by
  have h0 : (!x.toList.isEmpty) = false := by rw [isEmpty_size]; simp [hx]
  have h0' : x.toList.isEmpty = true := by rw [isEmpty_size]; simp [hx]
  clear hx
  have h1 : 0 ≤ n := by omega
  go_enter Tryz.func108, Tryz.ntmps108
  go_wp2
  all_goals
    go_ret
    exact ⟨rfl, (Below.refl _ _).alloc (Nat.le_refl _) _⟩
set_option maxHeartbeats 1000000 in
theorem cell_ok5 (n : Int) (x : ByteArray) (w : World) (hx : x.size = 0) (hn : 0 ≤ n) (hm : n ≤ 255) :
    Calls Tryz.prog 108 #[.agg #[.int .i64 5, .int .i64 n, .string x]] w fun e w' => e = .returned (.int .i64 0) ∧ Below w.heap.size w w' := by
  have h0 : (!x.toList.isEmpty) = false := by rw [isEmpty_size]; simp [hx]
  have h0' : x.toList.isEmpty = true := by rw [isEmpty_size]; simp [hx]
  clear hx
  go_enter Tryz.func108, Tryz.ntmps108
  go_wp2
  all_goals
    go_ret
    exact ⟨rfl, (Below.refl _ _).alloc (Nat.le_refl _) _⟩
set_option maxHeartbeats 1000000 in
theorem cell_big8 (n : Int) (x : ByteArray) (w : World) (hn : n = 0) (hx : 1024 < x.size) (hs : x.size ≤ 140737488355328) :
    Calls Tryz.prog 108 #[.agg #[.int .i64 8, .int .i64 n, .string x]] w fun e w' => e = .returned (.int .i64 4) ∧ Below w.heap.size w w' := by
  subst hn
  go_enter Tryz.func108, Tryz.ntmps108
  go_wp2
  all_goals
    go_ret
    exact ⟨rfl, (Below.refl _ _).alloc (Nat.le_refl _) _⟩
set_option maxHeartbeats 1000000 in
theorem cell_ok8 (n : Int) (x : ByteArray) (w : World) (hn : n = 0) (hx : x.size ≤ 1024) :
    Calls Tryz.prog 108 #[.agg #[.int .i64 8, .int .i64 n, .string x]] w fun e w' => e = .returned (.int .i64 0) ∧ Below w.heap.size w w' := by
  subst hn
  go_enter Tryz.func108, Tryz.ntmps108
  go_wp2
  all_goals
    go_ret
    exact ⟨rfl, (Below.refl _ _).alloc (Nat.le_refl _) _⟩
set_option maxHeartbeats 1000000 in
theorem cell_big2 (n : Int) (x : ByteArray) (w : World) (hn : n = 0) (hx : 255 < x.size) (hs : x.size ≤ 140737488355328) :
    Calls Tryz.prog 108 #[.agg #[.int .i64 2, .int .i64 n, .string x]] w fun e w' => e = .returned (.int .i64 20) ∧ Below w.heap.size w w' := by
  subst hn
  go_enter Tryz.func108, Tryz.ntmps108
  go_wp2
  all_goals
    go_ret
    exact ⟨rfl, (Below.refl _ _).alloc (Nat.le_refl _) _⟩
set_option maxHeartbeats 1000000 in
theorem cell_bad2 (n : Int) (x : ByteArray) (w : World) (hn : n = 0) (hx : x.size ≤ 255) (hsp : spelled x = false) (ht : Tabs w) :
    Calls Tryz.prog 108 #[.agg #[.int .i64 2, .int .i64 n, .string x]] w fun e w' => e = .returned (.int .i64 20) ∧ Below w.heap.size w w' := by
  subst hn
  have HS := Lib.hid hsp; clear hsp
  have HT := Lib.hid ht; clear ht
  go_enter Tryz.func108, Tryz.ntmps108
  go_wp2_with fail
  refine (spelled_calls x _ _ (by omega) (HT.out.alloc _) HS.out).mono ?_
  rintro e w1 ⟨rfl, hb⟩
  have c0 : w1.cell? ⟨w.heap.size, 0, none⟩ = some (.int .i64 2) := (hb.cell (by simp)).trans (by go_simp)
  have HB := Lib.hid (((Below.refl w.heap.size w).alloc (Nat.le_refl _) _).trans (hb.mono (by simp))); clear hb
  go_wp2
  go_ret
  exact ⟨rfl, HB.out⟩
set_option maxHeartbeats 1000000 in
theorem cell_ok2 (n : Int) (x : ByteArray) (w : World) (hn : n = 0) (hx : x.size ≤ 255) (hsp : spelled x = true) (ht : Tabs w) :
    Calls Tryz.prog 108 #[.agg #[.int .i64 2, .int .i64 n, .string x]] w fun e w' => e = .returned (.int .i64 0) ∧ Below w.heap.size w w' := by
  subst hn
  have HS := Lib.hid hsp; clear hsp
  have HT := Lib.hid ht; clear ht
  go_enter Tryz.func108, Tryz.ntmps108
  go_wp2_with fail
  refine (spelled_calls x _ _ (by omega) (HT.out.alloc _) HS.out).mono ?_
  rintro e w1 ⟨rfl, hb⟩
  have c0 : w1.cell? ⟨w.heap.size, 0, none⟩ = some (.int .i64 2) := (hb.cell (by simp)).trans (by go_simp)
  have HB := Lib.hid (((Below.refl w.heap.size w).alloc (Nat.le_refl _) _).trans (hb.mono (by simp))); clear hb
  go_wp2
  go_ret
  exact ⟨rfl, HB.out⟩

/-- word.Cell: what is wrong of a cell. -/
theorem cell_calls (c : Cl) (v : Int) (w : World) (hs : c.text.size ≤ 140737488355328) (ht : Tabs w) (hv : cellE c = v) :
    Calls Tryz.prog 108 #[.agg #[.int .i64 c.kind, .int .i64 c.n, .string c.text]] w fun e w' => e = .returned (.int .i64 v) ∧ Below w.heap.size w w' := by
  obtain ⟨k, n, x⟩ := c
  simp only at hs ⊢
  subst hv
  have go : ∀ u : Int, cellV k n x.size (spelled x) = u → (Calls Tryz.prog 108 #[.agg #[.int .i64 k, .int .i64 n, .string x]] w fun e w' => e = .returned (.int .i64 u) ∧ Below w.heap.size w w') →
      Calls Tryz.prog 108 #[.agg #[.int .i64 k, .int .i64 n, .string x]] w fun e w' => e = .returned (.int .i64 (cellE ⟨k, n, x⟩)) ∧ Below w.heap.size w w' := by
    intro u hu h
    rw [show cellE ⟨k, n, x⟩ = cellV k n x.size (spelled x) from rfl, hu]; exact h
  by_cases hlo : k < 1
  · exact go 3 (by simp only [cellV]; rw [if_pos (.inl hlo)]) (cell_lo k n x w hlo)
  by_cases hhi : 8 < k
  · exact go 3 (by simp only [cellV]; rw [if_pos (.inr hhi)]) (cell_hi k n x w hhi)
  have hk : k = 1 ∨ k = 2 ∨ k = 3 ∨ k = 4 ∨ k = 5 ∨ k = 6 ∨ k = 7 ∨ k = 8 := by omega
  have key : ∀ (z : Nat) (sp : Bool), x.size = z → spelled x = sp → True := fun _ _ _ _ => trivial
  rcases hk with rfl | rfl | rfl | rfl | rfl | rfl | rfl | rfl
  · by_cases hx : x.size = 0
    · exact go 0 (by simp only [hx]; simp [cellV]) (cell_ok1 n x w hx)
    · exact go 3 (cellV_text _ _ _ _ (by omega) (by omega) (by omega) hx) (cell_t1 n x w hx)
  · by_cases hn : n = 0
    · rcases Nat.lt_or_ge 255 x.size with h1 | h1
      · exact go 20 (by rw [hn, cellV_atom]; rw [if_pos (.inl h1)]) (cell_big2 n x w hn h1 hs)
      · cases hsp : spelled x with
        | true => exact go 0 (by rw [hn, cellV_atom, hsp, if_neg (by simp; omega)]) (cell_ok2 n x w hn h1 hsp ht)
        | false => exact go 20 (by rw [hn, cellV_atom, hsp, if_pos (.inr rfl)]) (cell_bad2 n x w hn h1 hsp ht)
    · exact go 3 (by simp [cellV, hn]) (cell_n2 n x w hn)
  · by_cases hx : x.size = 0
    · by_cases h1 : n < 1
      · exact go 1 (by simp only [hx]; simp [cellV, h1]) (cell_lo3 n x w hx h1)
      · by_cases h2 : 281474976710656 < n
        · exact go 1 (by simp only [hx]; simp [cellV, h2]) (cell_hi3 n x w hx h2)
        · exact go 0 (by simp only [hx]; simp [cellV, h1, h2]) (cell_ok3 n x w hx (by omega) (by omega))
    · exact go 3 (cellV_text _ _ _ _ (by omega) (by omega) (by omega) hx) (cell_t3 n x w hx)
  · by_cases hx : x.size = 0
    · by_cases h1 : n < 1
      · exact go 1 (by simp only [hx]; simp [cellV, h1]) (cell_lo4 n x w hx h1)
      · by_cases h2 : 1099511627776 < n
        · exact go 1 (by simp only [hx]; simp [cellV, h2]) (cell_hi4 n x w hx h2)
        · exact go 0 (by simp only [hx]; simp [cellV, h1, h2]) (cell_ok4 n x w hx (by omega) (by omega))
    · exact go 3 (cellV_text _ _ _ _ (by omega) (by omega) (by omega) hx) (cell_t4 n x w hx)
  · by_cases hx : x.size = 0
    · by_cases h1 : n < 0
      · exact go 1 (by simp only [hx]; simp [cellV, h1]) (cell_lo5 n x w hx h1)
      · by_cases h2 : 255 < n
        · exact go 1 (by simp only [hx]; simp [cellV, h2]) (cell_hi5 n x w hx h2)
        · exact go 0 (by simp only [hx]; simp [cellV, h1, h2]) (cell_ok5 n x w hx (by omega) (by omega))
    · exact go 3 (cellV_text _ _ _ _ (by omega) (by omega) (by omega) hx) (cell_t5 n x w hx)
  · by_cases hx : x.size = 0
    · by_cases hn : n = 0
      · exact go 0 (by simp only [hx, hn]; simp [cellV]) (cell_ok6 n x w hx hn)
      · exact go 3 (by simp only [hx]; simp [cellV, hn]) (cell_n6 n x w hx hn)
    · exact go 3 (cellV_text _ _ _ _ (by omega) (by omega) (by omega) hx) (cell_t6 n x w hx)
  · by_cases hx : x.size = 0
    · by_cases hn : n = 0
      · exact go 0 (by simp only [hx, hn]; simp [cellV]) (cell_ok7 n x w hx hn)
      · exact go 3 (by simp only [hx]; simp [cellV, hn]) (cell_n7 n x w hx hn)
    · exact go 3 (cellV_text _ _ _ _ (by omega) (by omega) (by omega) hx) (cell_t7 n x w hx)
  · by_cases hn : n = 0
    · rcases Nat.lt_or_ge 1024 x.size with h1 | h1
      · exact go 4 (by rw [hn]; generalize x.size = z at *; simp [cellV, h1]) (cell_big8 n x w hn h1 hs)
      · exact go 0 (by rw [hn]; generalize x.size = z at *; simp [cellV, h1]) (cell_ok8 n x w hn h1)
    · exact go 3 (by simp [cellV, hn]) (cell_n8 n x w hn)
end Go.Proofs.YtejpdfenejbjdaaGreatDoor
