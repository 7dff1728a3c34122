/- Walks: is a cell right, for the reference. -/
import Derived.Test.YtejpdfenejbjdaaGreatDoorUtf8
import Derived.Test.YtejpdfenejbjdaaGreatDoorWordB
import Derived.Test.YtejpdfenejbjdaaGreatDoorRight
namespace Go.Proofs.YtejpdfenejbjdaaGreatDoor
open Go.RowKit Txt
set_option linter.unusedVariables false
set_option linter.unusedSimpArgs false

set_option maxHeartbeats 1000000 in
theorem rcell_lo (k n : Int) (x : ByteArray) (w : World) (hk : k < 1) :
    Calls Tryz.prog 75 #[.agg #[.int .i64 k, .int .i64 n, .string x]] w fun e w' => e = .returned (.int .i64 3) ∧ Below w.heap.size w w' := by
  go_enter Tryz.func75, Tryz.ntmps75
  go_wp2
  all_goals
    go_ret
    exact ⟨rfl, (Below.refl _ _).alloc (Nat.le_refl _) _⟩
set_option maxHeartbeats 1000000 in
theorem rcell_hi (k n : Int) (x : ByteArray) (w : World) (hk : 8 < k) :
    Calls Tryz.prog 75 #[.agg #[.int .i64 k, .int .i64 n, .string x]] w fun e w' => e = .returned (.int .i64 3) ∧ Below w.heap.size w w' := by
  go_enter Tryz.func75, Tryz.ntmps75
  go_wp2
  all_goals
    go_ret
    exact ⟨rfl, (Below.refl _ _).alloc (Nat.le_refl _) _⟩
set_option maxHeartbeats 1000000 in
theorem rcell_t1 (n : Int) (x : ByteArray) (w : World) (hx : x.size ≠ 0) :
    Calls Tryz.prog 75 #[.agg #[.int .i64 1, .int .i64 n, .string x]] w fun e w' => e = .returned (.int .i64 3) ∧ Below w.heap.size w w' := by
  have h0 : (!x.toList.isEmpty) = true := by rw [isEmpty_size]; simp [hx]
  have h0' : x.toList.isEmpty = false := by rw [isEmpty_size]; simp [hx]
  clear hx
  go_enter Tryz.func75, Tryz.ntmps75
  go_wp2
  all_goals
    go_ret
    exact ⟨rfl, (Below.refl _ _).alloc (Nat.le_refl _) _⟩
set_option maxHeartbeats 1000000 in
theorem rcell_t3 (n : Int) (x : ByteArray) (w : World) (hx : x.size ≠ 0) :
    Calls Tryz.prog 75 #[.agg #[.int .i64 3, .int .i64 n, .string x]] w fun e w' => e = .returned (.int .i64 3) ∧ Below w.heap.size w w' := by
  have h0 : (!x.toList.isEmpty) = true := by rw [isEmpty_size]; simp [hx]
  have h0' : x.toList.isEmpty = false := by rw [isEmpty_size]; simp [hx]
  clear hx
  go_enter Tryz.func75, Tryz.ntmps75
  go_wp2
  all_goals
    go_ret
    exact ⟨rfl, (Below.refl _ _).alloc (Nat.le_refl _) _⟩
set_option maxHeartbeats 1000000 in
theorem rcell_t4 (n : Int) (x : ByteArray) (w : World) (hx : x.size ≠ 0) :
    Calls Tryz.prog 75 #[.agg #[.int .i64 4, .int .i64 n, .string x]] w fun e w' => e = .returned (.int .i64 3) ∧ Below w.heap.size w w' := by
  have h0 : (!x.toList.isEmpty) = true := by rw [isEmpty_size]; simp [hx]
  have h0' : x.toList.isEmpty = false := by rw [isEmpty_size]; simp [hx]
  clear hx
  go_enter Tryz.func75, Tryz.ntmps75
  go_wp2
  all_goals
    go_ret
    exact ⟨rfl, (Below.refl _ _).alloc (Nat.le_refl _) _⟩
set_option maxHeartbeats 1000000 in
theorem rcell_t5 (n : Int) (x : ByteArray) (w : World) (hx : x.size ≠ 0) :
    Calls Tryz.prog 75 #[.agg #[.int .i64 5, .int .i64 n, .string x]] w fun e w' => e = .returned (.int .i64 3) ∧ Below w.heap.size w w' := by
  have h0 : (!x.toList.isEmpty) = true := by rw [isEmpty_size]; simp [hx]
  have h0' : x.toList.isEmpty = false := by rw [isEmpty_size]; simp [hx]
  clear hx
  go_enter Tryz.func75, Tryz.ntmps75
  go_wp2
  all_goals
    go_ret
    exact ⟨rfl, (Below.refl _ _).alloc (Nat.le_refl _) _⟩
set_option maxHeartbeats 1000000 in
theorem rcell_t6 (n : Int) (x : ByteArray) (w : World) (hx : x.size ≠ 0) :
    Calls Tryz.prog 75 #[.agg #[.int .i64 6, .int .i64 n, .string x]] w fun e w' => e = .returned (.int .i64 3) ∧ Below w.heap.size w w' := by
  have h0 : (!x.toList.isEmpty) = true := by rw [isEmpty_size]; simp [hx]
  have h0' : x.toList.isEmpty = false := by rw [isEmpty_size]; simp [hx]
  clear hx
  go_enter Tryz.func75, Tryz.ntmps75
  go_wp2
  all_goals
    go_ret
    exact ⟨rfl, (Below.refl _ _).alloc (Nat.le_refl _) _⟩
set_option maxHeartbeats 1000000 in
theorem rcell_t7 (n : Int) (x : ByteArray) (w : World) (hx : x.size ≠ 0) :
    Calls Tryz.prog 75 #[.agg #[.int .i64 7, .int .i64 n, .string x]] w fun e w' => e = .returned (.int .i64 3) ∧ Below w.heap.size w w' := by
  have h0 : (!x.toList.isEmpty) = true := by rw [isEmpty_size]; simp [hx]
  have h0' : x.toList.isEmpty = false := by rw [isEmpty_size]; simp [hx]
  clear hx
  go_enter Tryz.func75, Tryz.ntmps75
  go_wp2
  all_goals
    go_ret
    exact ⟨rfl, (Below.refl _ _).alloc (Nat.le_refl _) _⟩
set_option maxHeartbeats 1000000 in
theorem rcell_n6 (n : Int) (x : ByteArray) (w : World) (hx : x.size = 0) (hn : n ≠ 0) :
    Calls Tryz.prog 75 #[.agg #[.int .i64 6, .int .i64 n, .string x]] w fun e w' => e = .returned (.int .i64 3) ∧ Below w.heap.size w w' := by
  have h0 : (!x.toList.isEmpty) = false := by rw [isEmpty_size]; simp [hx]
  have h0' : x.toList.isEmpty = true := by rw [isEmpty_size]; simp [hx]
  clear hx
  have h1 : (n == 0) = false := beq_eq_false_iff_ne.2 hn
  have h2 : (n != 0) = true := by simpa using hn
  clear hn
  go_enter Tryz.func75, Tryz.ntmps75
  go_wp2
  all_goals
    go_ret
    exact ⟨rfl, (Below.refl _ _).alloc (Nat.le_refl _) _⟩
set_option maxHeartbeats 1000000 in
theorem rcell_ok6 (n : Int) (x : ByteArray) (w : World) (hx : x.size = 0) (hn : n = 0) :
    Calls Tryz.prog 75 #[.agg #[.int .i64 6, .int .i64 n, .string x]] w fun e w' => e = .returned (.int .i64 0) ∧ Below w.heap.size w w' := by
  have h0 : (!x.toList.isEmpty) = false := by rw [isEmpty_size]; simp [hx]
  have h0' : x.toList.isEmpty = true := by rw [isEmpty_size]; simp [hx]
  clear hx
  subst hn
  go_enter Tryz.func75, Tryz.ntmps75
  go_wp2
  all_goals
    go_ret
    exact ⟨rfl, (Below.refl _ _).alloc (Nat.le_refl _) _⟩
set_option maxHeartbeats 1000000 in
theorem rcell_n7 (n : Int) (x : ByteArray) (w : World) (hx : x.size = 0) (hn : n ≠ 0) :
    Calls Tryz.prog 75 #[.agg #[.int .i64 7, .int .i64 n, .string x]] w fun e w' => e = .returned (.int .i64 3) ∧ Below w.heap.size w w' := by
  have h0 : (!x.toList.isEmpty) = false := by rw [isEmpty_size]; simp [hx]
  have h0' : x.toList.isEmpty = true := by rw [isEmpty_size]; simp [hx]
  clear hx
  have h1 : (n == 0) = false := beq_eq_false_iff_ne.2 hn
  have h2 : (n != 0) = true := by simpa using hn
  clear hn
  go_enter Tryz.func75, Tryz.ntmps75
  go_wp2
  all_goals
    go_ret
    exact ⟨rfl, (Below.refl _ _).alloc (Nat.le_refl _) _⟩
set_option maxHeartbeats 1000000 in
theorem rcell_ok7 (n : Int) (x : ByteArray) (w : World) (hx : x.size = 0) (hn : n = 0) :
    Calls Tryz.prog 75 #[.agg #[.int .i64 7, .int .i64 n, .string x]] w fun e w' => e = .returned (.int .i64 0) ∧ Below w.heap.size w w' := by
  have h0 : (!x.toList.isEmpty) = false := by rw [isEmpty_size]; simp [hx]
  have h0' : x.toList.isEmpty = true := by rw [isEmpty_size]; simp [hx]
  clear hx
  subst hn
  go_enter Tryz.func75, Tryz.ntmps75
  go_wp2
  all_goals
    go_ret
    exact ⟨rfl, (Below.refl _ _).alloc (Nat.le_refl _) _⟩
set_option maxHeartbeats 1000000 in
theorem rcell_n2 (n : Int) (x : ByteArray) (w : World) (hn : n ≠ 0) :
    Calls Tryz.prog 75 #[.agg #[.int .i64 2, .int .i64 n, .string x]] w fun e w' => e = .returned (.int .i64 3) ∧ Below w.heap.size w w' := by
  have h1 : (n == 0) = false := beq_eq_false_iff_ne.2 hn
  have h2 : (n != 0) = true := by simpa using hn
  clear hn
  go_enter Tryz.func75, Tryz.ntmps75
  go_wp2
  all_goals
    go_ret
    exact ⟨rfl, (Below.refl _ _).alloc (Nat.le_refl _) _⟩
set_option maxHeartbeats 1000000 in
theorem rcell_n8 (n : Int) (x : ByteArray) (w : World) (hn : n ≠ 0) :
    Calls Tryz.prog 75 #[.agg #[.int .i64 8, .int .i64 n, .string x]] w fun e w' => e = .returned (.int .i64 3) ∧ Below w.heap.size w w' := by
  have h1 : (n == 0) = false := beq_eq_false_iff_ne.2 hn
  have h2 : (n != 0) = true := by simpa using hn
  clear hn
  go_enter Tryz.func75, Tryz.ntmps75
  go_wp2
  all_goals
    go_ret
    exact ⟨rfl, (Below.refl _ _).alloc (Nat.le_refl _) _⟩
set_option maxHeartbeats 1000000 in
theorem rcell_ok1 (n : Int) (x : ByteArray) (w : World) (hx : x.size = 0) :
    Calls Tryz.prog 75 #[.agg #[.int .i64 1, .int .i64 n, .string x]] w fun e w' => e = .returned (.int .i64 0) ∧ Below w.heap.size w w' := by
  have h0 : (!x.toList.isEmpty) = false := by rw [isEmpty_size]; simp [hx]
  have h0' : x.toList.isEmpty = true := by rw [isEmpty_size]; simp [hx]
  clear hx
  go_enter Tryz.func75, Tryz.ntmps75
  go_wp2
  all_goals
    go_ret
    exact ⟨rfl, (Below.refl _ _).alloc (Nat.le_refl _) _⟩
set_option maxHeartbeats 1000000 in
theorem rcell_lo3 (n : Int) (x : ByteArray) (w : World) (hx : x.size = 0) (hn : n < 1) :
    Calls Tryz.prog 75 #[.agg #[.int .i64 3, .int .i64 n, .string x]] w fun e w' => e = .returned (.int .i64 1) ∧ Below w.heap.size w w' := by
  have h0 : (!x.toList.isEmpty) = false := by rw [isEmpty_size]; simp [hx]
  have h0' : x.toList.isEmpty = true := by rw [isEmpty_size]; simp [hx]
  clear hx
  go_enter Tryz.func75, Tryz.ntmps75
  go_wp2
  all_goals
    go_ret
    exact ⟨rfl, (Below.refl _ _).alloc (Nat.le_refl _) _⟩
set_option maxHeartbeats 1000000 in
theorem rcell_hi3 (n : Int) (x : ByteArray) (w : World) (hx : x.size = 0) (hn : 281474976710656 < n) :
    Calls Tryz.prog 75 #[.agg #[.int .i64 3, .int .i64 n, .string x]] w fun e w' => e = .returned (.int .i64 1) ∧ Below w.heap.size w w' := by
  have h0 : (!x.toList.isEmpty) = false := by rw [isEmpty_size]; simp [hx]
  have h0' : x.toList.isEmpty = true := by rw [isEmpty_size]; simp [hx]
  clear hx
  have h1 : 1 ≤ n := by omega
  go_enter Tryz.func75, Tryz.ntmps75
  go_wp2
  all_goals
    go_ret
    exact ⟨rfl, (Below.refl _ _).alloc (Nat.le_refl _) _⟩
set_option maxHeartbeats 1000000 in
theorem rcell_ok3 (n : Int) (x : ByteArray) (w : World) (hx : x.size = 0) (hn : 1 ≤ n) (hm : n ≤ 281474976710656) :
    Calls Tryz.prog 75 #[.agg #[.int .i64 3, .int .i64 n, .string x]] w fun e w' => e = .returned (.int .i64 0) ∧ Below w.heap.size w w' := by
  have h0 : (!x.toList.isEmpty) = false := by rw [isEmpty_size]; simp [hx]
  have h0' : x.toList.isEmpty = true := by rw [isEmpty_size]; simp [hx]
  clear hx
  go_enter Tryz.func75, Tryz.ntmps75
  go_wp2
  all_goals
    go_ret
    exact ⟨rfl, (Below.refl _ _).alloc (Nat.le_refl _) _⟩
set_option maxHeartbeats 1000000 in
theorem rcell_lo4 (n : Int) (x : ByteArray) (w : World) (hx : x.size = 0) (hn : n < 1) :
    Calls Tryz.prog 75 #[.agg #[.int .i64 4, .int .i64 n, .string x]] w fun e w' => e = .returned (.int .i64 1) ∧ Below w.heap.size w w' := by
  have h0 : (!x.toList.isEmpty) = false := by rw [isEmpty_size]; simp [hx]
  have h0' : x.toList.isEmpty = true := by rw [isEmpty_size]; simp [hx]
  clear hx
  go_enter Tryz.func75, Tryz.ntmps75
  go_wp2
  all_goals
    go_ret
    exact ⟨rfl, (Below.refl _ _).alloc (Nat.le_refl _) _⟩
set_option maxHeartbeats 1000000 in
theorem rcell_hi4 (n : Int) (x : ByteArray) (w : World) (hx : x.size = 0) (hn : 1099511627776 < n) :
    Calls Tryz.prog 75 #[.agg #[.int .i64 4, .int .i64 n, .string x]] w fun e w' => e = .returned (.int .i64 1) ∧ Below w.heap.size w w' := by
  have h0 : (!x.toList.isEmpty) = false := by rw [isEmpty_size]; simp [hx]
  have h0' : x.toList.isEmpty = true := by rw [isEmpty_size]; simp [hx]
  clear hx
  have h1 : 1 ≤ n := by omega
  go_enter Tryz.func75, Tryz.ntmps75
  go_wp2
  all_goals
    go_ret
    exact ⟨rfl, (Below.refl _ _).alloc (Nat.le_refl _) _⟩
set_option maxHeartbeats 1000000 in
theorem rcell_ok4 (n : Int) (x : ByteArray) (w : World) (hx : x.size = 0) (hn : 1 ≤ n) (hm : n ≤ 1099511627776) :
    Calls Tryz.prog 75 #[.agg #[.int .i64 4, .int .i64 n, .string x]] w fun e w' => e = .returned (.int .i64 0) ∧ Below w.heap.size w w' := by
  have h0 : (!x.toList.isEmpty) = false := by rw [isEmpty_size]; simp [hx]
  have h0' : x.toList.isEmpty = true := by rw [isEmpty_size]; simp [hx]
  clear hx
  go_enter Tryz.func75, Tryz.ntmps75
  go_wp2
  all_goals
    go_ret
    exact ⟨rfl, (Below.refl _ _).alloc (Nat.le_refl _) _⟩
set_option maxHeartbeats 1000000 in
theorem rcell_lo5 (n : Int) (x : ByteArray) (w : World) (hx : x.size = 0) (hn : n < 0) :
    Calls Tryz.prog 75 #[.agg #[.int .i64 5, .int .i64 n, .string x]] w fun e w' => e = .returned (.int .i64 1) ∧ Below w.heap.size w w' := by
  have h0 : (!x.toList.isEmpty) = false := by rw [isEmpty_size]; simp [hx]
  have h0' : x.toList.isEmpty = true := by rw [isEmpty_size]; simp [hx]
  clear hx
  go_enter Tryz.func75, Tryz.ntmps75
  go_wp2
  all_goals
    go_ret
    exact ⟨rfl, (Below.refl _ _).alloc (Nat.le_refl _) _⟩
set_option maxHeartbeats 1000000 in
theorem rcell_hi5 (n : Int) (x : ByteArray) (w : World) (hx : x.size = 0) (hn : 255 < n) :
    Calls Tryz.prog 75 #[.agg #[.int .i64 5, .int .i64 n, .string x]] w fun e w' => e = .returned (.int .i64 1) ∧ Below w.heap.size w w' := by
  have h0 : (!x.toList.isEmpty) = false := by rw [isEmpty_size]; simp [hx]
  have h0' : x.toList.isEmpty = true := by rw [isEmpty_size]; simp [hx]
  clear hx
  have h1 : 0 ≤ n := by omega
  go_enter Tryz.func75, Tryz.ntmps75
  go_wp2
  all_goals
    go_ret
    exact ⟨rfl, (Below.refl _ _).alloc (Nat.le_refl _) _⟩
set_option maxHeartbeats 1000000 in
theorem rcell_ok5 (n : Int) (x : ByteArray) (w : World) (hx : x.size = 0) (hn : 0 ≤ n) (hm : n ≤ 255) :
    Calls Tryz.prog 75 #[.agg #[.int .i64 5, .int .i64 n, .string x]] w fun e w' => e = .returned (.int .i64 0) ∧ Below w.heap.size w w' := by
  have h0 : (!x.toList.isEmpty) = false := by rw [isEmpty_size]; simp [hx]
  have h0' : x.toList.isEmpty = true := by rw [isEmpty_size]; simp [hx]
  clear hx
  go_enter Tryz.func75, Tryz.ntmps75
  go_wp2
  all_goals
    go_ret
    exact ⟨rfl, (Below.refl _ _).alloc (Nat.le_refl _) _⟩
set_option maxHeartbeats 1000000 in
theorem rcell_big8 (n : Int) (x : ByteArray) (w : World) (hn : n = 0) (hx : 1024 < x.size) (hs : x.size ≤ 140737488355328) :
    Calls Tryz.prog 75 #[.agg #[.int .i64 8, .int .i64 n, .string x]] w fun e w' => e = .returned (.int .i64 4) ∧ Below w.heap.size w w' := by
  subst hn
  go_enter Tryz.func75, Tryz.ntmps75
  go_wp2
  all_goals
    go_ret
    exact ⟨rfl, (Below.refl _ _).alloc (Nat.le_refl _) _⟩
set_option maxHeartbeats 1000000 in
theorem rcell_ok8 (n : Int) (x : ByteArray) (w : World) (hn : n = 0) (hx : x.size ≤ 1024) :
    Calls Tryz.prog 75 #[.agg #[.int .i64 8, .int .i64 n, .string x]] w fun e w' => e = .returned (.int .i64 0) ∧ Below w.heap.size w w' := by
  subst hn
  go_enter Tryz.func75, Tryz.ntmps75
  go_wp2
  all_goals
    go_ret
    exact ⟨rfl, (Below.refl _ _).alloc (Nat.le_refl _) _⟩
set_option maxHeartbeats 1000000 in
theorem rcell_big2 (n : Int) (x : ByteArray) (w : World) (hn : n = 0) (hx : 255 < x.size) (hs : x.size ≤ 140737488355328) :
    Calls Tryz.prog 75 #[.agg #[.int .i64 2, .int .i64 n, .string x]] w fun e w' => e = .returned (.int .i64 20) ∧ Below w.heap.size w w' := by
  subst hn
  go_enter Tryz.func75, Tryz.ntmps75
  go_wp2
  all_goals
    go_ret
    exact ⟨rfl, (Below.refl _ _).alloc (Nat.le_refl _) _⟩
set_option maxHeartbeats 1000000 in
theorem rcell_bad2 (n : Int) (x : ByteArray) (w : World) (hn : n = 0) (hx : x.size ≤ 255) (hsp : spelled x = false) (ht : Tabs w) :
    Calls Tryz.prog 75 #[.agg #[.int .i64 2, .int .i64 n, .string x]] w fun e w' => e = .returned (.int .i64 20) ∧ Below w.heap.size w w' := by
  subst hn
  have HS := Lib.hid hsp; clear hsp
  have HT := Lib.hid ht; clear ht
  go_enter Tryz.func75, Tryz.ntmps75
  go_wp2_with fail
  refine (utf8_calls x _ _ (by omega) HS.out).mono ?_
  rintro e w1 ⟨rfl, rfl⟩
  go_wp2
  go_ret
  exact ⟨rfl, (Below.refl _ _).alloc (Nat.le_refl _) _⟩
set_option maxHeartbeats 1000000 in
theorem rcell_ok2 (n : Int) (x : ByteArray) (w : World) (hn : n = 0) (hx : x.size ≤ 255) (hsp : spelled x = true) (ht : Tabs w) :
    Calls Tryz.prog 75 #[.agg #[.int .i64 2, .int .i64 n, .string x]] w fun e w' => e = .returned (.int .i64 0) ∧ Below w.heap.size w w' := by
  subst hn
  have HS := Lib.hid hsp; clear hsp
  have HT := Lib.hid ht; clear ht
  go_enter Tryz.func75, Tryz.ntmps75
  go_wp2_with fail
  refine (utf8_calls x _ _ (by omega) HS.out).mono ?_
  rintro e w1 ⟨rfl, rfl⟩
  go_wp2
  go_ret
  exact ⟨rfl, (Below.refl _ _).alloc (Nat.le_refl _) _⟩

/-- The reference's Cell: what is wrong of a cell. -/
theorem rcell_calls (c : Cl) (v : Int) (w : World) (hs : c.text.size ≤ 140737488355328) (ht : Tabs w) (hv : cellE c = v) :
    Calls Tryz.prog 75 #[.agg #[.int .i64 c.kind, .int .i64 c.n, .string c.text]] w fun e w' => e = .returned (.int .i64 v) ∧ Below w.heap.size w w' := by
  obtain ⟨k, n, x⟩ := c
  simp only at hs ⊢
  subst hv
  have go : ∀ u : Int, cellV k n x.size (spelled x) = u → (Calls Tryz.prog 75 #[.agg #[.int .i64 k, .int .i64 n, .string x]] w fun e w' => e = .returned (.int .i64 u) ∧ Below w.heap.size w w') →
      Calls Tryz.prog 75 #[.agg #[.int .i64 k, .int .i64 n, .string x]] w fun e w' => e = .returned (.int .i64 (cellE ⟨k, n, x⟩)) ∧ Below w.heap.size w w' := by
    intro u hu h
    rw [show cellE ⟨k, n, x⟩ = cellV k n x.size (spelled x) from rfl, hu]; exact h
  by_cases hlo : k < 1
  · exact go 3 (by simp only [cellV]; rw [if_pos (.inl hlo)]) (rcell_lo k n x w hlo)
  by_cases hhi : 8 < k
  · exact go 3 (by simp only [cellV]; rw [if_pos (.inr hhi)]) (rcell_hi k n x w hhi)
  have hk : k = 1 ∨ k = 2 ∨ k = 3 ∨ k = 4 ∨ k = 5 ∨ k = 6 ∨ k = 7 ∨ k = 8 := by omega
  have key : ∀ (z : Nat) (sp : Bool), x.size = z → spelled x = sp → True := fun _ _ _ _ => trivial
  rcases hk with rfl | rfl | rfl | rfl | rfl | rfl | rfl | rfl
  · by_cases hx : x.size = 0
    · exact go 0 (by simp only [hx]; simp [cellV]) (rcell_ok1 n x w hx)
    · exact go 3 (cellV_text _ _ _ _ (by omega) (by omega) (by omega) hx) (rcell_t1 n x w hx)
  · by_cases hn : n = 0
    · rcases Nat.lt_or_ge 255 x.size with h1 | h1
      · exact go 20 (by rw [hn, cellV_atom]; rw [if_pos (.inl h1)]) (rcell_big2 n x w hn h1 hs)
      · cases hsp : spelled x with
        | true => exact go 0 (by rw [hn, cellV_atom, hsp, if_neg (by simp; omega)]) (rcell_ok2 n x w hn h1 hsp ht)
        | false => exact go 20 (by rw [hn, cellV_atom, hsp, if_pos (.inr rfl)]) (rcell_bad2 n x w hn h1 hsp ht)
    · exact go 3 (by simp [cellV, hn]) (rcell_n2 n x w hn)
  · by_cases hx : x.size = 0
    · by_cases h1 : n < 1
      · exact go 1 (by simp only [hx]; simp [cellV, h1]) (rcell_lo3 n x w hx h1)
      · by_cases h2 : 281474976710656 < n
        · exact go 1 (by simp only [hx]; simp [cellV, h2]) (rcell_hi3 n x w hx h2)
        · exact go 0 (by simp only [hx]; simp [cellV, h1, h2]) (rcell_ok3 n x w hx (by omega) (by omega))
    · exact go 3 (cellV_text _ _ _ _ (by omega) (by omega) (by omega) hx) (rcell_t3 n x w hx)
  · by_cases hx : x.size = 0
    · by_cases h1 : n < 1
      · exact go 1 (by simp only [hx]; simp [cellV, h1]) (rcell_lo4 n x w hx h1)
      · by_cases h2 : 1099511627776 < n
        · exact go 1 (by simp only [hx]; simp [cellV, h2]) (rcell_hi4 n x w hx h2)
        · exact go 0 (by simp only [hx]; simp [cellV, h1, h2]) (rcell_ok4 n x w hx (by omega) (by omega))
    · exact go 3 (cellV_text _ _ _ _ (by omega) (by omega) (by omega) hx) (rcell_t4 n x w hx)
  · by_cases hx : x.size = 0
    · by_cases h1 : n < 0
      · exact go 1 (by simp only [hx]; simp [cellV, h1]) (rcell_lo5 n x w hx h1)
      · by_cases h2 : 255 < n
        · exact go 1 (by simp only [hx]; simp [cellV, h2]) (rcell_hi5 n x w hx h2)
        · exact go 0 (by simp only [hx]; simp [cellV, h1, h2]) (rcell_ok5 n x w hx (by omega) (by omega))
    · exact go 3 (cellV_text _ _ _ _ (by omega) (by omega) (by omega) hx) (rcell_t5 n x w hx)
  · by_cases hx : x.size = 0
    · by_cases hn : n = 0
      · exact go 0 (by simp only [hx, hn]; simp [cellV]) (rcell_ok6 n x w hx hn)
      · exact go 3 (by simp only [hx]; simp [cellV, hn]) (rcell_n6 n x w hx hn)
    · exact go 3 (cellV_text _ _ _ _ (by omega) (by omega) (by omega) hx) (rcell_t6 n x w hx)
  · by_cases hx : x.size = 0
    · by_cases hn : n = 0
      · exact go 0 (by simp only [hx, hn]; simp [cellV]) (rcell_ok7 n x w hx hn)
      · exact go 3 (by simp only [hx]; simp [cellV, hn]) (rcell_n7 n x w hx hn)
    · exact go 3 (cellV_text _ _ _ _ (by omega) (by omega) (by omega) hx) (rcell_t7 n x w hx)
  · by_cases hn : n = 0
    · rcases Nat.lt_or_ge 1024 x.size with h1 | h1
      · exact go 4 (by rw [hn]; generalize x.size = z at *; simp [cellV, h1]) (rcell_big8 n x w hn h1 hs)
      · exact go 0 (by rw [hn]; generalize x.size = z at *; simp [cellV, h1]) (rcell_ok8 n x w hn h1)
    · exact go 3 (by simp [cellV, hn]) (rcell_n8 n x w hn)
end Go.Proofs.YtejpdfenejbjdaaGreatDoor

namespace Go.Proofs.YtejpdfenejbjdaaGreatDoor
open Go.RowKit Txt
set_option linter.unusedVariables false
set_option linter.unusedSimpArgs false

theorem rkids_7 (n : Int) (x : ByteArray) (w : World) : Calls Tryz.prog 76 #[.agg #[.int .i64 7, .int .i64 n, .string x]] w fun e w' => e = .returned (.int .i64 2) ∧ Below w.heap.size w w' := by
  go_enter Tryz.func76, Tryz.ntmps76
  go_wp2
  go_ret
  exact ⟨rfl, (Below.refl _ _).alloc (Nat.le_refl _) _⟩
theorem rkids_5 (n : Int) (x : ByteArray) (w : World) (h0 : 0 ≤ n) (h1 : n ≤ 255) : Calls Tryz.prog 76 #[.agg #[.int .i64 5, .int .i64 n, .string x]] w fun e w' => e = .returned (.int .i64 n) ∧ Below w.heap.size w w' := by
  go_enter Tryz.func76, Tryz.ntmps76
  go_wp2
  go_ret
  exact ⟨rfl, (Below.refl _ _).alloc (Nat.le_refl _) _⟩
theorem rkids_other (k n : Int) (x : ByteArray) (w : World) (h7 : (k == 7) = false) (h5 : (k == 5) = false) : Calls Tryz.prog 76 #[.agg #[.int .i64 k, .int .i64 n, .string x]] w fun e w' => e = .returned (.int .i64 0) ∧ Below w.heap.size w w' := by
  go_enter Tryz.func76, Tryz.ntmps76
  go_wp2
  go_ret
  exact ⟨rfl, (Below.refl _ _).alloc (Nat.le_refl _) _⟩
theorem rkids_calls (c : Cl) (w : World) (hc : cellE c = 0) :
    Calls Tryz.prog 76 #[.agg #[.int .i64 c.kind, .int .i64 c.n, .string c.text]] w fun e w' => e = .returned (.int .i64 (kids c : Int)) ∧ Below w.heap.size w w' := by
  obtain ⟨k, n, x⟩ := c
  simp only [kids]
  by_cases h7 : k = 7
  · subst h7
    rw [if_pos rfl]
    exact rkids_7 n x w
  · rw [if_neg h7]
    by_cases h5 : k = 5
    · subst h5
      have hb : 0 ≤ n ∧ n ≤ 255 := by
        simp only [cellE, cellV] at hc
        by_cases h : n < 0 ∨ n > 255
        · exfalso
          simp [h] at hc
          omega
        · omega
      rw [if_pos ⟨rfl, hb.1, hb.2⟩, Int.toNat_of_nonneg hb.1]
      exact rkids_5 n x w hb.1 hb.2
    · rw [if_neg (fun h => h5 h.1)]
      exact rkids_other k n x w (beq_eq_false_iff_ne.2 h7) (beq_eq_false_iff_ne.2 h5)

set_option maxHeartbeats 1000000 in
theorem rright_calls (x : Value) (t : List Cl) (v : Int) (kk : Nat) (w : World) (hx : SeesT w x t) (hto : TextsOk t) (ht : Tabs w) (hr : right t = (v, kk)) :
    Calls Tryz.prog 44 #[x] w fun e w' => e = .returned (.tuple #[.int .i64 v, .int .i64 (kk : Int)]) ∧ Below w.heap.size w w' := by
  have HX := Lib.hid hx
  obtain ⟨A, cap, rfl, hcap, hA⟩ := hx
  clear hA
  by_cases hz : t.length = 0
  · have hr' : v = 5 ∧ kk = 0 := by rw [right, if_pos hz] at hr; simpa [eq_comm] using hr
    obtain ⟨rfl, rfl⟩ := hr'
    have h0 : ((t.length : Int) == 0) = true := by rw [hz]; rfl
    clear hz hr
    go_enter Tryz.func44, Tryz.ntmps44
    go_wp2
    go_ret2
    exact ⟨rfl, Below.refl _ _⟩
  have h0 : ((t.length : Int) == 0) = false := by rw [beq_eq_false_iff_ne]; omega
  by_cases hbig : 1024 < t.length
  · have hr' : v = 7 ∧ kk = 0 := by rw [right, if_neg hz, if_pos hbig] at hr; simpa [eq_comm] using hr
    obtain ⟨rfl, rfl⟩ := hr'
    clear hz hr
    go_enter Tryz.func44, Tryz.ntmps44
    go_wp2
    go_ret2
    exact ⟨rfl, Below.refl _ _⟩
  have hr' : rightF t 0 1 = (v, kk) := by rwa [right, if_neg hz, if_neg hbig] at hr
  have HR := Lib.hid hr'; clear hr' hr hz
  have HT := Lib.hid ht; clear ht
  have HTO := Lib.hid hto; clear hto
  have hle : t.length ≤ 1024 := by omega
  clear hbig
  go_enter Tryz.func44, Tryz.ntmps44
  go_wp2_with fail
  go_loopw [4, 5] (fun m i wr => ∃ k want : Nat, k ≤ t.length ∧ want ≤ 1 + 255 * k ∧ i = .int .i64 k ∧ m = .int .i64 want ∧ rightF (t.drop k) k want = (v, kk) ∧ Below w.heap.size w wr) (fun _ i _ => t.length - (intOf i).toNat)
  case atStart => exact ⟨0, 1, Nat.zero_le _, by omega, rfl, rfl, HR.out, Below.refl _ _⟩
  case round =>
    obtain ⟨k, want, hk, hwb, rfl, rfl, hf, hb⟩ := hrel
    have HF := Lib.hid hf; clear hf
    have HB := Lib.hid hb; clear hb
    by_cases hlt : k < t.length
    · obtain ⟨ad, cap', hxe, _, hadl, c0, c1, c2⟩ := HX.out.at k hlt
      have hAe : A = some ad := by injection hxe
      subst hAe
      clear hxe
      have c0' : wr.cell? (ad.add (k * 3)) = some (.int .i64 t[k].kind) := (HB.out.cell (by rw [add_block]; exact hadl)).trans c0
      have c1' := (HB.out.cell (p := ⟨(ad.add (k * 3)).block, (ad.add (k * 3)).off + 1, none⟩) (by simp only; rw [add_block]; exact hadl)).trans c1
      have c2' := (HB.out.cell (p := ⟨(ad.add (k * 3)).block, (ad.add (k * 3)).off + 2, none⟩) (by simp only; rw [add_block]; exact hadl)).trans c2
      clear c0 c1 c2
      have hadr : (ad.add (k * 3)).block < wr.heap.size := by rw [add_block]; have := HB.out.size; omega
      have htx : t[k].text.size ≤ 140737488355328 := HTO.out _ (List.getElem_mem _)
      have hF := HF.out
      rw [List.drop_eq_getElem_cons hlt, rightF] at hF
      have HTw := Lib.hid (HT.out.below HB.out)
      generalize t[k] = c at *
      by_cases hce : cellE c = 0
      · rw [if_neg (by simpa using hce)] at hF
        by_cases hw0 : want = 0
        · rw [if_pos hw0] at hF
          have hF2 : v = 63 ∧ kk = k := by simpa [eq_comm] using hF
          obtain ⟨rfl, rfl⟩ := hF2
          have hw1 : ((want : Int) == 0) = true := by rw [hw0]; rfl
          clear hF hw0
          have HCE := Lib.hid hce; clear hce
          go_wp2_with fail
          refine (rcell_calls c 0 _ htx HTw.out HCE.out).mono ?_
          rintro e w1 ⟨rfl, hb1⟩
          have HB1 := Lib.hid (HB.out.trans (hb1.mono HB.out.size)); clear hb1
          go_wp2
          go_ret2
          exact ⟨rfl, HB1.out⟩
        · rw [if_neg hw0] at hF
          have HF2 := Lib.hid hF; clear hF
          have hw1 : ((want : Int) == 0) = false := by rw [beq_eq_false_iff_ne]; omega
          have HCE := Lib.hid hce; clear hce
          have hkid := kids_le c
          go_wp2_with fail
          refine (rcell_calls c 0 _ htx HTw.out HCE.out).mono ?_
          rintro e w1 ⟨rfl, hb1⟩
          have d0 := (hb1.cell hadr).trans c0'
          have d1 := (hb1.cell (p := ⟨(ad.add (k * 3)).block, (ad.add (k * 3)).off + 1, none⟩) hadr).trans c1'
          have d2 := (hb1.cell (p := ⟨(ad.add (k * 3)).block, (ad.add (k * 3)).off + 2, none⟩) hadr).trans c2'
          have HB1 := Lib.hid (HB.out.trans (hb1.mono HB.out.size)); clear hb1
          go_wp2_with fail
          refine (rkids_calls c _ HCE.out).mono ?_
          rintro e w2 ⟨rfl, hb2⟩
          have HB2 := Lib.hid (HB1.out.trans (hb2.mono HB1.out.size)); clear hb2
          generalize hkd : kids c = kd at *
          go_wp2
          go_roundw
          case rel => exact ⟨k + 1, want - 1 + kd, by omega, by omega, by go_num, by (refine congrArg _ ?_; omega), HF2.out, HB2.out⟩
          case measure => simp [intOf]; omega
      · rw [if_pos (by simpa using hce)] at hF
        have hF2 : v = cellE c ∧ kk = k := by simpa [eq_comm] using hF
        obtain ⟨rfl, rfl⟩ := hF2
        have hne : (cellE c == 0) = false := beq_eq_false_iff_ne.2 hce
        have hne2 : (cellE c != 0) = true := by simpa using hce
        clear hF hce
        go_wp2_with fail
        refine (rcell_calls c _ _ htx HTw.out rfl).mono ?_
        rintro e w1 ⟨rfl, hb1⟩
        have HB1 := Lib.hid (HB.out.trans (hb1.mono HB.out.size)); clear hb1
        go_wp2
        go_ret2
        exact ⟨rfl, HB1.out⟩
    · obtain rfl : k = t.length := by omega
      have hF := HF.out
      rw [List.drop_length, rightF] at hF
      by_cases hw0 : want = 0
      · subst hw0
        rw [if_neg (by omega)] at hF
        have hF2 : v = 0 ∧ kk = 0 := by simpa [eq_comm] using hF
        obtain ⟨rfl, rfl⟩ := hF2
        clear hF
        go_wp2
        go_ret2
        exact ⟨rfl, HB.out⟩
      · rw [if_pos (by omega)] at hF
        have hF2 : v = 62 ∧ kk = t.length := by simpa [eq_comm] using hF
        obtain ⟨rfl, rfl⟩ := hF2
        clear hF
        have hw1 : 0 < want := by omega
        go_wp2
        go_ret2
        exact ⟨rfl, HB.out⟩
end Go.Proofs.YtejpdfenejbjdaaGreatDoor
