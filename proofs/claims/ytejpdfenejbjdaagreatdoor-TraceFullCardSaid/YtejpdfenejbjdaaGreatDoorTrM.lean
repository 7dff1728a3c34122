/- Walks: trace: a log that is nil. -/
import Derived.Test.YtejpdfenejbjdaaGreatDoorTrL
import Derived.RangeFuncNested
import Derived.RangeFuncBound
import Derived.RangeFuncCalls
import Derived.RangeFuncLeaves
import Derived.Shelf.Abstract
import Derived.Shelf.RegionOpen
import Derived.OwnWalkIn
import Derived.TacticsInMore
import Derived.LoopNIn
import Derived.LoopIn
namespace Go.Proofs.YtejpdfenejbjdaaGreatDoor
open Go.RowKit Txt
set_option linter.unusedVariables false
set_option linter.unusedSimpArgs false
attribute [local go_sem] Oper.semAt_some

set_option maxHeartbeats 2000000 in
set_option maxRecDepth 100000 in
theorem of1_nil (n : Nat) (bl bp bk : Nat) (Kp : World → World → Prop) (w : World) (hl : w.cell? ⟨bl, 0, none⟩ = some (.pointer none)) :
    SeqStopsK (α := Empty) Fence.wide n Tryz.prog 101 #[.pointer (some ⟨bl, 0, none⟩), .pointer (some ⟨bp, 0, none⟩), .pointer (some ⟨bk, 0, none⟩)] (fun x => x.elim) Kp (fun _ => True) (fun _ => False) 0 w := by
  intro l J Jx W hW hJ hJx hY h0
  refine callsIn_wide.2 ?_
  have hc : W.cell? ⟨bl, 0, none⟩ = some (.pointer none) := (hW.cell (cell_lt hl)).trans hl
  clear hY hJ hJx hW hl
  have H0 := Lib.hid h0; clear h0
  show Calls Tryz.prog 101 #[.func (.yield l) #[] #[], .pointer (some ⟨bl, 0, none⟩), .pointer (some ⟨bp, 0, none⟩), .pointer (some ⟨bk, 0, none⟩)] W _
  go_enter Tryz.func101, Tryz.ntmps101
  go_wp2
  exact bodyPost_ret (results_none rfl _ _ _) rfl ⟨⟨_, rfl⟩, .inl ⟨[], trivial, H0.out⟩⟩

/-- A slice value reads as a list of int. -/
def SeesI (w : World) (x : Value) (ks : List Int) : Prop :=
  ∃ A cap, x = .slice A ks.length cap ∧ ks.length ≤ cap ∧ (ks ≠ [] → ∃ b off, A = some ⟨b, off, none⟩ ∧ ∀ j u, ks[j]? = some u → w.cell? ⟨b, off + j, none⟩ = some (.int .i64 u))
theorem SeesI.below {w w' : World} {x : Value} {ks : List Int} (h : SeesI w x ks) (hb : Below w.heap.size w w') : SeesI w' x ks := by
  obtain ⟨A, cap, rfl, h1, h2⟩ := h
  refine ⟨A, cap, rfl, h1, fun hne => ?_⟩
  obtain ⟨b, off, rfl, h3⟩ := h2 hne
  exact ⟨b, off, rfl, fun j u hj => (hb.cell (cell_lt (h3 j u hj))).trans (h3 j u hj)⟩
theorem seesI_own {w : World} {B n : Nat} {v : Value} {ks : List Int} (hn : n = ks.length) (h : w.ownsRow B 3 1 v n (ks.map (Value.int .i64))) : SeesI w v ks := by
  subst hn
  obtain ⟨-, ⟨rfl, h0⟩ | ⟨g, cap, cur, rfl, -, hb, hc, -, hs, ht⟩⟩ := h
  · have : ks = [] := List.length_eq_zero_iff.1 h0
    subst this
    exact ⟨none, 0, rfl, Nat.le_refl _, fun h => absurd rfl h⟩
  · refine ⟨some ⟨g, 0, none⟩, cap, rfl, hc, fun _ => ⟨g, 0, rfl, fun j u hj => ?_⟩⟩
    have h1 : (ks.map (Value.int .i64))[j]? = some (.int .i64 u) := by rw [List.getElem?_map, hj]; rfl
    rw [← ht, List.getElem?_take] at h1
    split at h1
    · simp only [World.cell?, hb]
      simpa using h1
    · cases h1
theorem clone_calls (x : Value) (ks : List Int) (w : World) (h : SeesI w x ks) (hbig : ks.length * 8 ≤ 140737488355328) :
    Calls Tryz.prog 100 #[x] w fun e w' => ∃ A c, e = .returned (.slice A ks.length c) ∧ SeesI w' (.slice A ks.length c) ks ∧ Below w.heap.size w w' ∧ ∀ a, A = some a → w.heap.size ≤ a.block := by
  obtain ⟨A, cap, rfl, h1, h2⟩ := h
  cases A with
  | none =>
    have : ks = [] := Decidable.byContradiction fun hne => by obtain ⟨b, off, he, -⟩ := h2 hne; cases he
    subst this
    exact (Tryz.slices_Clone_int_nil _ _ w).mono fun e w' ⟨he, hw⟩ => ⟨none, 0, he, ⟨none, 0, rfl, Nat.le_refl _, fun h => absurd rfl h⟩, by rw [hw]; exact Below.refl _ _, fun a h => (by cases h)⟩
  | some a =>
    cases ks with
    | nil =>
      refine (Tryz.slices_Clone_int_zero a cap w).mono fun e w' ⟨v', he, ho, _, hb⟩ => ?_
      have hs := seesI_own (ks := []) rfl ho
      obtain ⟨A', c', rfl, h3, h4⟩ := hs
      exact ⟨A', c', he, ⟨A', c', rfl, h3, h4⟩, hb, fun a h => (World.ownsRow.lt ho _ (by rw [h]; rfl)).1⟩
    | cons k ks =>
      obtain ⟨b, off, he, h3⟩ := h2 (by simp)
      obtain rfl : a = ⟨b, off, none⟩ := Option.some.inj he
      refine (Tryz.slices_Clone_int b off (k :: ks).length cap (k :: ks) w (Nat.le_refl _) hbig (fun j hj => h3 j _ ?_)).mono fun e w' ⟨v', he, ho, _, hb⟩ => ?_
      · rw [List.getD_eq_getElem?_getD, List.getElem?_eq_getElem hj]; rfl
      · rw [List.take_of_length_le (Nat.le_refl _)] at ho
        have hs := seesI_own (ks := k :: ks) rfl ho
        obtain ⟨A', c', rfl, h3, h4⟩ := hs
        exact ⟨A', c', he, ⟨A', c', rfl, h3, h4⟩, hb, fun a h => (World.ownsRow.lt ho _ (by rw [h]; rfl)).1⟩
theorem seesI_set {w : World} {x v0 : Value} {ks : List Int} {g : Nat} {T : TypeId} (h : SeesI w x ks) (hg : w.heap[g]? = some (.cells #[v0] T (0, 0))) (v : Value) (hv : ∀ n, v0 ≠ .int .i64 n) : SeesI (w.setCell ⟨g, 0, none⟩ v) x ks := by
  obtain ⟨A, cap, rfl, h1, h2⟩ := h
  refine ⟨A, cap, rfl, h1, fun hne => ?_⟩
  obtain ⟨b, off, rfl, h3⟩ := h2 hne
  refine ⟨b, off, rfl, fun j u hj => ?_⟩
  have h4 := h3 j u hj
  refine (World.cell?_of_block (Below.heap_setCell _ _ _ _ ?_)).trans h4
  show b ≠ g
  rintro rfl
  simp only [World.cell?, hg] at h4
  cases hoj : off + j with
  | zero => rw [hoj] at h4; simp at h4; exact hv u h4
  | succ m => rw [hoj] at h4; simp at h4
/-- What comes of Of: a function that has captured the log, the pid, the kinds. -/
structure OfOut (w : World) (p : Option Addr) (pid : Int) (ks : List Int) (bl : Nat) (w' : World) : Prop where
  lt : w.heap.size ≤ bl
  cl : w'.cell? ⟨bl, 0, none⟩ = some (.pointer p)
  cp : w'.cell? ⟨bl + 1, 0, none⟩ = some (.int .i64 pid)
  ck : ∃ A c, w'.cell? ⟨bl + 2, 0, none⟩ = some (.slice A ks.length c) ∧ SeesI w' (.slice A ks.length c) ks ∧ ∀ a, A = some a → bl ≤ a.block
  be : Below w.heap.size w w'
def ofV (bl : Nat) : Value := .func (.func 101) #[] #[.pointer (some ⟨bl, 0, none⟩), .pointer (some ⟨bl + 1, 0, none⟩), .pointer (some ⟨bl + 2, 0, none⟩)]
set_option maxHeartbeats 2000000 in
set_option maxRecDepth 100000 in
theorem of_calls (p : Option Addr) (pid : Int) (x : Value) (ks : List Int) (w : World) (hk : SeesI w x ks) (hbig : ks.length * 8 ≤ 140737488355328) :
    Calls Tryz.prog 69 #[.pointer p, .int .i64 pid, x] w fun e w' => e = .returned (ofV w.heap.size) ∧ OfOut w p pid ks w.heap.size w' := by
  have hmf : ∀ (fn : Fn) (first cap : Array Value) (w : World), (Instr.makeFunc fn first cap).run Tryz.prog w = .ok (.func fn first cap) w := fun _ _ _ _ => rfl
  have HK := Lib.hid hk
  obtain ⟨A, cap, rfl, -, -⟩ := hk
  have hb3 : Below w.heap.size w (((w.alloc (.cells #[.pointer p] 44)).alloc (.cells #[.int .i64 pid] 2)).alloc (.cells #[.slice A ks.length cap] 50)) := (((Below.refl _ _).alloc (Nat.le_refl _) _).alloc (by simp) _).alloc (by simp; omega) _
  have HB3 := Lib.hid hb3; clear hb3
  have hc := fun W h => clone_calls (.slice A ks.length cap) ks W h hbig
  have HC := Lib.hid hc; clear hc
  unfold ofV
  go_enter Tryz.func69, Tryz.ntmps69
  go_wp2_with fail
  obtain ⟨h0, h1, h2⟩ := heap3 w (.cells #[.pointer p] 44) (.cells #[.int .i64 pid] 2) (.cells #[.slice A ks.length cap] 50)
  refine (HC.out _ (HK.out.below HB3.out)).mono ?_
  rintro e w4 ⟨A', c', rfl, hs, hb, hkb⟩
  have HKB := Lib.hid hkb; clear hkb
  have HS := Lib.hid hs; clear hs
  have HB4 := Lib.hid (HB3.out.trans (hb.mono HB3.out.size))
  have k0 := (hb.block w.heap.size (by simp; omega)).trans h0
  have k1 := (hb.block (w.heap.size + 1) (by simp)).trans h1
  have k2 := (hb.block (w.heap.size + 1 + 1) (by simp)).trans h2
  have hsz : w.heap.size + 1 + 1 < w4.heap.size := by have := hb.size; simp at this; omega
  clear h0 h1 h2 hb
  have q2 : w4.cell? ⟨w.heap.size + 1 + 1, 0, none⟩ = some (.slice A ks.length cap) := by simp only [World.cell?, k2]; rfl
  have f2 : w4.frozen? ⟨w.heap.size + 1 + 1, 0, none⟩ = false := by simp only [World.frozen?, k2]; rfl
  have K0 := Lib.hid k0; have K1 := Lib.hid k1; have K2 := Lib.hid k2; clear k0 k1 k2
  go_wp2
  go_ret
  refine ⟨rfl, Nat.le_refl _, ?_, ?_, ⟨A', c', ?_, ?_, fun a h => by have := HKB.out a h; simp at this; omega⟩, HB4.out.setCell (p := ⟨w.heap.size + 1 + 1, 0, none⟩) (by show w.heap.size ≤ w.heap.size + 1 + 1; omega) _⟩
  · refine (World.cell?_of_block (Below.heap_setCell _ _ _ _ (by show w.heap.size ≠ w.heap.size + 1 + 1; omega))).trans ?_
    simp only [World.cell?, K0.out]; rfl
  · refine (World.cell?_of_block (Below.heap_setCell _ _ _ _ (by show w.heap.size + 1 ≠ w.heap.size + 1 + 1; omega))).trans ?_
    simp only [World.cell?, K1.out]; rfl
  · have := one_setCell (u := .slice A' ks.length c') K2.out
    show World.cell? _ ⟨w.heap.size + 1 + 1, 0, none⟩ = _
    simp only [World.cell?, this]; rfl
  · exact seesI_set HS.out K2.out _ (fun n h => by cases h)
theorem all_calls (p : Option Addr) (w : World) :
    Calls Tryz.prog 66 #[.pointer p] w fun e w' => e = .returned (ofV w.heap.size) ∧ OfOut w p 0 [] w.heap.size w' := by
  have hc := of_calls p 0 (.slice none 0 0) [] w ⟨none, 0, rfl, Nat.le_refl _, fun h => absurd rfl h⟩ (by simp)
  have HC := Lib.hid hc; clear hc
  go_enter Tryz.func66, Tryz.ntmps66
  go_wp2_with fail
  refine (HC.out).mono ?_
  rintro e w1 ⟨rfl, ho⟩
  have HO := Lib.hid ho; clear ho
  unfold ofV
  go_wp2
  go_ret
  exact ⟨rfl, HO.out⟩
set_option maxHeartbeats 2000000 in
set_option maxRecDepth 100000 in
theorem every_nil (most : Int) (w : World) : Calls Tryz.prog 31 #[.pointer none, .int .i64 most] w fun e w' => e = .returned (.slice none 0 0) ∧ Below w.heap.size w w' := by
  refine (callsIn_wide (n := 4)).1 ?_
  have hro : Fence.wide.round = none := rfl
  refine callsIn_of_wp_marks Tryz.func31 rfl trivial ?_ hro
  simp only [Tryz.ntmps31, List.size_toArray, List.length_cons, List.length_nil, Nat.reduceAdd, Nat.reduceSub, Array.replicate_succ, Array.replicate_zero, List.push_toArray, List.append_toArray, List.nil_append, List.cons_append]
  have hfn : ∀ (fn : Fn) (first cap : Array Value) (w : World), (binOp BinOp.eql 99 (.func fn first cap) .nilFunc).run Tryz.prog w = .ok (.bool false) w := fun _ _ _ _ => by kernel_rfl
  gi_wp2
  refine ⟨trivial, ?_⟩
  refine (callsIn_wide.2 (all_calls none _)).mono ?_
  rintro e w2 ⟨rfl, ho⟩
  have HB2 := Lib.hid ((((Below.refl w.heap.size w).alloc (Nat.le_refl _) (.cells #[.int .i64 most] 3)).alloc (by simp) (.cells #[.slice none 0 0] 25)).trans (ho.be.mono (by simp; omega)))
  have k1 := (ho.be.block (w.heap.size + 1) (by simp)).trans (show _ = some (Obj.cells #[.slice none 0 0] 25 (0, 0)) from by
    have := heap_alloc_new (w.alloc (.cells #[.int .i64 most] 3)) (.cells #[.slice none 0 0] 25)
    rw [World.size_alloc] at this
    exact this)
  have hsz : w.heap.size + 1 < w2.heap.size := by have := ho.be.size; simp at this; omega
  have c1 : w2.cell? ⟨w.heap.size + 1, 0, none⟩ = some (.slice none 0 0) := by simp only [World.cell?, k1]; rfl
  have hcl := ho.cl
  simp only [World.size_alloc] at hcl
  have HO := Lib.hid hcl; clear ho k1 hcl
  unfold ofV
  gi_wp2
  refine wpIn_rangeFunc_ownH (α := Empty) (n := 4) hro (by decide) (gf := 101) rfl trivial (enters_of Tryz.func101 (by kernel_rfl) rfl)
    (of1_nil _ _ _ _ (fun _ _ => True) w2 HO.out) (fun _ _ => trivial) (fun _ _ _ _ _ _ _ _ => trivial) (Below.refl _ _) (fun x => x.elim)
    (fun pre W => W.cell? ⟨w.heap.size + 1, 0, none⟩ = some (.slice none 0 0) ∧ Below w.heap.size w W) (fun _ _ _ => False)
    (OwnFrom.and (Own.from (fun s A B row hs hg hr => cell_kept hs hg hr) _) (ownFrom_below (Nat.le_refl _) (by omega)))
    (fun _ _ _ _ _ hs _ _ => hs) ⟨c1, HB2.out⟩ (fun x _ _ => x.elim) (fun x => x.elim) ?assign ?body ?done ?stop
  case assign => intro l pre x; exact x.elim
  case body => intro l pre x; exact x.elim
  case stop => intro D c pre W _ _ h; exact h.elim
  case done =>
    rintro D ys W hD - ⟨hc, hB⟩ hK
    gi_wp2
    refine ⟨by simp, .inl ⟨_, _, rfl, run_takeDeferred hK, ?_⟩⟩
    exact ⟨_, results_tmp rfl _ _ _, rfl, hB.trans (belowK_b (w := w) (Nat.le_refl _) W D _ _ (by omega) hK rfl rfl)⟩
end Go.Proofs.YtejpdfenejbjdaaGreatDoor

namespace Go.Proofs.YtejpdfenejbjdaaGreatDoor
open Go.RowKit Txt
set_option linter.unusedVariables false
set_option linter.unusedSimpArgs false
attribute [local go_sem] Oper.semAt_some

theorem ofLaw_nil (pid most : Int) (x : Value) (ks : List Int) (w : World) (hk : SeesI w x ks) (hbig : ks.length * 8 ≤ 140737488355328) : Calls Tryz.prog 36 #[.pointer none, .int .i64 pid, x, .int .i64 most] w fun e w' => e = .returned (.slice none 0 0) ∧ Below w.heap.size w w' := by
  obtain ⟨XA, xc, hx, -, -⟩ := id hk
  subst hx
  have hc := fun W h => of_calls none pid (.slice XA ks.length xc) ks W h hbig
  have HC := Lib.hid hc; clear hc
  have HK := Lib.hid hk; clear hk
  refine (callsIn_wide (n := 4)).1 ?_
  have hro : Fence.wide.round = none := rfl
  refine callsIn_of_wp_marks Tryz.func36 rfl trivial ?_ hro
  simp only [Tryz.ntmps36, List.size_toArray, List.length_cons, List.length_nil, Nat.reduceAdd, Nat.reduceSub, Array.replicate_succ, Array.replicate_zero, List.push_toArray, List.append_toArray, List.nil_append, List.cons_append]
  have hfn : ∀ (fn : Fn) (first cap : Array Value) (w : World), (binOp BinOp.eql 99 (.func fn first cap) .nilFunc).run Tryz.prog w = .ok (.bool false) w := fun _ _ _ _ => by kernel_rfl
  gi_wp2
  refine ⟨trivial, ?_⟩
  refine (callsIn_wide.2 (HC.out _ (HK.out.below (((Below.refl w.heap.size w).alloc (Nat.le_refl _) (.cells #[.int .i64 most] 3)).alloc (by simp) (.cells #[.slice none 0 0] 25))))).mono ?_
  rintro e w2 ⟨rfl, ho⟩
  have HB2 := Lib.hid ((((Below.refl w.heap.size w).alloc (Nat.le_refl _) (.cells #[.int .i64 most] 3)).alloc (by simp) (.cells #[.slice none 0 0] 25)).trans (ho.be.mono (by simp; omega)))
  have k1 := (ho.be.block (w.heap.size + 1) (by simp)).trans (show _ = some (Obj.cells #[.slice none 0 0] 25 (0, 0)) from by
    have := heap_alloc_new (w.alloc (.cells #[.int .i64 most] 3)) (.cells #[.slice none 0 0] 25)
    rw [World.size_alloc] at this
    exact this)
  have hsz : w.heap.size + 1 < w2.heap.size := by have := ho.be.size; simp at this; omega
  have c1 : w2.cell? ⟨w.heap.size + 1, 0, none⟩ = some (.slice none 0 0) := by simp only [World.cell?, k1]; rfl
  have hcl := ho.cl
  simp only [World.size_alloc] at hcl
  have HO := Lib.hid hcl; clear ho k1 hcl
  unfold ofV
  gi_wp2
  refine wpIn_rangeFunc_ownH (α := Empty) (n := 4) hro (by decide) (gf := 101) rfl trivial (enters_of Tryz.func101 (by kernel_rfl) rfl)
    (of1_nil _ _ _ _ (fun _ _ => True) w2 HO.out) (fun _ _ => trivial) (fun _ _ _ _ _ _ _ _ => trivial) (Below.refl _ _) (fun x => x.elim)
    (fun pre W => W.cell? ⟨w.heap.size + 1, 0, none⟩ = some (.slice none 0 0) ∧ Below w.heap.size w W) (fun _ _ _ => False)
    (OwnFrom.and (Own.from (fun s A B row hs hg hr => cell_kept hs hg hr) _) (ownFrom_below (Nat.le_refl _) (by omega)))
    (fun _ _ _ _ _ hs _ _ => hs) ⟨c1, HB2.out⟩ (fun x _ _ => x.elim) (fun x => x.elim) ?assign ?body ?done ?stop
  case assign => intro l pre x; exact x.elim
  case body => intro l pre x; exact x.elim
  case stop => intro D c pre W _ _ h; exact h.elim
  case done =>
    rintro D ys W hD - ⟨hc, hB⟩ hK
    gi_wp2
    refine ⟨by simp, .inl ⟨_, _, rfl, run_takeDeferred hK, ?_⟩⟩
    exact ⟨_, results_tmp rfl _ _ _, rfl, hB.trans (belowK_b (w := w) (Nat.le_refl _) W D _ _ (by omega) hK rfl rfl)⟩

theorem one_int (W : World) (k : Int) : SeesI (W.alloc (.cells #[.int .i64 k] 3)) (.slice (some ⟨W.heap.size, 0, none⟩) 1 1) [k] := by
  refine ⟨_, 1, rfl, Nat.le_refl _, fun _ => ⟨_, 0, rfl, fun j u hj => ?_⟩⟩
  have hb := heap_alloc_new W (.cells #[.int .i64 k] 3)
  simp only [World.cell?, hb]
  cases j with
  | zero => simp at hj; subst hj; rfl
  | succ j => simp at hj
theorem count_nil (k : Int) (w : World) : Calls Tryz.prog 33 #[.pointer none, .int .i64 k] w fun e w' => e = .returned (.int .i64 0) ∧ Below w.heap.size w w' := by
  refine (callsIn_wide (n := 4)).1 ?_
  have hro : Fence.wide.round = none := rfl
  refine callsIn_of_wp_marks Tryz.func33 rfl trivial ?_ hro
  simp only [Tryz.ntmps33, List.size_toArray, List.length_cons, List.length_nil, Nat.reduceAdd, Nat.reduceSub, Array.replicate_succ, Array.replicate_zero, List.push_toArray, List.append_toArray, List.nil_append, List.cons_append]
  gi_wp2
  refine ⟨trivial, ?_⟩
  have hone := one_int (w.alloc (.cells #[.int .i64 0] 3)) k
  rw [World.size_alloc] at hone
  refine (callsIn_wide.2 (of_calls none 0 _ [k] _ hone (by simp))).mono ?_
  clear hone
  rintro e w2 ⟨rfl, ho⟩
  have HB2 := Lib.hid ((((Below.refl w.heap.size w).alloc (Nat.le_refl _) (.cells #[.int .i64 0] 3)).alloc (by simp) (.cells #[.int .i64 k] 3)).trans (ho.be.mono (by simp; omega)))
  have k1 := (ho.be.block w.heap.size (by simp; omega)).trans (show _ = some (Obj.cells #[.int .i64 0] 3 (0, 0)) from (Below.heap_alloc _ _ _ (by simp)).trans (heap_alloc_new w (.cells #[.int .i64 0] 3)))
  have hsz : w.heap.size + 1 < w2.heap.size := by have := ho.be.size; simp at this; omega
  have c1 : w2.cell? ⟨w.heap.size, 0, none⟩ = some (.int .i64 0) := by simp only [World.cell?, k1]; rfl
  have hcl := ho.cl
  simp only [World.size_alloc] at hcl
  have HO := Lib.hid hcl; clear ho k1 hcl
  unfold ofV
  gi_wp2
  refine wpIn_rangeFunc_ownH (α := Empty) (n := 4) hro (by decide) (gf := 101) rfl trivial (enters_of Tryz.func101 (by kernel_rfl) rfl)
    (of1_nil _ _ _ _ (fun _ _ => True) w2 HO.out) (fun _ _ => trivial) (fun _ _ _ _ _ _ _ _ => trivial) (Below.refl _ _) (fun x => x.elim)
    (fun pre W => W.cell? ⟨w.heap.size, 0, none⟩ = some (.int .i64 0) ∧ Below w.heap.size w W) (fun _ _ _ => False)
    (OwnFrom.and (Own.from (fun s A B row hs hg hr => cell_kept hs hg hr) _) (ownFrom_below (Nat.le_refl _) (by omega)))
    (fun _ _ _ _ _ hs _ _ => hs) ⟨c1, HB2.out⟩ (fun x _ _ => x.elim) (fun x => x.elim) ?assign ?body ?done ?stop
  case assign => intro l pre x; exact x.elim
  case body => intro l pre x; exact x.elim
  case stop => intro D c pre W _ _ h; exact h.elim
  case done =>
    rintro D ys W hD - ⟨hc, hB⟩ hK
    gi_wp2
    refine ⟨by simp, .inl ⟨_, _, rfl, run_takeDeferred hK, ?_⟩⟩
    exact ⟨_, results_tmp rfl _ _ _, rfl, hB.trans (belowK_b (w := w) (Nat.le_refl _) W D _ _ (by omega) hK rfl rfl)⟩
theorem kept_nil (w : World) : Calls Tryz.prog 67 #[.pointer none] w fun e w' => e = .returned (.pointer none) ∧ w' = w := by
  go_enter Tryz.func67, Tryz.ntmps67
  go_wp2
  go_ret
  exact ⟨rfl, rfl⟩
theorem rlen_nil (w : World) : Calls Tryz.prog 71 #[.pointer none] w fun e w' => e = .returned (.int .i64 0) ∧ w' = w := by
  go_enter Tryz.func71, Tryz.ntmps71
  go_wp2
  go_ret
  exact ⟨rfl, rfl⟩
theorem rlost_nil (w : World) : Calls Tryz.prog 68 #[.pointer none] w fun e w' => e = .returned (.int .i64 0) ∧ w' = w := by
  go_enter Tryz.func68, Tryz.ntmps68
  go_wp2
  go_ret
  exact ⟨rfl, rfl⟩
theorem rclear_nil (w : World) : Calls Tryz.prog 70 #[.pointer none] w fun e w' => (∃ v, e = .returned v) ∧ w' = w := by
  go_enter Tryz.func70, Tryz.ntmps70
  go_wp2
  go_end0
  exact ⟨⟨_, rfl⟩, rfl⟩
theorem len_nil (w : World) : Calls Tryz.prog 35 #[.pointer none] w fun e w' => e = .returned (.int .i64 0) ∧ w' = w := by
  go_enter Tryz.func35, Tryz.ntmps35
  go_wp2_with (first | (go_at_call 67; refine (kept_nil _).mono ?_; rintro e w' ⟨rfl, rfl⟩) | (go_at_call 71; refine (rlen_nil _).mono ?_; rintro e w' ⟨rfl, rfl⟩))
  go_ret
  exact ⟨rfl, rfl⟩
theorem lost_nil (w : World) : Calls Tryz.prog 32 #[.pointer none] w fun e w' => e = .returned (.int .i64 0) ∧ w' = w := by
  go_enter Tryz.func32, Tryz.ntmps32
  go_wp2_with (first | (go_at_call 67; refine (kept_nil _).mono ?_; rintro e w' ⟨rfl, rfl⟩) | (go_at_call 68; refine (rlost_nil _).mono ?_; rintro e w' ⟨rfl, rfl⟩))
  go_ret
  exact ⟨rfl, rfl⟩
theorem clear_nil (w : World) : Calls Tryz.prog 34 #[.pointer none] w fun e w' => (∃ v, e = .returned v) ∧ w' = w := by
  go_enter Tryz.func34, Tryz.ntmps34
  go_wp2_with (first | (go_at_call 67; refine (kept_nil _).mono ?_; rintro e w' ⟨rfl, rfl⟩) | (go_at_call 70; refine (rclear_nil _).mono ?_; rintro e w' ⟨⟨_, rfl⟩, rfl⟩))
  go_end0
  exact ⟨⟨_, rfl⟩, rfl⟩
theorem add_nil (e : Ev) (A : Option Addr) (n c : Nat) (w : World) : Calls Tryz.prog 30 #[.pointer none, .agg #[.int .i64 e.kind, .int .i64 e.tick, .int .i64 e.pid, .int .i64 e.by_, .slice A n c]] w fun e' w' => e' = .returned (.int .i64 2) ∧ Below w.heap.size w w' := by
  go_enter Tryz.func30, Tryz.ntmps30
  go_wp2
  go_ret
  exact ⟨rfl, (Below.refl _ _).alloc (Nat.le_refl _) _⟩
set_option maxHeartbeats 2000000 in
set_option maxRecDepth 100000 in
theorem tnil_calls (e : Ev) (A : Option Addr) (n c : Nat) (pid : Int) (x : Value) (ks : List Int) (w : World) (hk : SeesI w x ks) (hbig : ks.length * 8 ≤ 140737488355328) (ht : TabsT w) :
    Calls Tryz.prog 7 #[.agg #[.int .i64 e.kind, .int .i64 e.tick, .int .i64 e.pid, .int .i64 e.by_, .slice A n c], .int .i64 pid, x] w fun e' w' => e' = .returned (.bool true) ∧ Below w.heap.size w w' := by
  have HT := Lib.hid ht; clear ht
  obtain ⟨XA, xc, hx, -, -⟩ := id hk
  subst hx
  have HK := Lib.hid hk; clear hk
  have hb0 : Below w.heap.size w (w.alloc (.cells #[.int .i64 e.kind, .int .i64 e.tick, .int .i64 e.pid, .int .i64 e.by_, .slice A n c] 24)) := (Below.refl _ _).alloc (Nat.le_refl _) _
  have HB0 := Lib.hid hb0; clear hb0
  go_enter Tryz.func7, Tryz.ntmps7
  go_wp2_with fail
  refine (add_nil e A n c _).mono ?_
  rintro e1 w1 ⟨rfl, hb⟩
  have HB1 := Lib.hid (HB0.out.trans (hb.mono HB0.out.size)); clear hb
  go_wp2_with fail
  refine (clear_nil _).mono ?_
  rintro e2 w2 ⟨⟨v, rfl⟩, rfl⟩
  go_wp2_with fail
  refine (len_nil _).mono ?_
  rintro e3 w3 ⟨rfl, rfl⟩
  go_wp2_with fail
  refine (lost_nil _).mono ?_
  rintro e4 w4 ⟨rfl, rfl⟩
  go_wp2_with fail
  refine (count_nil 1 _).mono ?_
  rintro e5 w5 ⟨rfl, hb⟩
  have HB5 := Lib.hid (HB1.out.trans (hb.mono HB1.out.size)); clear hb
  go_wp2_with fail
  refine (every_nil 1 _).mono ?_
  rintro e6 w6 ⟨rfl, hb⟩
  have HB6 := Lib.hid (HB5.out.trans (hb.mono HB5.out.size)); clear hb
  go_wp2_with fail
  refine (ofLaw_nil pid 1 _ ks _ (HK.out.below HB6.out) hbig).mono ?_
  rintro e7 w7 ⟨rfl, hb⟩
  have HB7 := Lib.hid (HB6.out.trans (hb.mono HB6.out.size)); clear hb
  go_wp2_with fail
  refine (awake_calls _ (HT.out.below HB7.out)).mono ?_
  rintro e8 w8 ⟨rfl, hb⟩
  have HB8 := Lib.hid (HB7.out.trans (hb.mono HB7.out.size)); clear hb
  go_wp2
  go_ret
  exact ⟨rfl, HB8.out⟩
end Go.Proofs.YtejpdfenejbjdaaGreatDoor
