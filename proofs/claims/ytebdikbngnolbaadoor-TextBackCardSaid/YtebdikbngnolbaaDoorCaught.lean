/- Walks: what was thrown is caught. -/
import Derived.Test.YtebdikbngnolbaaDoorTermE
import Derived.Recover
import Derived.Tactics2
namespace Go.Proofs.YtebdikbngnolbaaDoor
open Go.RowKit Txt
set_option linter.unusedVariables false
set_option linter.unusedSimpArgs false

theorem caught_idle (p : Addr) (w : World) :
    CallsD Tryd.prog 15 #[.pointer (some p)] .returning w fun e u' w' => e = .returned (.tuple #[]) ∧ u' = .returning ∧ w' = w := by
  refine callsD_of_wpS Tryd.func15 rfl fun c₀ cs hu => ?_
  change Code.wpS _ _ _ ⟨#[.pointer (some p), undef, undef, undef, undef, undef, undef, undef, undef, undef, undef, undef, undef, undef], []⟩ _ _
  apply wpS_seq
  apply wpS_region
  simp [wpOpsS, go_sem, recoverD, hu, Tryd.ntmps15, Exit.thenS]
  refine wpS_of_wp ?_
  go_wp2
  cases c₀
  simp_all [bodyPostS, results, Tryd.results15]

set_option maxRecDepth 100000 in
theorem caught_hit (g : Nat) (c a : Int) (x0 x1 : Value) (w : World) (h0 : w.cell? ⟨g, 0, none⟩ = some x0) (h1 : w.cell? ⟨g, 1, none⟩ = some x1) (f0 : w.frozen? ⟨g, 0, none⟩ = false) (f1 : w.frozen? ⟨g, 1, none⟩ = false) :
    CallsD Tryd.prog 15 #[.pointer (some ⟨g, 0, none⟩)] (.panicking [{ v := .iface 42 (.agg #[.int .i64 c, .int .i64 a]), recovered := false }]) w fun e u' w' => e = .returned (.tuple #[]) ∧ u' = .panicking [{ v := .iface 42 (.agg #[.int .i64 c, .int .i64 a]), recovered := true }] ∧ Mv g w w' ∧ w'.cell? ⟨g, 0, none⟩ = some (.int .i64 c) ∧ w'.cell? ⟨g, 1, none⟩ = some (.int .i64 a) := by
  have hta : ∀ (v : Value) (W : World), (Instr.typeAssert (.iface 42 v) 20 42 true).run Tryd.prog W = .ok (.tuple #[v, .bool true]) W := fun v W => by kernel_rfl
  have hgl : g < w.heap.size := cell_lt h0
  have hbl : Below w.heap.size w (w.alloc (.cells #[.int .i64 c, .int .i64 a] 42)) := (Below.refl _ _).alloc (Nat.le_refl _) _
  have k0 : (w.alloc (.cells #[.int .i64 c, .int .i64 a] 42)).cell? ⟨g, 0, none⟩ = some x0 := (World.cell?_of_block (w := w) (hbl.block g hgl)).trans h0
  have k1 : (w.alloc (.cells #[.int .i64 c, .int .i64 a] 42)).cell? ⟨g, 1, none⟩ = some x1 := (World.cell?_of_block (w := w) (hbl.block g hgl)).trans h1
  have z0 : (w.alloc (.cells #[.int .i64 c, .int .i64 a] 42)).frozen? ⟨g, 0, none⟩ = false := (World.frozen?_of_block (w := w) (hbl.block g hgl)).trans f0
  have z1 : (w.alloc (.cells #[.int .i64 c, .int .i64 a] 42)).frozen? ⟨g, 1, none⟩ = false := (World.frozen?_of_block (w := w) (hbl.block g hgl)).trans f1
  have hbl2 : Below (w.setCell ⟨g, 0, none⟩ (.int .i64 c)).heap.size (w.setCell ⟨g, 0, none⟩ (.int .i64 c)) ((w.setCell ⟨g, 0, none⟩ (.int .i64 c)).alloc (.cells #[.int .i64 c, .int .i64 a] 42)) := (Below.refl _ _).alloc (Nat.le_refl _) _
  have hgl2 : g < (w.setCell ⟨g, 0, none⟩ (.int .i64 c)).heap.size := by simpa [World.setCell] using hgl
  have m1 : ((w.setCell ⟨g, 0, none⟩ (.int .i64 c)).alloc (.cells #[.int .i64 c, .int .i64 a] 42)).cell? ⟨g, 1, none⟩ = some x1 := (World.cell?_of_block (w := w.setCell ⟨g, 0, none⟩ (.int .i64 c)) (hbl2.block g hgl2)).trans ((cell_ne _ _ _ _ _ (by omega)).trans h1)
  have m0 : ((w.setCell ⟨g, 0, none⟩ (.int .i64 c)).alloc (.cells #[.int .i64 c, .int .i64 a] 42)).cell? ⟨g, 0, none⟩ = some (.int .i64 c) := (World.cell?_of_block (w := w.setCell ⟨g, 0, none⟩ (.int .i64 c)) (hbl2.block g hgl2)).trans (cell_eq h0 _)
  have y1 : ((w.setCell ⟨g, 0, none⟩ (.int .i64 c)).alloc (.cells #[.int .i64 c, .int .i64 a] 42)).frozen? ⟨g, 1, none⟩ = false := (World.frozen?_of_block (w := w.setCell ⟨g, 0, none⟩ (.int .i64 c)) (hbl2.block g hgl2)).trans ((frozen_set _ _ _ _).trans f1)
  have hbl3 : Below ((w.setCell ⟨g, 0, none⟩ (.int .i64 c)).setCell ⟨g, 1, none⟩ (.int .i64 a)).heap.size ((w.setCell ⟨g, 0, none⟩ (.int .i64 c)).setCell ⟨g, 1, none⟩ (.int .i64 a)) (((w.setCell ⟨g, 0, none⟩ (.int .i64 c)).setCell ⟨g, 1, none⟩ (.int .i64 a)).alloc (.cells #[.int .i64 c, .int .i64 a] 42)) := (Below.refl _ _).alloc (Nat.le_refl _) _
  have hgl3 : g < ((w.setCell ⟨g, 0, none⟩ (.int .i64 c)).setCell ⟨g, 1, none⟩ (.int .i64 a)).heap.size := by simpa [World.setCell] using hgl
  have hmv : Mv g w (((w.setCell ⟨g, 0, none⟩ (.int .i64 c)).setCell ⟨g, 1, none⟩ (.int .i64 a)).alloc (.cells #[.int .i64 c, .int .i64 a] 42)) := (((Mv.refl g w).setAt 0 _).setAt 1 _).alloc _
  have e0 : (((w.setCell ⟨g, 0, none⟩ (.int .i64 c)).setCell ⟨g, 1, none⟩ (.int .i64 a)).alloc (.cells #[.int .i64 c, .int .i64 a] 42)).cell? ⟨g, 0, none⟩ = some (.int .i64 c) := (World.cell?_of_block (w := ((w.setCell ⟨g, 0, none⟩ (.int .i64 c)).setCell ⟨g, 1, none⟩ (.int .i64 a))) (hbl3.block g hgl3)).trans ((cell_ne _ _ _ _ _ (by omega)).trans (cell_eq h0 _))
  have e1 : (((w.setCell ⟨g, 0, none⟩ (.int .i64 c)).setCell ⟨g, 1, none⟩ (.int .i64 a)).alloc (.cells #[.int .i64 c, .int .i64 a] 42)).cell? ⟨g, 1, none⟩ = some (.int .i64 a) := (World.cell?_of_block (w := ((w.setCell ⟨g, 0, none⟩ (.int .i64 c)).setCell ⟨g, 1, none⟩ (.int .i64 a))) (hbl3.block g hgl3)).trans (cell_eq ((cell_ne _ _ _ _ _ (by omega)).trans h1) _)
  have HE := Lib.hid (And.intro hmv (And.intro e0 e1))
  clear hbl hbl2 hgl2 hbl3 hgl3 hmv e0 e1 m0
  have HH := Lib.hid (And.intro h0 (And.intro h1 (And.intro f0 f1)))
  clear h0 h1 f0 f1
  refine callsD_of_wpS Tryd.func15 rfl fun c₀ cs hu => ?_
  change Code.wpS _ _ _ ⟨#[.pointer (some ⟨g, 0, none⟩), undef, undef, undef, undef, undef, undef, undef, undef, undef, undef, undef, undef, undef], []⟩ _ _
  apply wpS_seq
  apply wpS_region
  simp [wpOpsS, go_sem, recoverD, hu, Tryd.ntmps15, Exit.thenS]
  refine wpS_of_wp ?_
  go_wp2
  exact ⟨rfl, _, rfl, _, results_none rfl _ _ _, rfl, rfl, HE.out⟩
end Go.Proofs.YtebdikbngnolbaaDoor
