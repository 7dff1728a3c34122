/- Words that all walks of this seat share: blocks that a call writes, what stays. -/
import Derived.Test.YtejpdfenejbjdaaGreatDoorProg
import Derived.WalkKit
import Derived.WalkLawsBesides
import Derived.WalkSpells
import Derived.KernelRfl
import Derived.RowKit3
import Derived.Deep.LoopGhost
import Derived.Deep.QuietTactic
import Derived.BigQuiet
import Derived.WideLaws
import Derived.Deep.DeepCutAuto
import Derived.Deep.CutBlock
import Derived.Deep.RegionHeld3
import Derived.Lib.Hide
import Derived.Below
import Derived.Test.YtejpdfenejbjdaaGreatDoorShelf
namespace Go.Proofs.YtejpdfenejbjdaaGreatDoor
open Go.RowKit
set_option linter.unusedVariables false
set_option linter.unusedSimpArgs false

/-- Only block 'b' and new blocks may differ. -/
structure Mv (b : Nat) (w w' : World) : Prop where
  os : w'.os = w.os
  tape : w'.tape = w.tape
  output : w'.output = w.output
  size : w.heap.size ≤ w'.heap.size
  block : ∀ k, k < w.heap.size → k ≠ b → w'.heap[k]? = w.heap[k]?

theorem Mv.refl (b : Nat) (w : World) : Mv b w w := ⟨rfl, rfl, rfl, Nat.le_refl _, fun _ _ _ => rfl⟩
theorem Mv.trans {b : Nat} {w u v : World} (h : Mv b w u) (k : Mv b u v) : Mv b w v :=
  ⟨k.os.trans h.os, k.tape.trans h.tape, k.output.trans h.output, Nat.le_trans h.size k.size, fun i hi hb => (k.block i (Nat.lt_of_lt_of_le hi h.size) hb).trans (h.block i hi hb)⟩
theorem Mv.of_below {b : Nat} {w w' : World} (h : Below w.heap.size w w') : Mv b w w' := ⟨h.os, h.tape, h.output, h.size, fun k hk _ => h.block k hk⟩
theorem Mv.drewN {b : Nat} {w u : World} (h : Mv b w u) (n : Nat) : Mv b w (u.drewN n) := ⟨h.os, h.tape, h.output, h.size, h.block⟩
theorem below_drewN {B : Nat} {w u : World} (h : Below B w u) (n : Nat) : Below B w (u.drewN n) := ⟨h.os, h.tape, h.output, h.size, h.block⟩
theorem Mv.setCell {b : Nat} {w u : World} (h : Mv b w u) {p : Addr} (hp : p.block = b) (v : Value) : Mv b w (u.setCell p v) :=
  h.trans ⟨rfl, rfl, rfl, by simp [World.setCell], fun k _ hb => Below.heap_setCell _ _ _ _ (by omega)⟩
theorem Mv.setAt {b : Nat} {w u : World} (h : Mv b w u) (o : Nat) (v : Value) : Mv b w (u.setCell ⟨b, o, none⟩ v) := h.setCell rfl v
theorem Mv.alloc {b : Nat} {w u : World} (h : Mv b w u) (o : Obj) : Mv b w (u.alloc o) :=
  h.trans ⟨rfl, rfl, rfl, by simp, fun k hk _ => Below.heap_alloc _ _ _ hk⟩

theorem ne_byte' (c : UInt8) (n : Nat) (hn : n < 256) (h : c ≠ UInt8.ofNat n) : ((c.toNat : Int) == (n : Int)) = false := by
  rw [beq_eq_false_iff_ne]
  intro e
  apply h
  apply UInt8.toNat_inj.1
  simp
  omega

/-- A quiet call behind a quiet region. -/
theorem quiet_more {P : Program} {f : FuncId} {args : Array Value} {w : World} {a n : Nat} {v : Value} (h : Calls P f args (w.drewN (a + n)) fun e w' => e = .returned v ∧ w' = w.drewN (a + n)) :
    Calls P f args (w.drewN (a + n)) fun e w'' => e = .returned v ∧ ∃ m, w'' = w.drewN (a + m) := h.mono fun _ _ ⟨he, hm⟩ => ⟨he, n, hm⟩
theorem quiet_more_draws {P : Program} {f : FuncId} {args : Array Value} {w : World} {a n : Nat} {v : Value} (h : Calls P f args (w.drewN (a + n)) fun e w' => e = .returned v ∧ ∃ m, w' = (w.drewN (a + n)).drewN m) :
    Calls P f args (w.drewN (a + n)) fun e w'' => e = .returned v ∧ ∃ m, w'' = w.drewN (a + m) := h.mono fun _ _ ⟨he, m, hm⟩ => ⟨he, n + m, by rw [hm, World.drewN_drewN, Nat.add_assoc]⟩

/-- A reader lies in block 'b'. -/
structure Rd (b : Nat) (s : ByteArray) (p : Nat) (w : World) : Prop where
  lt : b < w.heap.size
  c0 : w.cell? ⟨b, 0, none⟩ = some (.string s)
  c1 : w.cell? ⟨b, 1, none⟩ = some (.int .i64 (p : Int))
  f0 : w.frozen? ⟨b, 0, none⟩ = false
  f1 : w.frozen? ⟨b, 1, none⟩ = false
end Go.Proofs.YtejpdfenejbjdaaGreatDoor

namespace Go.Proofs.YtejpdfenejbjdaaGreatDoor
open Go.RowKit
set_option linter.unusedVariables false
set_option linter.unusedSimpArgs false

/-- Above all of the tables' blocks. -/
def ng : Nat := [6, 7, 0, 5].foldl max 0 + 1
structure Tabs (w : World) : Prop where
  lt : ng ≤ w.heap.size
  u8 : Lib.Utf8Tabs 6 7 w
  pow : Lib.TabIs Tryz.prog w "internal/strconv.uint64pow10" .u64 Lib.pow10Tab
  bru : w.cell? ⟨5, 15, none⟩ = some (.int .u8 4)

theorem Tabs.keep {w w' : World} (h : Tabs w) (hs : w.heap.size ≤ w'.heap.size) (hb : ∀ k, k < ng → w'.heap[k]? = w.heap[k]?) : Tabs w' := by
  have hc : ∀ g o, g < ng → w'.cell? ⟨g, o, none⟩ = w.cell? ⟨g, o, none⟩ := fun g o hg => World.cell?_of_block (w := w) (hb g hg)
  refine ⟨Nat.le_trans h.lt hs, ⟨fun c hc' => (hc _ _ (by decide)).trans (h.u8.1 c hc'), fun i hi => ⟨(hc _ _ (by decide)).trans (h.u8.2 i hi).1, (hc _ _ (by decide)).trans (h.u8.2 i hi).2⟩⟩, ?_, (hc _ _ (by decide)).trans h.bru⟩
  have hp := h.pow
  unfold Lib.TabIs World.var? at hp ⊢
  rw [show Tryz.prog.globalNamed "internal/strconv.uint64pow10" = some 0 by kernel_rfl] at hp ⊢
  simp only [Option.bind_some] at hp ⊢
  rw [hb _ (by decide)]
  exact hp
theorem Tabs.mv {b : Nat} {w w' : World} (h : Tabs w) (hm : Mv b w w') (hb : ng ≤ b) : Tabs w' :=
  h.keep hm.size fun k hk => hm.block k (Nat.lt_of_lt_of_le hk h.lt) (by omega)
theorem Tabs.below {w w' : World} (h : Tabs w) (hb : Below w.heap.size w w') : Tabs w' := h.keep hb.size fun k hk => hb.block k (Nat.lt_of_lt_of_le hk h.lt)
theorem Tabs.drewN {w : World} (h : Tabs w) (n : Nat) : Tabs (w.drewN n) := ⟨h.lt, h.u8, h.pow, h.bru⟩
theorem Tabs.alloc {w : World} (h : Tabs w) (o : Obj) : Tabs (w.alloc o) := h.below ((Below.refl _ _).alloc (Nat.le_refl _) _)
theorem Tabs.setCell {w : World} (h : Tabs w) (a : Addr) (v : Value) (ha : ng ≤ a.block) : Tabs (w.setCell a v) :=
  h.keep (by simp [World.setCell]) fun k hk => Below.heap_setCell _ _ _ _ (by omega)
end Go.Proofs.YtejpdfenejbjdaaGreatDoor
