/- How a list of cells lies in memory. -/
import Derived.Test.YtejpdfenejbjdaaGreatDoorBase
import Derived.Test.YtejpdfenejbjdaaGreatDoorModel
import Derived.Lib.UnsafeStr
import Derived.Lib.ConvBytes
namespace Go.Proofs.YtejpdfenejbjdaaGreatDoor
open Go.RowKit Txt
set_option linter.unusedVariables false
set_option linter.unusedSimpArgs false

def cv (c : Cl) : List Value := [.int .i64 c.kind, .int .i64 c.n, .string c.text]
def cvs (t : List Cl) : List Value := t.flatMap cv
theorem cvs_nil : cvs [] = [] := rfl
theorem cvs_cons (c : Cl) (t : List Cl) : cvs (c :: t) = cv c ++ cvs t := rfl
theorem cvs_append (t u : List Cl) : cvs (t ++ u) = cvs t ++ cvs u := by simp [cvs]
theorem cvs_length (t : List Cl) : (cvs t).length = t.length * 3 := by
  induction t with
  | nil => rfl
  | cons c t ih => rw [cvs_cons, List.length_append, ih]; simp [cv]; omega
theorem cvs_at (t : List Cl) : ∀ (i j : Nat) (h : i < t.length), j < 3 → (cvs t)[i * 3 + j]? = (cv t[i])[j]? := by
  induction t with
  | nil => intro i j h; simp at h
  | cons c t ih =>
    intro i j h hj
    cases i with
    | zero => rw [cvs_cons, List.getElem?_append_left (by simp [cv]; omega)]; simp
    | succ i =>
      rw [cvs_cons, List.getElem?_append_right (by simp [cv]; omega)]
      have := ih i j (by simpa using h) hj
      rw [show (i + 1) * 3 + j - (cv c).length = i * 3 + j by simp [cv]; omega]
      exact this
theorem cvs_oneCell (t : List Cl) : ∀ u ∈ cvs t, u.oneCell' = true := by
  intro u hu
  simp only [cvs, List.mem_flatMap, cv, List.mem_cons, List.not_mem_nil, or_false] at hu
  obtain ⟨c, -, rfl | rfl | rfl⟩ := hu <;> rfl

/-- A slice value reads as a list of cells. -/
def SeesT (w : World) (x : Value) (t : List Cl) : Prop :=
  ∃ A cap, x = .slice A t.length cap ∧ t.length ≤ cap ∧ (t ≠ [] → ∃ ad, A = some ad ∧ ∀ j u, (cvs t)[j]? = some u → w.cell? (ad.add j) = some u)

theorem cell_lt {w : World} {a : Addr} {v : Value} (h : w.cell? a = some v) : a.block < w.heap.size := by
  rcases Nat.lt_or_ge a.block w.heap.size with h' | h'
  · exact h'
  · simp [World.cell?, Array.getElem?_eq_none h'] at h
theorem add_block (a : Addr) (n : Nat) : (a.add n).block = a.block := by unfold Addr.add; split <;> rfl
theorem add_at (a : Addr) (i j : Nat) (h : 0 < j) : a.add (i + j) = ⟨(a.add i).block, (a.add i).off + j, none⟩ := by
  unfold Addr.add
  rw [if_neg (by omega)]
  split
  · subst_vars; simp
  · simp; omega

/-- The cells of the element at a place. -/
theorem SeesT.at {w : World} {x : Value} {t : List Cl} (h : SeesT w x t) (i : Nat) (hi : i < t.length) :
    ∃ ad cap, x = .slice (some ad) t.length cap ∧ t.length ≤ cap ∧ ad.block < w.heap.size ∧ w.cell? (ad.add (i * 3)) = some (.int .i64 t[i].kind) ∧ w.cell? ⟨(ad.add (i * 3)).block, (ad.add (i * 3)).off + 1, none⟩ = some (.int .i64 t[i].n) ∧
      w.cell? ⟨(ad.add (i * 3)).block, (ad.add (i * 3)).off + 2, none⟩ = some (.string t[i].text) := by
  obtain ⟨A, cap, rfl, hcap, hA⟩ := h
  obtain ⟨ad, rfl, hc⟩ := hA (by intro e; subst e; simp at hi)
  have h0 := hc (i * 3) _ ((cvs_at t i 0 hi (by omega)).trans rfl)
  refine ⟨ad, cap, rfl, hcap, ?_, h0, ?_, ?_⟩
  · have := cell_lt h0; rwa [add_block] at this
  · rw [← add_at _ _ 1 (by omega)]; exact hc _ _ ((cvs_at t i 1 hi (by omega)).trans rfl)
  · rw [← add_at _ _ 2 (by omega)]; exact hc _ _ ((cvs_at t i 2 hi (by omega)).trans rfl)
theorem SeesT.keep {w w' : World} {x : Value} {t : List Cl} (h : SeesT w x t) (hk : ∀ ad, (∃ n c, x = .slice (some ad) n c) → ad.block < w.heap.size → w'.heap[ad.block]? = w.heap[ad.block]?) : SeesT w' x t := by
  obtain ⟨A, cap, rfl, hcap, hA⟩ := h
  refine ⟨A, cap, rfl, hcap, fun hne => ?_⟩
  obtain ⟨ad, rfl, hc⟩ := hA hne
  refine ⟨ad, rfl, fun j u hu => ?_⟩
  have h1 := hc j u hu
  have hb := cell_lt h1
  rw [add_block] at hb
  have h2 := hk ad ⟨_, _, rfl⟩ hb
  exact (World.cell?_of_block (w := w) (by rw [add_block]; exact h2)).trans h1
theorem SeesT.below {w w' : World} {x : Value} {t : List Cl} (h : SeesT w x t) (hb : Below w.heap.size w w') : SeesT w' x t := h.keep fun ad _ hlt => hb.block _ hlt

/-- A slice that the call owns, from a block on. -/
def OwnT (base : Nat) (w : World) (x : Value) (t : List Cl) : Prop := w.ownsRow base 74 3 x t.length (cvs t)
theorem OwnT.sees {base : Nat} {w : World} {x : Value} {t : List Cl} (h : OwnT base w x t) : SeesT w x t := by
  obtain ⟨hl, h0 | ⟨g, cap, cur, rfl, hb, hh, hn, hm, hs, ht⟩⟩ := h
  · obtain ⟨rfl, h0⟩ := h0
    have : t = [] := List.length_eq_zero_iff.1 h0
    subst this
    exact ⟨none, 0, rfl, Nat.le_refl _, fun h => absurd rfl h⟩
  · refine ⟨some ⟨g, 0, none⟩, cap, rfl, hn, fun _ => ⟨_, rfl, fun j u hu => ?_⟩⟩
    exact World.ownsRow.cells (base := base) (e := 74) (size := 3) (v := .slice (some ⟨g, 0, none⟩) t.length cap) (n := t.length) ⟨hl, .inr ⟨g, cap, cur, rfl, hb, hh, hn, hm, hs, ht⟩⟩ rfl j u hu
theorem OwnT.nil (base : Nat) (w : World) : OwnT base w (.slice none 0 0) [] := World.ownsRow_nil w base _ 3
theorem OwnT.mono {base base' : Nat} {w : World} {x : Value} {t : List Cl} (h : OwnT base w x t) (hb : base' ≤ base) : OwnT base' w x t := by
  obtain ⟨hl, h0 | ⟨g, cap, cur, rfl, hg, r⟩⟩ := h
  · exact ⟨hl, .inl h0⟩
  · exact ⟨hl, .inr ⟨g, cap, cur, rfl, Nat.le_trans hb hg, r⟩⟩
theorem OwnT.keep {base : Nat} {w w' : World} {x : Value} {t : List Cl} (h : OwnT base w x t) (hk : ∀ g, base ≤ g → x.ownBlock = some g → g < w.heap.size → w'.heap[g]? = w.heap[g]?) : OwnT base w' x t := by
  obtain ⟨hl, h0 | ⟨g, cap, cur, rfl, hg, hh, r⟩⟩ := h
  · exact ⟨hl, .inl h0⟩
  · refine ⟨hl, .inr ⟨g, cap, cur, rfl, hg, ?_, r⟩⟩
    rw [hk g hg rfl]
    · exact hh
    · rcases Nat.lt_or_ge g w.heap.size with h' | h'
      · exact h'
      · rw [Array.getElem?_eq_none h'] at hh; cases hh
theorem OwnT.below {base : Nat} {w w' : World} {x : Value} {t : List Cl} (h : OwnT base w x t) (hb : Below w.heap.size w w') : OwnT base w' x t := h.keep fun g _ _ hl => hb.block g hl
/-- One cell in a new block. -/
theorem OwnT.one (w : World) (c : Cl) (base : Nat) (hb : base ≤ w.heap.size) : OwnT base (w.alloc (.cells #[.int .i64 c.kind, .int .i64 c.n, .string c.text] 74)) (.slice (some ⟨w.heap.size, 0, none⟩) 1 1) [c] := by
  refine ⟨by simp [cvs, cv], .inr ⟨w.heap.size, 1, _, rfl, hb, heap_alloc_new w _, Nat.le_refl _, by decide, rfl, ?_⟩⟩
  simp [cvs, cv]
end Go.Proofs.YtejpdfenejbjdaaGreatDoor

namespace Go.Proofs.YtejpdfenejbjdaaGreatDoor
open Go.RowKit Txt
set_option linter.unusedVariables false
set_option linter.unusedSimpArgs false

theorem info_u8 : (Tryz.prog.info? 5).map (fun i => (i.zero, i.size, i.bytes)) = some (some (.int .u8 0), 1, 1) := by kernel_rfl
theorem info_cell : (Tryz.prog.info? 74).map (fun i => (i.zero, i.size, i.bytes)) = some (some (.agg #[.int .i64 0, .int .i64 0, .string .empty]), 3, 32) := by kernel_rfl

def OwnB (base : Nat) (w : World) (x : Value) (l : List UInt8) : Prop := w.ownsRow base 5 1 x l.length (Lib.byteCells l)
theorem byteCells_length (l : List UInt8) : (Lib.byteCells l).length = l.length := by simp [Lib.byteCells]
theorem byteCells_append (l m : List UInt8) : Lib.byteCells (l ++ m) = Lib.byteCells l ++ Lib.byteCells m := by simp [Lib.byteCells]
theorem byteCells_oneCell (l : List UInt8) : ∀ u ∈ Lib.byteCells l, u.oneCell' = true := by
  intro u hu
  simp only [Lib.byteCells, List.mem_map] at hu
  obtain ⟨c, -, rfl⟩ := hu; rfl
theorem OwnB.nil (base : Nat) (w : World) : OwnB base w (.slice none 0 0) [] := World.ownsRow_nil w base _ 1
theorem OwnB.mono {base base' : Nat} {w : World} {x : Value} {t : List UInt8} (h : OwnB base w x t) (hb : base' ≤ base) : OwnB base' w x t := by
  obtain ⟨hl, h0 | ⟨g, cap, cur, rfl, hg, r⟩⟩ := h
  · exact ⟨hl, .inl h0⟩
  · exact ⟨hl, .inr ⟨g, cap, cur, rfl, Nat.le_trans hb hg, r⟩⟩
theorem OwnB.keep {base : Nat} {w w' : World} {x : Value} {t : List UInt8} (h : OwnB base w x t) (hk : ∀ g, base ≤ g → x.ownBlock = some g → g < w.heap.size → w'.heap[g]? = w.heap[g]?) : OwnB base w' x t := by
  obtain ⟨hl, h0 | ⟨g, cap, cur, rfl, hg, hh, r⟩⟩ := h
  · exact ⟨hl, .inl h0⟩
  · refine ⟨hl, .inr ⟨g, cap, cur, rfl, hg, ?_, r⟩⟩
    rw [hk g hg rfl]
    · exact hh
    · rcases Nat.lt_or_ge g w.heap.size with h' | h'
      · exact h'
      · rw [Array.getElem?_eq_none h'] at hh; cases hh
theorem OwnB.below {base : Nat} {w w' : World} {x : Value} {t : List UInt8} (h : OwnB base w x t) (hb : Below w.heap.size w w') : OwnB base w' x t := h.keep fun g _ _ hl => hb.block g hl
theorem OwnB.mv {base b : Nat} {w w' : World} {x : Value} {t : List UInt8} (h : OwnB base w x t) (hm : Mv b w w') (hb : b < base) : OwnB base w' x t := h.keep fun g hg _ hl => hm.block g hl (by omega)
theorem OwnT.mv {base b : Nat} {w w' : World} {x : Value} {t : List Cl} (h : OwnT base w x t) (hm : Mv b w w') (hb : b < base) : OwnT base w' x t := h.keep fun g hg _ hl => hm.block g hl (by omega)
/-- Behind a law that ends in 'grownBy'. -/
theorem Mv.grown {b : Nat} {w u u' : World} {x : Value} (h : Mv b w u) (hg : u.grownBy u' x.ownBlock) (hx : ∀ g, x.ownBlock = some g → w.heap.size ≤ g) : Mv b w u' :=
  ⟨hg.os.trans h.os, hg.tape.trans h.tape, hg.output.trans h.output, Nat.le_trans h.size hg.size, fun k hk hb => (hg.block k (Nat.lt_of_lt_of_le hk h.size) (fun e => by have := hx k e.symm; omega)).trans (h.block k hk hb)⟩
theorem OwnB.own_ge {base : Nat} {w : World} {x : Value} {l : List UInt8} (h : OwnB base w x l) : ∀ g, x.ownBlock = some g → base ≤ g := fun g hg => (World.ownsRow.lt h g hg).1
theorem OwnT.own_ge {base : Nat} {w : World} {x : Value} {l : List Cl} (h : OwnT base w x l) : ∀ g, x.ownBlock = some g → base ≤ g := fun g hg => (World.ownsRow.lt h g hg).1

/-- A cell of the block that was made last. -/
theorem new_at (u : World) (cs : Array Value) (T k j : Nat) (hk : k = u.heap.size) : (u.alloc (.cells cs T)).cell? ((⟨k, 0, none⟩ : Addr).add j) = cs[j]? := by
  subst hk
  have h1 : ((⟨u.heap.size, 0, none⟩ : Addr).add j) = ⟨u.heap.size, j, none⟩ := by unfold Addr.add; split <;> simp_all
  rw [h1]
  have h2 : (u.alloc (.cells cs T)).heap[u.heap.size]? = some (.cells cs T (0, 0)) := heap_alloc_new u _
  show (match (u.alloc (.cells cs T)).heap[u.heap.size]? with | some (.cells c _ _) => if (none : Option Nat).isSome then none else c[j]? | _ => none) = _
  rw [h2]; rfl
theorem new_list (u : World) (l : List Value) (T k : Nat) (hk : k = u.heap.size) : ∀ j v, l[j]? = some v → (u.alloc (.cells l.toArray T)).cell? ((⟨k, 0, none⟩ : Addr).add j) = some v := by
  intro j v h
  rw [new_at u _ T k j hk]; simpa using h
theorem bytes_eq (l : List UInt8) : strOfNums (l.map fun c => (c.toNat : Int)) = Txt.bytes l := by
  unfold strOfNums Txt.bytes
  rw [List.map_map]
  congr 2
  rw [List.map_congr_left (g := id)]
  · simp
  · intro c _; simp
/-- 'string(b)' of such a row. -/
theorem conv_own {base : Nat} {w : World} {x : Value} {l : List UInt8} (h : OwnB base w x l) : (convert 91 9 x).run Tryz.prog w = .ok (.string (Txt.bytes l)) w := by
  obtain ⟨hl, h0 | ⟨g, cap, cur, rfl, hg, hh, hn, hm, hs, ht⟩⟩ := h
  · obtain ⟨rfl, h0⟩ := h0
    have : l = [] := List.length_eq_zero_iff.1 h0
    subst this
    exact run_convert_bytes_nil w 91 5 Tryz.underlying91 Tryz.underlying5 0 0 9 Tryz.underlying9
  · have hcs := World.ownsRow.cells (base := base) (e := 5) (size := 1) (v := .slice (some ⟨g, 0, none⟩) l.length cap) (n := l.length) (xs := Lib.byteCells l) ⟨hl, .inr ⟨g, cap, cur, rfl, hg, hh, hn, hm, hs, ht⟩⟩ rfl
    have := run_convert_bytes_arg (P := Tryz.prog) w 91 5 Tryz.underlying91 Tryz.underlying5 g 0 l.length cap (l.map fun c => (c.toNat : Int)) (by simp) (by
      intro i hi
      have h1 := hcs i (.int .u8 (l[i].toNat)) (by simp [Lib.byteCells, hi])
      have h2 : (⟨g, 0, none⟩ : Addr).add i = ⟨g, 0 + i, none⟩ := by unfold Addr.add; split <;> simp_all
      rw [h2] at h1
      rw [h1]; simp [hi]) 9 Tryz.underlying9
    rw [bytes_eq] at this
    exact this
/-- 'string(b)' of a stretch whose bytes are known. -/
theorem conv_cells (w : World) (g o cap : Nat) (l : List UInt8) (hc : ∀ i (h : i < l.length), w.cell? ⟨g, o + i, none⟩ = some (.int .u8 l[i].toNat)) :
    (convert 91 9 (.slice (some ⟨g, o, none⟩) l.length cap)).run Tryz.prog w = .ok (.string (Txt.bytes l)) w := by
  have := run_convert_bytes_arg (P := Tryz.prog) w 91 5 Tryz.underlying91 Tryz.underlying5 g o l.length cap (l.map fun c => (c.toNat : Int)) (by simp) (by
      intro i hi
      rw [hc i hi]; simp [hi]) 9 Tryz.underlying9
  rw [bytes_eq] at this
  exact this
/-- '[]byte(s)'. -/
theorem conv_bytes (w : World) (s : ByteArray) : (convert 9 91 (.string s)).run Tryz.prog w = .ok (.slice (some ⟨w.heap.size, 0, none⟩) s.size (grownCap w s.size 0 5)) (Lib.bytesWorld w 5 s) :=
  Lib.run_convert_string_bytes w _ _ _ s Tryz.underlying9 Tryz.underlying91 Tryz.underlying5
theorem below_bytesWorld (w : World) (e : TypeId) (s : ByteArray) : Below w.heap.size w (Lib.bytesWorld w e s) :=
  ⟨rfl, rfl, rfl, by rw [Lib.bytesWorld_size]; omega, fun k hk => Lib.bytesWorld_at_old w e s k hk⟩
end Go.Proofs.YtejpdfenejbjdaaGreatDoor
